/-
 Ground, fifth text: what the walk of a whole function asks ('vcF'), and that it is enough ('spec_of_vc').
-/
import Derived.Test.YtkehfflpbpdokaaGreatDoorFxd
import Derived.Test.YtkehfflpbpdokaaGreatDoorFxu
open Array renaming getElem?_setIfInBounds_ne->LQ
open Bool renaming and_eq_true->KD,not_eq_true'->LY
open Go.Act renaming put->Qk
open Go.Code renaming region->OQ
open Go.Region renaming wanted->LX
open List renaming mem_append->Kk,mem_cons->Ku,mem_cons_self->Kw,mem_cons_of_mem->KO,mem_filter->KP,mem_singleton->Lc,mem_of_mem_take->LF,mem_of_mem_drop->LG,any_eq_true->MA,take_zero->OR,drop_zero->PC,mem_filterMap->PN,contains_iff_mem->Ri
open Nat renaming eq_of_beq_eq_true->KR,beq->K3,le_succ->Lj
open Option.some renaming inj->Kq
open Prod.mk renaming inj->QY
namespace Go.Proofs.YtkehfflpbpdokaaGreatDoor
structure bK where
 s:Nat
 v:Value
 g:Option (Nat×Bool)
def find:List bK->Nat->Option bK
 |[],_=>none
 |e::r,t=>bif K3 e.s t then some e else find r t
def Fv (a b:Nat×Bool):Bool:=K3 a.1 b.1&&(a.2==b.2)
def IP (gs:List (Nat×Bool)):Option (Nat×Bool)->Bool
 |none=>true
 |some p=>gs.any (Fv p)
def zj (E:List bK)(gs:List (Nat×Bool)):Operand->Option Value
 |.tmp t=>(match find E t with|some e=>(bif IP gs e.g then some e.v else none)|none=>none)
 |.const v=>some v
 |.global g=>some (.pointer (some ⟨g,0,none⟩))
 |.func f=>some (.func (.func f) #[] #[])
def Dj (E:List bK)(gs:List (Nat×Bool))(x:Operand):Value:=(zj E gs x).getD undef
def pT (E:List bK)(gs:List (Nat×Bool))(op:Op):Bool:=op.operands.toList.all λx=>(zj E gs x).isSome
def ez (a:Act)(e:bK):Prop:=
 match e.g with
 |none=>a.tmps[e.s]?=some e.v
 |some (s,b)=>(a.tmps[s]?=some (.bool b)->a.tmps[e.s]?=some e.v)/\(a.tmps[s]?≠some (.bool b)->a.tmps[e.s]?=some undef)
structure Holds (N:Nat)(D:List Deferred)(E:List bK)(a:Act):Prop where
 size:a.tmps.size=N
 defers:a.defers=D
 all:∀e∈E,ez a e
def yn (d:Nat)(e:bK):Bool:=!(K3 e.s d)&&(match e.g with|some (s,_)=>!(K3 s d)|none=>true)
def Cw (d:Nat)(g:Option (Nat×Bool)):Bool:=match g with|some p=>!(K3 p.1 d)|none=>true
def rq (N:Nat)(E:List bK)(dst:Option Nat)(v:Value)(g:Option (Nat×Bool))(K:List bK->Prop):Prop:=
 match dst with
 |none=>K E
 |some d=>bif Nat.blt d N&&Cw d g then K (⟨d,v,g⟩::E.filter (yn d)) else False
def oq (s:Nat)(b:Bool):List bK->List bK
 |[]=>[]
 |e::r=>bif K3 e.s s then ⟨s,.bool b,none⟩::oq s b r else (match e.g with
   |none=>e::oq s b r
   |some p=>bif Fv p (s,b) then ⟨e.s,e.v,none⟩::oq s b r else bif K3 p.1 s then oq s b r else e::oq s b r)
def gT (W:List Nat)(a a':Act):Prop:=∀t,W.contains t=false->a'.tmps[t]?=a.tmps[t]?
theorem gT.refl (W:List Nat)(a:Act):gT W a a:=λ_ _=>rfl
theorem gT.trans {W:List Nat}{a b c:Act}(h:gT W a b)(k:gT W b c):gT W a c:=λt ht=>(k t ht).trans (h t ht)
theorem gT.mono {W W':List Nat}{a b:Act}(h:gT W a b)(hs:∀t,W'.contains t=false->W.contains t=false):gT W' a b:=λt ht=>h t (hs t ht)
theorem gT.put {W:List Nat}{a:Act}{dst:Option Nat}{v:Value}(h:∀d,dst=some d->W.contains d=true):gT W a (a.put dst v):=by
 intro t ht
 cases dst with
 |none=>rfl
 |some d=>
   have hne:d≠t:=by intro e;subst e;rw[h d rfl] at ht;cases ht
   simp[Qk,LQ hne]
theorem eY:∀{E:List bK} {t:Nat} {e:bK},find E t=some e->e∈E/\e.s=t
 |[],_,_,h=>by cases h
 |x::r,t,e,h=>by
   unfold find at h
   cases hb:K3 x.s t with
   |true=>rw[hb] at h;have e1:x=e:=Kq h;subst e1;exact⟨Kw,KR hb⟩
   |false=>rw[hb] at h;have:=eY (E:=r) h;exact⟨KO _ this.1,this.2⟩
theorem lJ {a b:Nat×Bool}(h:Fv a b=true):a=b:=by
 unfold Fv at h
 simp only[KD,beq_iff_eq] at h
 exact Prod.ext (KR h.1) h.2
section
variable {P:Program}{N:Nat}{D:List Deferred}{L:List Nat}
theorem fR {E:List bK}{gs:List (Nat×Bool)}{a:Act}{x:Operand}{v:Value}(hH:Holds N D E a)(hg:∀p∈gs,a.tmps[p.1]?=some (.bool p.2))(h:zj E gs x=some v):a.eval x=v:=by
 cases x with
 |tmp t=>
   simp only[zj] at h
   split at h
   ·rename_i e he
    obtain⟨h1,h2⟩:=eY he
    cases hb:IP gs e.g with
    |false=>rw[hb] at h;cases h
    |true=>
      rw[hb] at h
      have hv:e.v=v:=Kq h
      have hok:=hH.all e h1
      have:a.tmps[e.s]?=some e.v:=by
       unfold ez at hok
       cases hge:e.g with
       |none=>rw[hge] at hok;exact hok
       |some p=>
         rw[hge] at hok hb
         obtain⟨q,hq,heq⟩:=MA.1 hb
         have:=lJ heq
         subst this
         exact hok.1 (hg _ hq)
      rw[h2] at this
      simp only[Act.eval,Array.getD_eq_getD_getElem?,this,hv,Option.getD_some]
   ·cases h
 |const u=>exact Kq h
 |global g=>exact Kq h
 |func f=>exact Kq h
theorem nq {E:List bK}{gs:List (Nat×Bool)}{a:Act}{o:Oper}(hH:Holds N D E a)(hg:∀p∈gs,a.tmps[p.1]?=some (.bool p.2))(h:pT E gs o.op=true)
  (hs:∀cs b,o.op≠.select cs b):execOp a.eval o=execOp (Dj E gs) o:=by
 refine execOp_congr o hs λx hx=>?_
 have:=List.all_eq_true.1 h x (by simpa using hx)
 obtain⟨v,hv⟩:=Option.isSome_iff_exists.1 this
 rw[fR hH hg hv]
 unfold Dj
 rw[hv];rfl
theorem Az {E:List bK}{gs:List (Nat×Bool)}(v:Value):Dj E gs (.const v)=v:=rfl
theorem jq {a:Act}{d:Nat}{v:Value}(h:d<a.tmps.size):(a.put (some d) v).tmps[d]?=some v:=by
 simp[Qk,h]
theorem kY {a:Act}{d t:Nat}{v:Value}(h:d≠t):(a.put (some d) v).tmps[t]?=a.tmps[t]?:=by
 simp[Qk,LQ h]
theorem Cq {a:Act}{dst:Option Nat}{v:Value}:(a.put dst v).tmps.size=a.tmps.size:=by
 cases dst<;>simp[Qk]
theorem put_defers {a:Act}{dst:Option Nat}{v:Value}:(a.put dst v).defers=a.defers:=by
 cases dst<;>simp[Qk]
theorem dN {E:List bK}{dst:Option Nat}{v:Value}{g:Option (Nat×Bool)}{K:List bK->Prop}{a:Act}(hH:Holds N D E a)(h:rq N E dst v g K)
  {u:Value} (hu:∀s b,g=some (s,b)->a.tmps[s]?=some (.bool b)->u=v) (hu0:g=none->u=v) (hu2:∀s b,g=some (s,b)->a.tmps[s]?≠some (.bool b)->u=undef:=by intro _ _ e;cases e):∃E',Holds N D E' (a.put dst u)/\K E':=by
 unfold rq at h
 cases dst with
 |none=>exact⟨E,hH,h⟩
 |some d=>
   simp only at h
   cases hb:(Nat.blt d N&&Cw d g) with
   |false=>rw[hb] at h;exact h.elim
   |true=>
     rw[hb] at h
     simp only[KD] at hb
     have hd:d<a.tmps.size:=by rw[hH.size];exact Nat.le_of_ble_eq_true hb.1
     refine⟨_,⟨Cq.trans hH.size,put_defers.trans hH.defers,?_⟩,h⟩
     intro e he
     rcases Ku.1 he with he|he
     ·subst he
      unfold ez
      cases g with
      |none=>exact(jq hd).trans (by rw[hu0 rfl])
      |some p=>
        obtain⟨s,b⟩:=p
        have hsd:s≠d:=by
         intro e;subst e
         have:=hb.2
         simp[Cw] at this
        refine⟨λhs=>?_,λhs=>?_⟩
        ·rw[kY (Ne.symm hsd)] at hs
         exact(jq hd).trans (by rw[hu s b rfl hs])
        ·rw[kY (Ne.symm hsd)] at hs
         exact(jq hd).trans (by rw[hu2 s b rfl hs])
     ·obtain⟨h1,h2⟩:=KP.1 he
      have hok:=hH.all e h1
      unfold yn at h2
      simp only[KD,LY] at h2
      have hne:d≠e.s:=by
       intro e1
       have:=h2.1
       rw[<-e1] at this
       simp at this
      unfold ez at hok ⊢
      cases hg:e.g with
      |none=>rw[hg] at hok;exact(kY hne).trans hok
      |some p=>
        obtain⟨s,b⟩:=p
        rw[hg] at hok h2
        have hne2:d≠s:=by
         intro e1
         have:=h2.2
         rw[<-e1] at this
         simp at this
        refine⟨λhs=>?_,λhs=>?_⟩
        ·rw[kY hne2] at hs
         exact(kY hne).trans (hok.1 hs)
        ·rw[kY hne2] at hs
         exact(kY hne).trans (hok.2 hs)
theorem pd {s:Nat}{b:Bool}{a:Act}(hs:a.tmps[s]?=some (.bool b)):∀{E:List bK},(∀e∈E,ez a e)->∀e∈oq s b E,ez a e
 |[],_,e,he=>by simp[oq] at he
 |x::r,h,e,he=>by
   have hr:=pd hs (E:=r) (λe he=>h e (KO _ he))
   have hx:=h x Kw
   unfold oq at he
   cases hb:K3 x.s s with
   |true=>
     rw[hb] at he
     rcases Ku.1 he with he|he
     ·subst he;exact hs
     ·exact hr e he
   |false=>
     rw[hb] at he
     simp only[cond_false] at he
     unfold ez at hx
     cases hg:x.g with
     |none=>
       rw[hg] at he hx
       rcases Ku.1 he with he|he
       ·subst he;unfold ez;rw[hg];exact hx
       ·exact hr e he
     |some p=>
       rw[hg] at he hx
       simp only at he
       cases hb2:Fv p (s,b) with
       |true=>
         rw[hb2] at he
         have:=lJ hb2
         subst this
         rcases Ku.1 he with he|he
         ·subst he;exact hx.1 hs
         ·exact hr e he
       |false=>
         rw[hb2] at he
         simp only[cond_false] at he
         cases hb3:K3 p.1 s with
         |true=>rw[hb3] at he;exact hr e he
         |false=>
           rw[hb3] at he
           rcases Ku.1 he with he|he
           ·subst he;unfold ez;rw[hg];exact hx
           ·exact hr e he
theorem Holds.oq {E:List bK}{a:Act}{s:Nat}{b:Bool}(hH:Holds N D E a)(hs:a.tmps[s]?=some (.bool b)):Holds N D (oq s b E) a:=
 ⟨hH.size,hH.defers,pd hs hH.all⟩
def jU (s:Nat)(b:Bool)(E:List bK):List bK:=oq s b E++[⟨s,.bool b,some (s,b)⟩]
theorem Holds.jU {E:List bK}{a:Act}{s:Nat}{b:Bool}(hH:Holds N D E a)(hs:a.tmps[s]?=some (.bool b)):Holds N D (jU s b E) a:=
 ⟨hH.size,hH.defers,λe he=>by
  rcases Kk.1 he with h|h
  ·exact(hH.oq hs).all e h
  ·rw[Lc.1 h];exact⟨λh=>h,λh=>absurd hs h⟩⟩
def mg (s:Nat)(b:Bool):List bK->List bK
 |[]=>[]
 |e::r=>bif K3 e.s s then ⟨s,.bool b,none⟩::mg s b r else (match e.g with
   |none=>e::mg s b r
   |some p=>bif Fv p (s,b) then ⟨e.s,e.v,none⟩::mg s b r else bif K3 p.1 s then ⟨e.s,undef,none⟩::mg s b r else e::mg s b r)
theorem nO {s:Nat}{b:Bool}{a:Act}(hs:a.tmps[s]?=some (.bool b)):∀{E:List bK},(∀e∈E,ez a e)->∀e∈mg s b E,ez a e
 |[],_,e,he=>by simp[mg] at he
 |x::r,h,e,he=>by
   have hr:=nO hs (E:=r) (λe he=>h e (KO _ he))
   have hx:=h x Kw
   unfold mg at he
   cases hb:K3 x.s s with
   |true=>
     rw[hb] at he
     rcases Ku.1 he with he|he
     ·subst he;exact hs
     ·exact hr e he
   |false=>
     rw[hb] at he
     simp only[cond_false] at he
     unfold ez at hx
     cases hg:x.g with
     |none=>
       rw[hg] at he hx
       rcases Ku.1 he with he|he
       ·subst he;unfold ez;rw[hg];exact hx
       ·exact hr e he
     |some p=>
       rw[hg] at he hx
       simp only at he
       cases hb2:Fv p (s,b) with
       |true=>
         rw[hb2] at he
         have:=lJ hb2
         subst this
         rcases Ku.1 he with he|he
         ·subst he
          exact hx.1 hs
         ·exact hr e he
       |false=>
         rw[hb2] at he
         simp only[cond_false] at he
         cases hb3:K3 p.1 s with
         |true=>
           rw[hb3] at he
           have e3:=KR hb3
           obtain⟨p1,p2⟩:=p
           simp only at e3 hx
           subst e3
           rcases Ku.1 he with he|he
           ·subst he
            refine hx.2 λq=>?_
            rw[hs] at q
            have q2:b=p2:=by injection q with q;injection q
            subst q2
            unfold Fv at hb2
            simp at hb2
           ·exact hr e he
         |false=>
           rw[hb3] at he
           rcases Ku.1 he with he|he
           ·subst he;unfold ez;rw[hg];exact hx
           ·exact hr e he
def tz (s:Nat)(b:Bool)(E:List bK):List bK:=mg s b E++[⟨s,.bool b,some (s,b)⟩]
theorem Holds.tz {E:List bK}{a:Act}{s:Nat}{b:Bool}(hH:Holds N D E a)(hs:a.tmps[s]?=some (.bool b)):Holds N D (tz s b E) a:=
 ⟨hH.size,hH.defers,λe he=>by
  rcases Kk.1 he with h|h
  ·exact nO hs hH.all e h
  ·rw[Lc.1 h];exact⟨λh=>h,λh=>absurd hs h⟩⟩
def isLit (E:List bK)(s:Nat):Bool:=E.any λe=>K3 e.s s&&(match e.g with|some p=>K3 p.1 s|none=>false)
def tv (gs:List (Nat×Bool))(c:Operand)(b:Bool):List (Nat×Bool):=match c with|.tmp t=>(t,b)::gs|_=>gs
def Jn (M:Option (aa->Prop))(H:aa)(A:Prop):Prop:=match M with|none=>A|some G=>G H/\A
def mH:Op->Bool
 |.select ..=>true
 |_=>false
def jY (P:Program)(E:List bK)(gs:List (Nat×Bool))(o:Oper):Option Value:=
 match o.op with
 |.pick c a b=>(match zj E gs c,zj E (tv gs c true) a,zj E (tv gs c false) b with
   |some (.bool t),some va,some vb=>some (nP t a b va vb)
   |_,_,_=>none)
 |op=>bif yh P op&&(pT E gs op&&!(mH op)) then evalOp P o (Dj E gs) else none
def vP (P:Program)(L:List Nat)(E:List bK)(gs:List (Nat×Bool))(o:Oper)(M:Option (aa->Prop))(H:aa)(K:Value->aa->Prop):Prop:=
 match jY P E gs o with
 |some v=>K v H
 |none=>bif pT E gs o.op&&!(mH o.op) then
   (match ie P o.op with
    |0=>tx P o.op (Dj E gs) λv=>K v H
    |1=>oz P o.op o.type (Dj E gs) (bif Ix L o then none else M) H λv=>K v H
    |_=>w9 P o.op o.type (Dj E gs) H λv H'=>Jn M H' (K v H'))
   else False
theorem jl {E:List bK}{gs:List (Nat×Bool)}{o:Oper}{a:Act}{v:Value}(hH:Holds N D E a)(hg:∀p∈gs,a.tmps[p.1]?=some (.bool p.2))
  (h:jY P E gs o=some v) (w':World):(execOp a.eval o).run P w'=.ok (.value v) w':=by
 unfold jY at h
 split at h
 ·rename_i c x y hop
  split at h
  ·rename_i t va vb hc hx hy
   have hv:nP t x y va vb=v:=Kq h
   subst hv
   have ec:=fR hH hg hc
   have key:nP t x y va vb=if t then a.eval x else a.eval y:=by
    have hct:∀b,t=b->∀p∈tv gs c b,a.tmps[p.1]?=some (.bool p.2):=by
     intro b hb p hp
     cases c with
     |tmp s=>
       simp only[tv] at hp
       rcases Ku.1 hp with hp|hp
       ·subst hp
        simp only[zj] at hc
        split at hc
        ·rename_i e he
         obtain⟨h1,h2⟩:=eY he
         cases hb2:IP gs e.g with
         |false=>rw[hb2] at hc;cases hc
         |true=>
           rw[hb2] at hc
           have hv:e.v=.bool t:=Kq hc
           have hok:=hH.all e h1
           have:a.tmps[e.s]?=some e.v:=by
            unfold ez at hok
            cases hge:e.g with
            |none=>rw[hge] at hok;exact hok
            |some p=>
              rw[hge] at hok hb2
              obtain⟨q,hq,heq⟩:=MA.1 hb2
              have:=lJ heq
              subst this
              exact hok.1 (hg _ hq)
           rw[h2,hv,hb] at this
           exact this
        ·cases hc
       ·exact hg p hp
     |_=>exact hg p hp
    -- the constant's own case
    have cx:∀v,x=.const v->va=v:=λv e=>by subst e;exact(Kq hx).symm
    have cy:∀v,y=.const v->vb=v:=λv e=>by subst e;exact(Kq hy).symm
    have e0:nP t x y va vb=if t then va else vb:=by
     unfold nP
     split
     ·rename_i p q
      split
      ·have:=cy _ rfl
       have e2:q=false:=by simpa using this
       subst e2;cases t<;>simp
      ·split
       ·have:=cx _ rfl
        have e2:p=true:=by simpa using this
        subst e2;cases t<;>simp
       ·cases t<;>simp
     ·cases t<;>simp
    rw[e0]
    cases t with
    |true=>simp only[if_true];rw[fR hH (hct true rfl) hx]
    |false=>simp only[Bool.false_eq_true,if_false];rw[fR hH (hct false rfl) hy]
   simp only[execOp,hop,ec,asBool,Sem.run_bind,Sem.run_pure,Result.andThen_ok,key]
  ·cases h
 ·cases hb:(yh P o.op&&(pT E gs o.op&&!(mH o.op))) with
  |false=>rw[hb] at h;cases h
  |true=>
    rw[hb] at h
    simp only[KD,LY] at hb
    have hs:∀cs b,o.op≠.select cs b:=λcs b e=>by rw[e] at hb;cases hb.2.2
    rw[nq hH hg hb.2.1 hs]
    exact wU h w'
theorem ju {c:Nat}{M:Option (aa->Prop)}{r:World->Result Next}{v:Value}{R:Value->World->Prop}{w:World}(hG:iX M w.heap)(hv:∀w',r w'=.ok (.value v) w')(hr:R v w):eX P M c r R w:=by
 match c with
 |0=>exact⟨v,hv,hr⟩
 |1=>exact⟨v,λw' _=>hv w',hr⟩
 |_+2=>show mO P (r w) _;rw[hv w];exact⟨hG,hr⟩
theorem px {L:List Nat}{o:Oper}{c:Nat}(h:ie P o.op=c)(hc:c≠1):de P L o=c:=by
 unfold de
 have:K3 (ie P o.op) 1=false:=by
  cases hb:K3 (ie P o.op) 1 with
  |false=>rfl
  |true=>exact absurd (h.symm.trans (KR hb)) hc
 rw[this];exact h
theorem zF {L:List Nat}{o:Oper}(h:ie P o.op=1)(hl:Ix L o=true):de P L o=2:=by
 unfold de;rw[h,hl];rfl
theorem xZ {L:List Nat}{o:Oper}(h:ie P o.op=1)(hl:Ix L o=false):de P L o=1:=by
 unfold de;rw[h,hl];rfl
theorem vN (hNG:kV P){E:List bK}{gs:List (Nat×Bool)}{o:Oper}{M:Option (aa->Prop)}{a:Act}{w:World}{K:Value->aa->Prop}{R:Value->World->Prop}
  (hH:Holds N D E a) (hg:∀p∈gs,a.tmps[p.1]?=some (.bool p.2)) (hG:iX M w.heap) (hK:∀v w',Alike w w'->iX M w'.heap->K v w'.heap->R v w')
  (h:vP P L E gs o M w.heap K):eX P M (de P L o) (λw=>(execOp a.eval o).run P w) R w:=by
 unfold vP at h
 split at h
 ·rename_i v hv
  exact ju hG (jl hH hg hv) (hK v w (.refl w) hG h)
 ·cases hb:(pT E gs o.op&&!(mH o.op)) with
  |false=>rw[hb] at h;exact h.elim
  |true=>
    rw[hb] at h
    simp only[KD,LY] at hb
    have hs:∀cs b,o.op≠.select cs b:=λcs b e=>by rw[e] at hb;cases hb.2
    have he:=nq hH hg hb.1 hs
    simp only[cond_true] at h
    rw[he]
    split at h
    ·rename_i hc
     rw[px hc (by decide)]
     obtain⟨v,h1,h2⟩:=qU (o:=o) (Az) h
     exact⟨v,h1,hK v w (.refl w) hG h2⟩
    ·rename_i hc
     cases hl:Ix L o with
     |true=>
       rw[hl] at h
       simp only[cond_true] at h
       obtain⟨v,h1,h2⟩:=iz (o:=o) h
       rw[zF hc hl]
       have h3:=h1 w rfl
       show mO P ((execOp (Dj E gs) o).run P w) _
       rw[h3]
       exact⟨hG,hK v w (.refl w) hG h2⟩
     |false=>
       rw[hl] at h
       simp only[cond_false] at h
       obtain⟨v,h1,h2⟩:=iz (o:=o) h
       rw[xZ hc hl]
       exact⟨v,λw' hw'=>h1 w' hw',hK v w (.refl w) hG h2⟩
    ·rename_i c n0 n1
     have h3:mO P ((execOp (Dj E gs) o).run P w) (λv w'=>iX M w'.heap/\R v w'):=by
      refine ti hNG (M:=M) (K:=λv H'=>Jn M H' (K v H')) ?_ h
      intro v w' ha hk
      cases M with
      |none=>exact⟨trivial,hK v w' ha trivial hk⟩
      |some G=>exact⟨hk.1,hK v w' ha hk.1 hk.2⟩
     have n1':ie P o.op≠1:=λe=>n1 e
     have n0':ie P o.op≠0:=λe=>n0 e
     have n1'':de P L o=ie P o.op:=px rfl n1'
     rw[n1'']
     generalize ie P o.op=c at*
     match c with
     |0=>exact absurd rfl n0'
     |1=>exact absurd rfl n1'
     |_+2=>exact h3
def tW (ops:Array Oper)(j:Nat):Option Nat:=match ops[j]? with|some o=>o.dst|none=>none
theorem nT {ops:Array Oper}{o:Oper}{a:Act}{j s:Nat}{want:Bool}(hg:o.guard=some (j,want))(hs:tW ops j=some s):
  (LX o (yielded ops a.tmps)=true↔a.tmps[s]?=some (.bool want)):=by
 have hb:(ops[j]?).bind (·.dst)=some s:=by
  unfold tW at hs
  split at hs
  ·rename_i o' ho;rw[ho];exact hs
  ·cases hs
 simp only[LX,hg,yielded,hb,Option.bind_some]
 constructor
 ·intro h
  split at h
  ·rename_i b hb2;rw[hb2];simpa using h
  ·simp at h
 ·intro h;rw[h];simp
def gW (P:Program)(N:Nat)(L:List Nat)(M:Option (aa->Prop))(o:Oper)(E:List bK)(H:aa)(s:Nat)(want b:Bool)(K:List bK->aa->Prop):Prop:=
 bif b==want then vP P L (jU s b E) [] o M H λv H'=>rq N (jU s b E) o.dst v none λE'=>K E' H'
 else rq N (jU s b E) o.dst undef none λE'=>K E' H
def xi (E:List bK)(s:Nat):Bool:=match find E s with|some ⟨_,.tuple _,none⟩=>true|_=>false
def yJ (ops:Array Oper)(o:Oper):Bool:=match o.op with
 |.extract (.tmp t) _=>ops.toList.any λp=>(match p.op with|.entry _=>(match p.dst with|some d=>K3 d t|none=>false)|_=>false)
 |_=>false
def II (P:Program)(N:Nat)(L:List Nat)(ops:Array Oper)(M:Option (aa->Prop))(o:Oper)(E:List bK)(H:aa)(K:List bK->aa->Prop):Prop:=
 match o.guard with
 |none=>bif yJ ops o then (match jY P E [] o with
   |some v=>Iz (jr P o.type) v λy=>rq N E o.dst ((jr P o.type).enc y) none λE'=>K E' H
   |none=>False)
   else vP P L E [] o M H λv H'=>rq N E o.dst v none λE'=>K E' H'
 |some (j,want)=>(match tW ops j with
   |none=>False
   |some s=>bif xi E s then rq N E o.dst undef none λE'=>K E' H else bif isLit E s then (match find E s with
     |some ⟨_,.bool b,none⟩=>br b (gW P N L M o E H s want true K) (gW P N L M o E H s want false K)
     |_=>False) else (match jY P E [(s,want)] o with
     |some v=>rq N E o.dst v (some (s,want)) λE'=>K E' H
     |none=>(match find E s with
       |some ⟨_,.bool b,none⟩=>br b (gW P N L M o E H s want true K) (gW P N L M o E H s want false K)
       |some ⟨_,.bool b,some (s2,w2)⟩=>(match find E s2 with
         |some ⟨_,.bool b2,none⟩=>
           br (b2==w2) (br b (gW P N L M o (jU s2 w2 E) H s want true K) (gW P N L M o (jU s2 w2 E) H s want false K)) (rq N (tz s2 (!w2) E) o.dst undef none λE'=>K E' H)
         |_=>False)
       |_=>False)))
theorem yV (hNG:kV P){ops:Array Oper}{M:Option (aa->Prop)}{o:Oper}{E:List bK}{a:Act}{w:World}{K:List bK->aa->Prop}{K':Act->World->Prop}
  (hH:Holds N D E a) (hG:iX M w.heap)
  (hK:∀E' u w',Holds N D E' (a.put o.dst u)->Alike w w'->iX M w'.heap->K E' w'.heap->K' (a.put o.dst u) w')
  (h:II P N L ops M o E w.heap K):eH P M L ops o K' a w:=by
 have plain:∀{E:List bK},Holds N D E a->vP P L E [] o M w.heap (λv H'=>rq N E o.dst v none λE'=>K E' H')->
   eX P M (de P L o) (λw=>(execOp a.eval o).run P w) (λv w'=>K' (a.put o.dst v) w') w:=by
  intro E hH h
  refine vN hNG hH (by simp) hG (λv w' ha hg hk=>?_) h
  obtain⟨E',h1,h2⟩:=dN hH hk (u:=v) (λ_ _ _ _=>rfl) (λ_=>rfl)
  exact hK E' v w' h1 ha hg h2
 have known:∀{E:List bK} {s:Nat} {want b:Bool} {j:Nat},o.guard=some (j,want)->tW ops j=some s->Holds N D E a->a.tmps[s]?=some (.bool b)->gW P N L M o E w.heap s want b K->eH P M L ops o K' a w:=by
  intro E s want b j hg hs hH hv h
  have hw:=nT (a:=a) hg hs
  unfold gW at h
  unfold eH
  by_cases e:b=want
  ·subst e
   simp only[beq_self_eq_true,cond_true] at h
   rw[if_pos (hw.2 hv)]
   exact plain (hH.jU hv) h
  ·have hne:(b==want)=false:=by simpa using e
   rw[hne] at h
   simp only[cond_false] at h
   rw[if_neg (λhh=>by
    have:=hw.1 hh
    rw[hv] at this
    simp at this
    exact e this)]
   obtain⟨E',h1,h2⟩:=dN (hH.jU hv) h (u:=undef) (λ_ _ _ _=>rfl) (λ_=>rfl)
   exact hK E' undef w h1 (.refl w) hG h2
 unfold II at h
 split at h
 ·rename_i hg
  unfold eH
  rw[if_pos (by simp[LX,hg])]
  cases hoe:yJ ops o with
  |false=>rw[hoe] at h;exact plain hH h
  |true=>
    rw[hoe] at h
    simp only[cond_true] at h
    split at h
    ·rename_i v hv
     obtain⟨y,rfl,hy⟩:=h
     obtain⟨E',h1,h2⟩:=dN hH hy (u:=(jr P o.type).enc y) (λ_ _ _ _=>rfl) (λ_=>rfl)
     exact ju hG (jl hH (by simp) hv) (hK E' _ w h1 (.refl w) hG h2)
    ·exact h.elim
 ·rename_i j want hg
  split at h
  ·exact h.elim
  ·rename_i s hs
   have hw:=nT (a:=a) hg hs
   cases hnb:xi E s with
   |true=>
     rw[hnb] at h
     simp only[cond_true] at h
     have hv:∃vs,a.tmps[s]?=some (.tuple vs):=by
      unfold xi at hnb
      split at hnb
      ·rename_i s' vs hf
       obtain⟨h1,h2⟩:=eY hf
       have:=hH.all _ h1
       simp only at h2
       subst h2
       exact⟨vs,this⟩
      ·cases hnb
     obtain⟨vs,hv⟩:=hv
     unfold eH
     rw[if_neg (λhh=>by have:=hw.1 hh;rw[hv] at this;simp at this)]
     obtain⟨E',h1,h2⟩:=dN hH h (u:=undef) (λ_ _ _ _=>rfl) (λ_=>rfl)
     exact hK E' undef w h1 (.refl w) hG h2
   |false=>
   rw[hnb] at h
   simp only[cond_false] at h
   cases hil:isLit E s with
   |true=>
     rw[hil] at h
     simp only[cond_true] at h
     split at h
     ·rename_i s' b hf
      obtain⟨h1,h2⟩:=eY hf
      have hv:a.tmps[s]?=some (.bool b):=by have:=hH.all _ h1;simp only at h2;subst h2;exact this
      cases b with
      |true=>exact known hg hs hH hv h
      |false=>exact known hg hs hH hv h
     ·exact h.elim
   |false=>
   rw[hil] at h
   simp only[cond_false] at h
   split at h
   ·rename_i v hv
    unfold eH
    split
    ·rename_i hwant
     have hsl:=hw.1 hwant
     obtain⟨E',h1,h2⟩:=dN hH h (u:=v) (λ_ _ _ _=>rfl) (λ_=>rfl) (hu2:=λs' b' e hh=>by obtain⟨rfl,rfl⟩:=(QY (Kq e));exact absurd hsl hh)
     exact ju hG (jl hH (by intro p hp;rw[Lc.1 hp];exact hsl) hv) (hK E' v w h1 (.refl w) hG h2)
    ·rename_i hwant
     obtain⟨E',h1,h2⟩:=dN hH h (u:=undef) (λs' b' e hh=>by obtain⟨rfl,rfl⟩:=(QY (Kq e));exact absurd (hw.2 hh) hwant) (λe=>by cases e) (hu2:=λ_ _ _ _=>rfl)
     exact hK E' undef w h1 (.refl w) hG h2
   ·split at h
    ·rename_i s' b hf
     obtain⟨h1,h2⟩:=eY hf
     have hv:a.tmps[s]?=some (.bool b):=by have:=hH.all _ h1;simp only at h2;subst h2;exact this
     cases b with
     |true=>exact known hg hs hH hv h
     |false=>exact known hg hs hH hv h
    ·rename_i s' b s2 w2 hf
     split at h
     ·rename_i s3 b2 hf2
      obtain⟨h1,h2⟩:=eY hf
      obtain⟨h3,h4⟩:=eY hf2
      have hv2:a.tmps[s2]?=some (.bool b2):=by have:=hH.all _ h3;simp only at h4;subst h4;exact this
      obtain⟨h5,h6⟩:=A8.1 h
      by_cases e:b2=w2
      ·subst e
       have h7:=h5 (by simp)
       have hv:a.tmps[s]?=some (.bool b):=by
        have:=hH.all _ h1
        simp only at h2
        subst h2
        exact this.1 hv2
       cases b with
       |true=>exact known hg hs (hH.jU hv2) hv h7
       |false=>exact known hg hs (hH.jU hv2) hv h7
      ·have h7:=h6 (by simpa using e)
       have e2:b2=!w2:=by cases b2<;>cases w2<;>simp_all
       have hu:a.tmps[s]?=some undef:=by
        have:=hH.all _ h1
        simp only at h2
        subst h2
        exact this.2 (by rw[hv2];intro q;injection q with q;injection q with q;exact e q)
       have hnw:¬LX o (yielded ops a.tmps)=true:=λhh=>by
        have:=hw.1 hh
        rw[hu] at this
        unfold undef at this
        cases this
       unfold eH
       rw[if_neg hnw]
       obtain⟨E',k1,k2⟩:=dN (hH.tz (by rw[hv2,e2])) h7 (u:=undef) (λ_ _ _ _=>rfl) (λ_=>rfl)
       exact hK E' undef w k1 (.refl w) hG k2
     ·exact h.elim
    ·exact h.elim
def hR (P:Program)(N:Nat)(L:List Nat)(ops:Array Oper)(M:Option (aa->Prop)):List Oper->List bK->aa->(List bK->aa->Prop)->Prop
 |[],E,H,K=>K E H
 |o::l,E,H,K=>II P N L ops M o E H λE' H'=>hR P N L ops M l E' H' K
def Bx (l:List Oper):List Nat:=l.filterMap (·.dst)
theorem cO (hNG:kV P){ops:Array Oper}{M:Option (aa->Prop)}{K:List bK->aa->Prop}{K':Act->World->Prop}{W:List Nat}{a0:Act}{w0:World}
  (hK:∀E' a' w',Holds N D E' a'->gT W a0 a'->Alike w0 w'->iX M w'.heap->K E' w'.heap->K' a' w'):
  ∀(l:List Oper),(∀o∈l,∀d,o.dst=some d->W.contains d=true)->∀(E:List bK) (a:Act) (w:World),Holds N D E a->gT W a0 a->Alike w0 w->iX M w.heap->hR P N L ops M l E w.heap K->fq P M L ops K' l a w
 |[],_,E,a,w,hH,hS,hA,hG,h=>hK E a w hH hS hA hG h
 |o::l,hW,_,_,_,hH,hS,hA,hG,h=>
   yV hNG hH hG (λE' _ w' h1 ha hg h2=>cO hNG hK l (λo' ho'=>hW o' (KO _ ho')) E' _ w' h1
    (hS.trans (gT.put (hW o Kw))) (hA.trans ha) hg h2) h
def IQ (P:Program)(N:Nat)(ops:Array Oper)(draw:Bool)(E:List bK)(H:aa)(K:List bK->aa->Prop):Prop:=
 bif draw then (bif di P [] 0 ops then hR P N [] ops none ops.toList E H K
  else let L:=pz P ops
   let k:=uA P L ops
   bif di P L k ops then (bif K3 k 0 then hR P N L ops none ops.toList E H K else ∃G:aa->Prop,G H/\hR P N L ops (some G) (ops.toList.take k) E H λE' H'=>hR P N L ops none (ops.toList.drop k) E' H' K) else False)
 else hR P N [] ops none ops.toList E H K
theorem zy (hNG:kV P)(hm:P.follows .mixedOrders=true){rn:Option Nat}{id:Nat}{ops:Array Oper}{draw:Bool}{E:List bK}{a:Act}{w:World}{K:List bK->aa->Prop}{Q:Exit->Act->World->Prop}
  (hH:Holds N D E a) (hK:∀E' a' w',Holds N D E' a'->gT (Bx ops.toList) a a'->Alike w w'->K E' w'.heap->Q .normal a' w')
  (h:IQ P N ops draw E w.heap K):(OQ id ops draw).wpIn (FW rn) 0 P Q a w:=by
 have hW:∀o∈ops.toList,∀d,o.dst=some d->(Bx ops.toList).contains d=true:=by
  intro o ho d hd
  rw[Ri]
  exact PN.2 ⟨o,ho,hd⟩
 unfold IQ at h
 cases draw with
 |false=>
   exact ry (cO (M:=none) hNG (λE' a' w' k1 k2 k3 _ k4=>hK E' a' w' k1 k2 k3 k4) ops.toList hW E a w hH (.refl _ _) (.refl _) trivial h)
 |true=>
   simp only[cond_true] at h
   have hd:Alike w {w with drawn:=w.drawn+1}:=.of_le rfl (Lj _)
   cases h1:di P [] 0 ops with
   |true=>
     rw[h1] at h
     refine gH (M:=none) (k:=0) hm (λi hi=>by omega) h1 trivial ?_
     show fq P none [] ops _ (ops.toList.take 0) _ _
     rw[OR,PC]
     exact cO (M:=none) hNG (λE' a' w' k1 k2 k3 _ k4=>hK E' a' w' k1 k2 k3 k4) ops.toList hW E a _ hH (.refl _ _) hd trivial h
   |false=>
     rw[h1] at h
     simp only[cond_false] at h
     cases h2:di P (pz P ops) (uA P (pz P ops) ops) ops with
     |true=>
       rw[h2] at h
       simp only[cond_true] at h
       cases hk0:K3 (uA P (pz P ops) ops) 0 with
       |true=>
         rw[hk0] at h
         have e0:=KR hk0
         rw[e0] at h2
         refine gH (M:=none) (k:=0) hm (λi hi=>by omega) h2 trivial ?_
         show fq P none (pz P ops) ops _ (ops.toList.take 0) _ _
         rw[OR,PC]
         exact cO (M:=none) hNG (λE' a' w' k1 k2 k3 _ k4=>hK E' a' w' k1 k2 k3 k4) ops.toList hW E a _ hH (.refl _ _) hd trivial h
       |false=>
       rw[hk0] at h
       obtain⟨G,h3,h4⟩:=h
       refine gH (M:=some G) hm (λ_ _=>rfl) h2 h3 (cO hNG (λE' a' w' k1 k2 k3 _ k4=>?_) (ops.toList.take _) (λo ho=>hW o (LF ho)) E a _ hH (.refl _ _) hd h3 h4)
       exact cO (M:=none) hNG (λE' a' w' k1 k2 k3 _ k4=>hK E' a' w' k1 k2 k3 k4) (ops.toList.drop _) (λo ho=>hW o (LG ho)) E' a' w' k1 k2 k3 trivial k4
     |false=>
       rw[h2] at h
       simp only[cond_false] at h
def nh (ops:Array Oper)(l:List Nat):List Oper:=l.flatMap λi=>(ops.toList.drop i).take 1
def Hv (P:Program)(N:Nat)(L:List Nat)(ops:Array Oper)(M:Option (aa->Prop))(f c:Nat):List Nat->List bK->aa->(List bK->aa->Prop)->Prop
 |[],E,H,K=>hR P N L ops M (nh ops [f]) E H K
 |i::l,E,H,K=>bif Nat.ble c i then hR P N L ops M (nh ops (f::i::l)) E H K else
   bif fZ P L ops f c i then hR P N L ops M (nh ops (f::i::l)) E H K/\hR P N L ops M (nh ops [i]) E H (λE' H'=>Hv P N L ops M f c l E' H' K)
   else hR P N L ops M (nh ops [i]) E H λE' H'=>Hv P N L ops M f c l E' H' K
def GW (f c:Nat)(P:Program)(N:Nat)(ops:Array Oper)(E:List bK)(H:aa)(K:List bK->aa->Prop):Prop:=
 let L:=pz P ops
 bif qE P L ops f c (fy ops.toList []) then ∃G:aa->Prop,G H/\Hv P N L ops (some G) f c (iQ ops.size f) E H K else False
theorem mz {M:Option (aa->Prop)}{L:List Nat}{ops:Array Oper}{K:Act->World->Prop}:∀(l:List Nat),(∀i∈l,i<ops.size)->dS P M ops.size L ops K l=fq P M L ops K (nh ops l)
 |[],_=>rfl
 |i::l,h=>by
   have hi:=h i Kw
   have ih:=mz (M:=M) (L:=L) (K:=K) l λk hk=>h k (KO _ hk)
   have e:(ops.toList.drop i).take 1=[ops[i]]:=by
    rw[List.drop_eq_getElem_cons (by simpa using hi)];simp
   have e2:nh ops (i::l)=ops[i]::nh ops l:=by
    unfold nh;rw[List.flatMap_cons,e];rfl
   have mi:mP M ops.size i=M:=by unfold mP;rw[fi.2 hi];rfl
   rw[e2]
   funext a w
   simp only[dS,fq,bS,Array.getElem?_eq_getElem hi,mi,ih]
theorem zq (hNG:kV P){L:List Nat}{ops:Array Oper}{M:Option (aa->Prop)}{f c:Nat}{K:List bK->aa->Prop}{K':Act->World->Prop}{W:List Nat}{a0:Act}{w0:World}
  (hK:∀E' a' w',Holds N D E' a'->gT W a0 a'->Alike w0 w'->iX M w'.heap->K E' w'.heap->K' a' w') (hf:f<ops.size) (hW:∀o∈ops.toList,∀d,o.dst=some d->W.contains d=true):
  ∀(l:List Nat),(∀i∈l,i<ops.size)->∀(E:List bK) (a:Act) (w:World),Holds N D E a->gT W a0 a->Alike w0 w->iX M w.heap->Hv P N L ops M f c l E w.heap K->iq P M L ops f c K' l a w:=by
 have hWi:∀l:List Nat,∀o∈nh ops l,∀d,o.dst=some d->W.contains d=true:=λl o ho=>by
  unfold nh at ho
  obtain⟨i,_,hi⟩:=List.mem_flatMap.1 ho
  exact hW o (LG (LF hi))
 intro l
 induction l with
 |nil=>
   intro _ E a w hH hS hA hG h
   unfold iq
   rw[mz [f] λi hi=>by rw[Lc] at hi;subst hi;exact hf]
   exact cO hNG hK _ (hWi _) E a w hH hS hA hG h
 |cons i l ih=>
   intro hl E a w hH hS hA hG h
   have hi:=hl i Kw
   have ih':=ih λk hk=>hl k (KO _ hk)
   have full:hR P N L ops M (nh ops (f::i::l)) E w.heap K->dS P M ops.size L ops K' (f::i::l) a w:=λhx=>by
    rw[mz (f::i::l) λk hk=>by
     rcases Ku.1 hk with q|q
     ·subst q;exact hf
     ·exact hl k q]
    exact cO hNG hK _ (hWi _) E a w hH hS hA hG hx
   have one:hR P N L ops M (nh ops [i]) E w.heap (λE' H'=>Hv P N L ops M f c l E' H' K)->bS P M ops.size L ops i (iq P M L ops f c K' l) a w:=λhx=>by
    have:=cO (K':=iq P M L ops f c K' l) hNG (λE' a' w' h1 h2 h3 h4 h5=>ih' E' a' w' h1 h2 h3 h4 h5) _ (hWi [i]) E a w hH hS hA hG hx
    rw[<-mz [i] λk hk=>by rw[Lc] at hk;subst hk;exact hi] at this
    exact this
   unfold Hv at h
   unfold iq
   cases hb:Nat.ble c i with
   |true=>rw[hb] at h;exact full h
   |false=>
     rw[hb] at h
     cases hs:fZ P L ops f c i with
     |true=>rw[hs] at h;exact⟨full h.1,one h.2⟩
     |false=>rw[hs] at h;exact one h
theorem xP (hNG:kV P)(hm:P.follows .mixedOrders=true){f c:Nat}{rn:Option Nat}{id:Nat}{ops:Array Oper}{E:List bK}{a:Act}{w:World}{K:List bK->aa->Prop}{Q:Exit->Act->World->Prop}
  (hH:Holds N D E a) (hK:∀E' a' w',Holds N D E' a'->gT (Bx ops.toList) a a'->Alike w w'->K E' w'.heap->Q .normal a' w')
  (h:GW f c P N ops E w.heap K):(OQ id ops true).wpIn (FW rn) 0 P Q a w:=by
 have hW:∀o∈ops.toList,∀d,o.dst=some d->(Bx ops.toList).contains d=true:=by
  intro o ho d hd
  rw[Ri]
  exact PN.2 ⟨o,ho,hd⟩
 have hd:Alike w {w with drawn:=w.drawn+1}:=.of_le rfl (Lj _)
 unfold GW at h
 simp only at h
 cases h2:qE P (pz P ops) ops f c (fy ops.toList []) with
 |false=>rw[h2] at h;exact h.elim
 |true=>
   rw[h2] at h
   obtain⟨G,h3,h4⟩:=h
   have hF:=nH h2
   exact oc (M:=some G) hm rfl h2 h3 (zq hNG (λE' a' w' k1 k2 k3 _ k4=>hK E' a' w' k1 k2 k3 k4) (Nat.lt_trans hF.fc hF.cn) hW _ (λi hi=>List.mem_range.1 (KP.1 hi).1) E a _ hH (.refl _ _) hd h3 h4)
end
end Go.Proofs.YtkehfflpbpdokaaGreatDoor
