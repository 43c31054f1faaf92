/-
 Ground, fifth text: what the walk of a whole function asks ('vcF'), and that it is enough ('spec_of_vc').
-/
import Derived.Test.YtkehfflpbpdokaaGreatDoorFxd
import Derived.Test.YtkehfflpbpdokaaGreatDoorFxu
open Array renaming getElem?_setIfInBounds_ne->LQ
open Bool renaming and_eq_true->KD,not_eq_true'->LY
open Go.Act renaming put->Qk
open Go.Code renaming region->OQ
open Go.Region renaming wanted->LX
open List renaming mem_append->Kk,mem_cons->Ku,mem_cons_self->Kw,mem_cons_of_mem->KO,mem_filter->KP,mem_singleton->Lc,mem_of_mem_take->LF,mem_of_mem_drop->LG,any_eq_true->MA,take_zero->OR,drop_zero->PC,mem_filterMap->PN,contains_iff_mem->Ri
open Nat renaming eq_of_beq_eq_true->KR,beq->K3,le_succ->Lj
open Option.some renaming inj->Kq
open Prod.mk renaming inj->QY
namespace Go.Proofs.YtkehfflpbpdokaaGreatDoor
structure bK where
 s:Nat
 v:Value
 g:Option (Nat×Bool)
def find:List bK->Nat->Option bK
 |[],_=>none
 |e::r,t=>bif K3 e.s t then some e else find r t
def F6 (a b:Nat×Bool):Bool:=K3 a.1 b.1&&(a.2==b.2)
def Je (gs:List (Nat×Bool)):Option (Nat×Bool)->Bool
 |none=>true
 |some p=>gs.any (F6 p)
def As (E:List bK)(gs:List (Nat×Bool)):Operand->Option Value
 |.tmp t=>(match find E t with|some e=>(bif Je gs e.g then some e.v else none)|none=>none)
 |.const v=>some v
 |.global g=>some (.pointer (some ⟨g,0,none⟩))
 |.func f=>some (.func (.func f) #[] #[])
def Dd (E:List bK)(gs:List (Nat×Bool))(x:Operand):Value:=(As E gs x).getD undef
def ph (E:List bK)(gs:List (Nat×Bool))(op:Op):Bool:=op.operands.toList.all λx=>(As E gs x).isSome
def dY (a:Act)(e:bK):Prop:=
 match e.g with
 |none=>a.tmps[e.s]?=some e.v
 |some (s,b)=>(a.tmps[s]?=some (.bool b)->a.tmps[e.s]?=some e.v)/\(a.tmps[s]?≠some (.bool b)->a.tmps[e.s]?=some undef)
structure Holds (N:Nat)(D:List Deferred)(E:List bK)(a:Act):Prop where
 size:a.tmps.size=N
 defers:a.defers=D
 all:∀e∈E,dY a e
def yC (d:Nat)(e:bK):Bool:=!(K3 e.s d)&&(match e.g with|some (s,_)=>!(K3 s d)|none=>true)
def BN (d:Nat)(g:Option (Nat×Bool)):Bool:=match g with|some p=>!(K3 p.1 d)|none=>true
def qZ (N:Nat)(E:List bK)(dst:Option Nat)(v:Value)(g:Option (Nat×Bool))(K:List bK->Prop):Prop:=
 match dst with
 |none=>K E
 |some d=>bif Nat.blt d N&&BN d g then K (⟨d,v,g⟩::E.filter (yC d)) else False
def oc (s:Nat)(b:Bool):List bK->List bK
 |[]=>[]
 |e::r=>bif K3 e.s s then ⟨s,.bool b,none⟩::oc s b r else (match e.g with
   |none=>e::oc s b r
   |some p=>bif F6 p (s,b) then ⟨e.s,e.v,none⟩::oc s b r else bif K3 p.1 s then oc s b r else e::oc s b r)
def gU (W:List Nat)(a a':Act):Prop:=∀t,W.contains t=false->a'.tmps[t]?=a.tmps[t]?
theorem gU.refl (W:List Nat)(a:Act):gU W a a:=λ_ _=>rfl
theorem gU.trans {W:List Nat}{a b c:Act}(h:gU W a b)(k:gU W b c):gU W a c:=λt ht=>(k t ht).trans (h t ht)
theorem gU.mono {W W':List Nat}{a b:Act}(h:gU W a b)(hs:∀t,W'.contains t=false->W.contains t=false):gU W' a b:=λt ht=>h t (hs t ht)
theorem gU.put {W:List Nat}{a:Act}{dst:Option Nat}{v:Value}(h:∀d,dst=some d->W.contains d=true):gU W a (a.put dst v):=by
 intro t ht
 cases dst with
 |none=>rfl
 |some d=>
   have hne:d≠t:=by intro e;subst e;rw[h d rfl] at ht;cases ht
   simp[Qk,LQ hne]
theorem eK:∀{E:List bK} {t:Nat} {e:bK},find E t=some e->e∈E/\e.s=t
 |[],_,_,h=>by cases h
 |x::r,t,e,h=>by
   unfold find at h
   cases hb:K3 x.s t with
   |true=>rw[hb] at h;have e1:x=e:=Kq h;subst e1;exact⟨Kw,KR hb⟩
   |false=>rw[hb] at h;have:=eK (E:=r) h;exact⟨KO _ this.1,this.2⟩
theorem lK {a b:Nat×Bool}(h:F6 a b=true):a=b:=by
 unfold F6 at h
 simp only[KD,beq_iff_eq] at h
 exact Prod.ext (KR h.1) h.2
section
variable {P:Program}{N:Nat}{D:List Deferred}{L:List Nat}
theorem fR {E:List bK}{gs:List (Nat×Bool)}{a:Act}{x:Operand}{v:Value}(hH:Holds N D E a)(hg:∀p∈gs,a.tmps[p.1]?=some (.bool p.2))(h:As E gs x=some v):a.eval x=v:=by
 cases x with
 |tmp t=>
   simp only[As] at h
   split at h
   ·rename_i e he
    obtain⟨h1,h2⟩:=eK he
    cases hb:Je gs e.g with
    |false=>rw[hb] at h;cases h
    |true=>
      rw[hb] at h
      have hv:e.v=v:=Kq h
      have hok:=hH.all e h1
      have:a.tmps[e.s]?=some e.v:=by
       unfold dY at hok
       cases hge:e.g with
       |none=>rw[hge] at hok;exact hok
       |some p=>
         rw[hge] at hok hb
         obtain⟨q,hq,heq⟩:=MA.1 hb
         have:=lK heq
         subst this
         exact hok.1 (hg _ hq)
      rw[h2] at this
      simp only[Act.eval,Array.getD_eq_getD_getElem?,this,hv,Option.getD_some]
   ·cases h
 |const u=>exact Kq h
 |global g=>exact Kq h
 |func f=>exact Kq h
theorem nz {E:List bK}{gs:List (Nat×Bool)}{a:Act}{o:Oper}(hH:Holds N D E a)(hg:∀p∈gs,a.tmps[p.1]?=some (.bool p.2))(h:ph E gs o.op=true)
  (hs:∀cs b,o.op≠.select cs b):execOp a.eval o=execOp (Dd E gs) o:=by
 refine execOp_congr o hs λx hx=>?_
 have:=List.all_eq_true.1 h x (by simpa using hx)
 obtain⟨v,hv⟩:=Option.isSome_iff_exists.1 this
 rw[fR hH hg hv]
 unfold Dd
 rw[hv];rfl
theorem Ap {E:List bK}{gs:List (Nat×Bool)}(v:Value):Dd E gs (.const v)=v:=rfl
theorem jc {a:Act}{d:Nat}{v:Value}(h:d<a.tmps.size):(a.put (some d) v).tmps[d]?=some v:=by
 simp[Qk,h]
theorem ly {a:Act}{d t:Nat}{v:Value}(h:d≠t):(a.put (some d) v).tmps[t]?=a.tmps[t]?:=by
 simp[Qk,LQ h]
theorem Bf {a:Act}{dst:Option Nat}{v:Value}:(a.put dst v).tmps.size=a.tmps.size:=by
 cases dst<;>simp[Qk]
theorem put_defers {a:Act}{dst:Option Nat}{v:Value}:(a.put dst v).defers=a.defers:=by
 cases dst<;>simp[Qk]
theorem dR {E:List bK}{dst:Option Nat}{v:Value}{g:Option (Nat×Bool)}{K:List bK->Prop}{a:Act}(hH:Holds N D E a)(h:qZ N E dst v g K)
  {u:Value} (hu:∀s b,g=some (s,b)->a.tmps[s]?=some (.bool b)->u=v) (hu0:g=none->u=v) (hu2:∀s b,g=some (s,b)->a.tmps[s]?≠some (.bool b)->u=undef:=by intro _ _ e;cases e):∃E',Holds N D E' (a.put dst u)/\K E':=by
 unfold qZ at h
 cases dst with
 |none=>exact⟨E,hH,h⟩
 |some d=>
   simp only at h
   cases hb:(Nat.blt d N&&BN d g) with
   |false=>rw[hb] at h;exact h.elim
   |true=>
     rw[hb] at h
     simp only[KD] at hb
     have hd:d<a.tmps.size:=by rw[hH.size];exact Nat.le_of_ble_eq_true hb.1
     refine⟨_,⟨Bf.trans hH.size,put_defers.trans hH.defers,?_⟩,h⟩
     intro e he
     rcases Ku.1 he with he|he
     ·subst he
      unfold dY
      cases g with
      |none=>exact(jc hd).trans (by rw[hu0 rfl])
      |some p=>
        obtain⟨s,b⟩:=p
        have hsd:s≠d:=by
         intro e;subst e
         have:=hb.2
         simp[BN] at this
        refine⟨λhs=>?_,λhs=>?_⟩
        ·rw[ly (Ne.symm hsd)] at hs
         exact(jc hd).trans (by rw[hu s b rfl hs])
        ·rw[ly (Ne.symm hsd)] at hs
         exact(jc hd).trans (by rw[hu2 s b rfl hs])
     ·obtain⟨h1,h2⟩:=KP.1 he
      have hok:=hH.all e h1
      unfold yC at h2
      simp only[KD,LY] at h2
      have hne:d≠e.s:=by
       intro e1
       have:=h2.1
       rw[<-e1] at this
       simp at this
      unfold dY at hok ⊢
      cases hg:e.g with
      |none=>rw[hg] at hok;exact(ly hne).trans hok
      |some p=>
        obtain⟨s,b⟩:=p
        rw[hg] at hok h2
        have hne2:d≠s:=by
         intro e1
         have:=h2.2
         rw[<-e1] at this
         simp at this
        refine⟨λhs=>?_,λhs=>?_⟩
        ·rw[ly hne2] at hs
         exact(ly hne).trans (hok.1 hs)
        ·rw[ly hne2] at hs
         exact(ly hne).trans (hok.2 hs)
theorem qE {s:Nat}{b:Bool}{a:Act}(hs:a.tmps[s]?=some (.bool b)):∀{E:List bK},(∀e∈E,dY a e)->∀e∈oc s b E,dY a e
 |[],_,e,he=>by simp[oc] at he
 |x::r,h,e,he=>by
   have hr:=qE hs (E:=r) (λe he=>h e (KO _ he))
   have hx:=h x Kw
   unfold oc at he
   cases hb:K3 x.s s with
   |true=>
     rw[hb] at he
     rcases Ku.1 he with he|he
     ·subst he;exact hs
     ·exact hr e he
   |false=>
     rw[hb] at he
     simp only[cond_false] at he
     unfold dY at hx
     cases hg:x.g with
     |none=>
       rw[hg] at he hx
       rcases Ku.1 he with he|he
       ·subst he;unfold dY;rw[hg];exact hx
       ·exact hr e he
     |some p=>
       rw[hg] at he hx
       simp only at he
       cases hb2:F6 p (s,b) with
       |true=>
         rw[hb2] at he
         have:=lK hb2
         subst this
         rcases Ku.1 he with he|he
         ·subst he;exact hx.1 hs
         ·exact hr e he
       |false=>
         rw[hb2] at he
         simp only[cond_false] at he
         cases hb3:K3 p.1 s with
         |true=>rw[hb3] at he;exact hr e he
         |false=>
           rw[hb3] at he
           rcases Ku.1 he with he|he
           ·subst he;unfold dY;rw[hg];exact hx
           ·exact hr e he
theorem Holds.oc {E:List bK}{a:Act}{s:Nat}{b:Bool}(hH:Holds N D E a)(hs:a.tmps[s]?=some (.bool b)):Holds N D (oc s b E) a:=
 ⟨hH.size,hH.defers,qE hs hH.all⟩
def kq (s:Nat)(b:Bool)(E:List bK):List bK:=oc s b E++[⟨s,.bool b,some (s,b)⟩]
theorem Holds.kq {E:List bK}{a:Act}{s:Nat}{b:Bool}(hH:Holds N D E a)(hs:a.tmps[s]?=some (.bool b)):Holds N D (kq s b E) a:=
 ⟨hH.size,hH.defers,λe he=>by
  rcases Kk.1 he with h|h
  ·exact(hH.oc hs).all e h
  ·rw[Lc.1 h];exact⟨λh=>h,λh=>absurd hs h⟩⟩
def lU (s:Nat)(b:Bool):List bK->List bK
 |[]=>[]
 |e::r=>bif K3 e.s s then ⟨s,.bool b,none⟩::lU s b r else (match e.g with
   |none=>e::lU s b r
   |some p=>bif F6 p (s,b) then ⟨e.s,e.v,none⟩::lU s b r else bif K3 p.1 s then ⟨e.s,undef,none⟩::lU s b r else e::lU s b r)
theorem nT {s:Nat}{b:Bool}{a:Act}(hs:a.tmps[s]?=some (.bool b)):∀{E:List bK},(∀e∈E,dY a e)->∀e∈lU s b E,dY a e
 |[],_,e,he=>by simp[lU] at he
 |x::r,h,e,he=>by
   have hr:=nT hs (E:=r) (λe he=>h e (KO _ he))
   have hx:=h x Kw
   unfold lU at he
   cases hb:K3 x.s s with
   |true=>
     rw[hb] at he
     rcases Ku.1 he with he|he
     ·subst he;exact hs
     ·exact hr e he
   |false=>
     rw[hb] at he
     simp only[cond_false] at he
     unfold dY at hx
     cases hg:x.g with
     |none=>
       rw[hg] at he hx
       rcases Ku.1 he with he|he
       ·subst he;unfold dY;rw[hg];exact hx
       ·exact hr e he
     |some p=>
       rw[hg] at he hx
       simp only at he
       cases hb2:F6 p (s,b) with
       |true=>
         rw[hb2] at he
         have:=lK hb2
         subst this
         rcases Ku.1 he with he|he
         ·subst he
          exact hx.1 hs
         ·exact hr e he
       |false=>
         rw[hb2] at he
         simp only[cond_false] at he
         cases hb3:K3 p.1 s with
         |true=>
           rw[hb3] at he
           have e3:=KR hb3
           obtain⟨p1,p2⟩:=p
           simp only at e3 hx
           subst e3
           rcases Ku.1 he with he|he
           ·subst he
            refine hx.2 λq=>?_
            rw[hs] at q
            have q2:b=p2:=by injection q with q;injection q
            subst q2
            unfold F6 at hb2
            simp at hb2
           ·exact hr e he
         |false=>
           rw[hb3] at he
           rcases Ku.1 he with he|he
           ·subst he;unfold dY;rw[hg];exact hx
           ·exact hr e he
def tF (s:Nat)(b:Bool)(E:List bK):List bK:=lU s b E++[⟨s,.bool b,some (s,b)⟩]
theorem Holds.tF {E:List bK}{a:Act}{s:Nat}{b:Bool}(hH:Holds N D E a)(hs:a.tmps[s]?=some (.bool b)):Holds N D (tF s b E) a:=
 ⟨hH.size,hH.defers,λe he=>by
  rcases Kk.1 he with h|h
  ·exact nT hs hH.all e h
  ·rw[Lc.1 h];exact⟨λh=>h,λh=>absurd hs h⟩⟩
def isLit (E:List bK)(s:Nat):Bool:=E.any λe=>K3 e.s s&&(match e.g with|some p=>K3 p.1 s|none=>false)
def uw (gs:List (Nat×Bool))(c:Operand)(b:Bool):List (Nat×Bool):=match c with|.tmp t=>(t,b)::gs|_=>gs
def Jl (M:Option (aa->Prop))(H:aa)(A:Prop):Prop:=match M with|none=>A|some G=>G H/\A
def lP:Op->Bool
 |.select ..=>true
 |_=>false
def ku (P:Program)(E:List bK)(gs:List (Nat×Bool))(o:Oper):Option Value:=
 match o.op with
 |.pick c a b=>(match As E gs c,As E (uw gs c true) a,As E (uw gs c false) b with
   |some (.bool t),some va,some vb=>some (nG t a b va vb)
   |_,_,_=>none)
 |op=>bif yM P op&&(ph E gs op&&!(lP op)) then evalOp P o (Dd E gs) else none
def vn (P:Program)(L:List Nat)(E:List bK)(gs:List (Nat×Bool))(o:Oper)(M:Option (aa->Prop))(H:aa)(K:Value->aa->Prop):Prop:=
 match ku P E gs o with
 |some v=>K v H
 |none=>bif ph E gs o.op&&!(lP o.op) then
   (match gY P o.op with
    |0=>tT P o.op (Dd E gs) λv=>K v H
    |1=>oL P o.op o.type (Dd E gs) (bif HT L o then none else M) H λv=>K v H
    |_=>yd P o.op o.type (Dd E gs) H λv H'=>Jl M H' (K v H'))
   else False
theorem jA {E:List bK}{gs:List (Nat×Bool)}{o:Oper}{a:Act}{v:Value}(hH:Holds N D E a)(hg:∀p∈gs,a.tmps[p.1]?=some (.bool p.2))
  (h:ku P E gs o=some v) (w':World):(execOp a.eval o).run P w'=.ok (.value v) w':=by
 unfold ku at h
 split at h
 ·rename_i c x y hop
  split at h
  ·rename_i t va vb hc hx hy
   have hv:nG t x y va vb=v:=Kq h
   subst hv
   have ec:=fR hH hg hc
   have key:nG t x y va vb=if t then a.eval x else a.eval y:=by
    have hct:∀b,t=b->∀p∈uw gs c b,a.tmps[p.1]?=some (.bool p.2):=by
     intro b hb p hp
     cases c with
     |tmp s=>
       simp only[uw] at hp
       rcases Ku.1 hp with hp|hp
       ·subst hp
        simp only[As] at hc
        split at hc
        ·rename_i e he
         obtain⟨h1,h2⟩:=eK he
         cases hb2:Je gs e.g with
         |false=>rw[hb2] at hc;cases hc
         |true=>
           rw[hb2] at hc
           have hv:e.v=.bool t:=Kq hc
           have hok:=hH.all e h1
           have:a.tmps[e.s]?=some e.v:=by
            unfold dY at hok
            cases hge:e.g with
            |none=>rw[hge] at hok;exact hok
            |some p=>
              rw[hge] at hok hb2
              obtain⟨q,hq,heq⟩:=MA.1 hb2
              have:=lK heq
              subst this
              exact hok.1 (hg _ hq)
           rw[h2,hv,hb] at this
           exact this
        ·cases hc
       ·exact hg p hp
     |_=>exact hg p hp
    -- the constant's own case
    have cx:∀v,x=.const v->va=v:=λv e=>by subst e;exact(Kq hx).symm
    have cy:∀v,y=.const v->vb=v:=λv e=>by subst e;exact(Kq hy).symm
    have e0:nG t x y va vb=if t then va else vb:=by
     unfold nG
     split
     ·rename_i p q
      split
      ·have:=cy _ rfl
       have e2:q=false:=by simpa using this
       subst e2;cases t<;>simp
      ·split
       ·have:=cx _ rfl
        have e2:p=true:=by simpa using this
        subst e2;cases t<;>simp
       ·cases t<;>simp
     ·cases t<;>simp
    rw[e0]
    cases t with
    |true=>simp only[if_true];rw[fR hH (hct true rfl) hx]
    |false=>simp only[Bool.false_eq_true,if_false];rw[fR hH (hct false rfl) hy]
   simp only[execOp,hop,ec,asBool,Sem.run_bind,Sem.run_pure,Result.andThen_ok,key]
  ·cases h
 ·cases hb:(yM P o.op&&(ph E gs o.op&&!(lP o.op))) with
  |false=>rw[hb] at h;cases h
  |true=>
    rw[hb] at h
    simp only[KD,LY] at hb
    have hs:∀cs b,o.op≠.select cs b:=λcs b e=>by rw[e] at hb;cases hb.2.2
    rw[nz hH hg hb.2.1 hs]
    exact xb h w'
theorem jy {c:Nat}{M:Option (aa->Prop)}{r:World->Result Next}{v:Value}{R:Value->World->Prop}{w:World}(hG:iS M w.heap)(hv:∀w',r w'=.ok (.value v) w')(hr:R v w):eO P M c r R w:=by
 match c with
 |0=>exact⟨v,hv,hr⟩
 |1=>exact⟨v,λw' _=>hv w',hr⟩
 |_+2=>show mO P (r w) _;rw[hv w];exact⟨hG,hr⟩
theorem oX {L:List Nat}{o:Oper}{c:Nat}(h:gY P o.op=c)(hc:c≠1):dh P L o=c:=by
 unfold dh
 have:K3 (gY P o.op) 1=false:=by
  cases hb:K3 (gY P o.op) 1 with
  |false=>rfl
  |true=>exact absurd (h.symm.trans (KR hb)) hc
 rw[this];exact h
theorem yQ {L:List Nat}{o:Oper}(h:gY P o.op=1)(hl:HT L o=true):dh P L o=2:=by
 unfold dh;rw[h,hl];rfl
theorem w9 {L:List Nat}{o:Oper}(h:gY P o.op=1)(hl:HT L o=false):dh P L o=1:=by
 unfold dh;rw[h,hl];rfl
theorem uW (hNG:lD P){E:List bK}{gs:List (Nat×Bool)}{o:Oper}{M:Option (aa->Prop)}{a:Act}{w:World}{K:Value->aa->Prop}{R:Value->World->Prop}
  (hH:Holds N D E a) (hg:∀p∈gs,a.tmps[p.1]?=some (.bool p.2)) (hG:iS M w.heap) (hK:∀v w',Alike w w'->iS M w'.heap->K v w'.heap->R v w')
  (h:vn P L E gs o M w.heap K):eO P M (dh P L o) (λw=>(execOp a.eval o).run P w) R w:=by
 unfold vn at h
 split at h
 ·rename_i v hv
  exact jy hG (jA hH hg hv) (hK v w (.refl w) hG h)
 ·cases hb:(ph E gs o.op&&!(lP o.op)) with
  |false=>rw[hb] at h;exact h.elim
  |true=>
    rw[hb] at h
    simp only[KD,LY] at hb
    have hs:∀cs b,o.op≠.select cs b:=λcs b e=>by rw[e] at hb;cases hb.2
    have he:=nz hH hg hb.1 hs
    simp only[cond_true] at h
    rw[he]
    split at h
    ·rename_i hc
     rw[oX hc (by decide)]
     obtain⟨v,h1,h2⟩:=ru (o:=o) (Ap) h
     exact⟨v,h1,hK v w (.refl w) hG h2⟩
    ·rename_i hc
     cases hl:HT L o with
     |true=>
       rw[hl] at h
       simp only[cond_true] at h
       obtain⟨v,h1,h2⟩:=iv (o:=o) h
       rw[yQ hc hl]
       have h3:=h1 w rfl
       show mO P ((execOp (Dd E gs) o).run P w) _
       rw[h3]
       exact⟨hG,hK v w (.refl w) hG h2⟩
     |false=>
       rw[hl] at h
       simp only[cond_false] at h
       obtain⟨v,h1,h2⟩:=iv (o:=o) h
       rw[w9 hc hl]
       exact⟨v,λw' hw'=>h1 w' hw',hK v w (.refl w) hG h2⟩
    ·rename_i c n0 n1
     have h3:mO P ((execOp (Dd E gs) o).run P w) (λv w'=>iS M w'.heap/\R v w'):=by
      refine ti hNG (M:=M) (K:=λv H'=>Jl M H' (K v H')) ?_ h
      intro v w' ha hk
      cases M with
      |none=>exact⟨trivial,hK v w' ha trivial hk⟩
      |some G=>exact⟨hk.1,hK v w' ha hk.1 hk.2⟩
     have n1':gY P o.op≠1:=λe=>n1 e
     have n0':gY P o.op≠0:=λe=>n0 e
     have n1'':dh P L o=gY P o.op:=oX rfl n1'
     rw[n1'']
     generalize gY P o.op=c at*
     match c with
     |0=>exact absurd rfl n0'
     |1=>exact absurd rfl n1'
     |_+2=>exact h3
def uq (ops:Array Oper)(j:Nat):Option Nat:=match ops[j]? with|some o=>o.dst|none=>none
theorem nR {ops:Array Oper}{o:Oper}{a:Act}{j s:Nat}{want:Bool}(hg:o.guard=some (j,want))(hs:uq ops j=some s):
  (LX o (yielded ops a.tmps)=true↔a.tmps[s]?=some (.bool want)):=by
 have hb:(ops[j]?).bind (·.dst)=some s:=by
  unfold uq at hs
  split at hs
  ·rename_i o' ho;rw[ho];exact hs
  ·cases hs
 simp only[LX,hg,yielded,hb,Option.bind_some]
 constructor
 ·intro h
  split at h
  ·rename_i b hb2;rw[hb2];simpa using h
  ·simp at h
 ·intro h;rw[h];simp
def hR (P:Program)(N:Nat)(L:List Nat)(M:Option (aa->Prop))(o:Oper)(E:List bK)(H:aa)(s:Nat)(want b:Bool)(K:List bK->aa->Prop):Prop:=
 bif b==want then vn P L (kq s b E) [] o M H λv H'=>qZ N (kq s b E) o.dst v none λE'=>K E' H'
 else qZ N (kq s b E) o.dst undef none λE'=>K E' H
def xC (E:List bK)(s:Nat):Bool:=match find E s with|some ⟨_,.tuple _,none⟩=>true|_=>false
def yD (ops:Array Oper)(o:Oper):Bool:=match o.op with
 |.extract (.tmp t) _=>ops.toList.any λp=>(match p.op with|.entry _=>(match p.dst with|some d=>K3 d t|none=>false)|_=>false)
 |_=>false
def IZ (P:Program)(N:Nat)(L:List Nat)(ops:Array Oper)(M:Option (aa->Prop))(o:Oper)(E:List bK)(H:aa)(K:List bK->aa->Prop):Prop:=
 match o.guard with
 |none=>bif yD ops o then (match ku P E [] o with
   |some v=>Iz (jn P o.type) v λy=>qZ N E o.dst ((jn P o.type).enc y) none λE'=>K E' H
   |none=>False)
   else vn P L E [] o M H λv H'=>qZ N E o.dst v none λE'=>K E' H'
 |some (j,want)=>(match uq ops j with
   |none=>False
   |some s=>bif xC E s then qZ N E o.dst undef none λE'=>K E' H else bif isLit E s then (match find E s with
     |some ⟨_,.bool b,none⟩=>br b (hR P N L M o E H s want true K) (hR P N L M o E H s want false K)
     |_=>False) else (match ku P E [(s,want)] o with
     |some v=>qZ N E o.dst v (some (s,want)) λE'=>K E' H
     |none=>(match find E s with
       |some ⟨_,.bool b,none⟩=>br b (hR P N L M o E H s want true K) (hR P N L M o E H s want false K)
       |some ⟨_,.bool b,some (s2,w2)⟩=>(match find E s2 with
         |some ⟨_,.bool b2,none⟩=>
           br (b2==w2) (br b (hR P N L M o (kq s2 w2 E) H s want true K) (hR P N L M o (kq s2 w2 E) H s want false K)) (qZ N (tF s2 (!w2) E) o.dst undef none λE'=>K E' H)
         |_=>False)
       |_=>False)))
theorem Av (hNG:lD P){ops:Array Oper}{M:Option (aa->Prop)}{o:Oper}{E:List bK}{a:Act}{w:World}{K:List bK->aa->Prop}{K':Act->World->Prop}
  (hH:Holds N D E a) (hG:iS M w.heap)
  (hK:∀E' u w',Holds N D E' (a.put o.dst u)->Alike w w'->iS M w'.heap->K E' w'.heap->K' (a.put o.dst u) w')
  (h:IZ P N L ops M o E w.heap K):eH P M L ops o K' a w:=by
 have plain:∀{E:List bK},Holds N D E a->vn P L E [] o M w.heap (λv H'=>qZ N E o.dst v none λE'=>K E' H')->
   eO P M (dh P L o) (λw=>(execOp a.eval o).run P w) (λv w'=>K' (a.put o.dst v) w') w:=by
  intro E hH h
  refine uW hNG hH (by simp) hG (λv w' ha hg hk=>?_) h
  obtain⟨E',h1,h2⟩:=dR hH hk (u:=v) (λ_ _ _ _=>rfl) (λ_=>rfl)
  exact hK E' v w' h1 ha hg h2
 have known:∀{E:List bK} {s:Nat} {want b:Bool} {j:Nat},o.guard=some (j,want)->uq ops j=some s->Holds N D E a->a.tmps[s]?=some (.bool b)->hR P N L M o E w.heap s want b K->eH P M L ops o K' a w:=by
  intro E s want b j hg hs hH hv h
  have hw:=nR (a:=a) hg hs
  unfold hR at h
  unfold eH
  by_cases e:b=want
  ·subst e
   simp only[beq_self_eq_true,cond_true] at h
   rw[if_pos (hw.2 hv)]
   exact plain (hH.kq hv) h
  ·have hne:(b==want)=false:=by simpa using e
   rw[hne] at h
   simp only[cond_false] at h
   rw[if_neg (λhh=>by
    have:=hw.1 hh
    rw[hv] at this
    simp at this
    exact e this)]
   obtain⟨E',h1,h2⟩:=dR (hH.kq hv) h (u:=undef) (λ_ _ _ _=>rfl) (λ_=>rfl)
   exact hK E' undef w h1 (.refl w) hG h2
 unfold IZ at h
 split at h
 ·rename_i hg
  unfold eH
  rw[if_pos (by simp[LX,hg])]
  cases hoe:yD ops o with
  |false=>rw[hoe] at h;exact plain hH h
  |true=>
    rw[hoe] at h
    simp only[cond_true] at h
    split at h
    ·rename_i v hv
     obtain⟨y,rfl,hy⟩:=h
     obtain⟨E',h1,h2⟩:=dR hH hy (u:=(jn P o.type).enc y) (λ_ _ _ _=>rfl) (λ_=>rfl)
     exact jy hG (jA hH (by simp) hv) (hK E' _ w h1 (.refl w) hG h2)
    ·exact h.elim
 ·rename_i j want hg
  split at h
  ·exact h.elim
  ·rename_i s hs
   have hw:=nR (a:=a) hg hs
   cases hnb:xC E s with
   |true=>
     rw[hnb] at h
     simp only[cond_true] at h
     have hv:∃vs,a.tmps[s]?=some (.tuple vs):=by
      unfold xC at hnb
      split at hnb
      ·rename_i s' vs hf
       obtain⟨h1,h2⟩:=eK hf
       have:=hH.all _ h1
       simp only at h2
       subst h2
       exact⟨vs,this⟩
      ·cases hnb
     obtain⟨vs,hv⟩:=hv
     unfold eH
     rw[if_neg (λhh=>by have:=hw.1 hh;rw[hv] at this;simp at this)]
     obtain⟨E',h1,h2⟩:=dR hH h (u:=undef) (λ_ _ _ _=>rfl) (λ_=>rfl)
     exact hK E' undef w h1 (.refl w) hG h2
   |false=>
   rw[hnb] at h
   simp only[cond_false] at h
   cases hil:isLit E s with
   |true=>
     rw[hil] at h
     simp only[cond_true] at h
     split at h
     ·rename_i s' b hf
      obtain⟨h1,h2⟩:=eK hf
      have hv:a.tmps[s]?=some (.bool b):=by have:=hH.all _ h1;simp only at h2;subst h2;exact this
      cases b with
      |true=>exact known hg hs hH hv h
      |false=>exact known hg hs hH hv h
     ·exact h.elim
   |false=>
   rw[hil] at h
   simp only[cond_false] at h
   split at h
   ·rename_i v hv
    unfold eH
    split
    ·rename_i hwant
     have hsl:=hw.1 hwant
     obtain⟨E',h1,h2⟩:=dR hH h (u:=v) (λ_ _ _ _=>rfl) (λ_=>rfl) (hu2:=λs' b' e hh=>by obtain⟨rfl,rfl⟩:=(QY (Kq e));exact absurd hsl hh)
     exact jy hG (jA hH (by intro p hp;rw[Lc.1 hp];exact hsl) hv) (hK E' v w h1 (.refl w) hG h2)
    ·rename_i hwant
     obtain⟨E',h1,h2⟩:=dR hH h (u:=undef) (λs' b' e hh=>by obtain⟨rfl,rfl⟩:=(QY (Kq e));exact absurd (hw.2 hh) hwant) (λe=>by cases e) (hu2:=λ_ _ _ _=>rfl)
     exact hK E' undef w h1 (.refl w) hG h2
   ·split at h
    ·rename_i s' b hf
     obtain⟨h1,h2⟩:=eK hf
     have hv:a.tmps[s]?=some (.bool b):=by have:=hH.all _ h1;simp only at h2;subst h2;exact this
     cases b with
     |true=>exact known hg hs hH hv h
     |false=>exact known hg hs hH hv h
    ·rename_i s' b s2 w2 hf
     split at h
     ·rename_i s3 b2 hf2
      obtain⟨h1,h2⟩:=eK hf
      obtain⟨h3,h4⟩:=eK hf2
      have hv2:a.tmps[s2]?=some (.bool b2):=by have:=hH.all _ h3;simp only at h4;subst h4;exact this
      obtain⟨h5,h6⟩:=BE.1 h
      by_cases e:b2=w2
      ·subst e
       have h7:=h5 (by simp)
       have hv:a.tmps[s]?=some (.bool b):=by
        have:=hH.all _ h1
        simp only at h2
        subst h2
        exact this.1 hv2
       cases b with
       |true=>exact known hg hs (hH.kq hv2) hv h7
       |false=>exact known hg hs (hH.kq hv2) hv h7
      ·have h7:=h6 (by simpa using e)
       have e2:b2=!w2:=by cases b2<;>cases w2<;>simp_all
       have hu:a.tmps[s]?=some undef:=by
        have:=hH.all _ h1
        simp only at h2
        subst h2
        exact this.2 (by rw[hv2];intro q;injection q with q;injection q with q;exact e q)
       have hnw:¬LX o (yielded ops a.tmps)=true:=λhh=>by
        have:=hw.1 hh
        rw[hu] at this
        unfold undef at this
        cases this
       unfold eH
       rw[if_neg hnw]
       obtain⟨E',k1,k2⟩:=dR (hH.tF (by rw[hv2,e2])) h7 (u:=undef) (λ_ _ _ _=>rfl) (λ_=>rfl)
       exact hK E' undef w k1 (.refl w) hG k2
     ·exact h.elim
    ·exact h.elim
def ig (P:Program)(N:Nat)(L:List Nat)(ops:Array Oper)(M:Option (aa->Prop)):List Oper->List bK->aa->(List bK->aa->Prop)->Prop
 |[],E,H,K=>K E H
 |o::l,E,H,K=>IZ P N L ops M o E H λE' H'=>ig P N L ops M l E' H' K
def Cp (l:List Oper):List Nat:=l.filterMap (·.dst)
theorem cN (hNG:lD P){ops:Array Oper}{M:Option (aa->Prop)}{K:List bK->aa->Prop}{K':Act->World->Prop}{W:List Nat}{a0:Act}{w0:World}
  (hK:∀E' a' w',Holds N D E' a'->gU W a0 a'->Alike w0 w'->iS M w'.heap->K E' w'.heap->K' a' w'):
  ∀(l:List Oper),(∀o∈l,∀d,o.dst=some d->W.contains d=true)->∀(E:List bK) (a:Act) (w:World),Holds N D E a->gU W a0 a->Alike w0 w->iS M w.heap->ig P N L ops M l E w.heap K->fI P M L ops K' l a w
 |[],_,E,a,w,hH,hS,hA,hG,h=>hK E a w hH hS hA hG h
 |o::l,hW,_,_,_,hH,hS,hA,hG,h=>
   Av hNG hH hG (λE' _ w' h1 ha hg h2=>cN hNG hK l (λo' ho'=>hW o' (KO _ ho')) E' _ w' h1
    (hS.trans (gU.put (hW o Kw))) (hA.trans ha) hg h2) h
def IQ (P:Program)(N:Nat)(ops:Array Oper)(draw:Bool)(E:List bK)(H:aa)(K:List bK->aa->Prop):Prop:=
 bif draw then (bif dj P [] 0 ops then ig P N [] ops none ops.toList E H K
  else let L:=qp P ops
   let k:=ux P L ops
   bif dj P L k ops then (bif K3 k 0 then ig P N L ops none ops.toList E H K else ∃G:aa->Prop,G H/\ig P N L ops (some G) (ops.toList.take k) E H λE' H'=>ig P N L ops none (ops.toList.drop k) E' H' K) else False)
 else ig P N [] ops none ops.toList E H K
theorem Ai (hNG:lD P)(hm:P.follows .mixedOrders=true){rn:Option Nat}{id:Nat}{ops:Array Oper}{draw:Bool}{E:List bK}{a:Act}{w:World}{K:List bK->aa->Prop}{Q:Exit->Act->World->Prop}
  (hH:Holds N D E a) (hK:∀E' a' w',Holds N D E' a'->gU (Cp ops.toList) a a'->Alike w w'->K E' w'.heap->Q .normal a' w')
  (h:IQ P N ops draw E w.heap K):(OQ id ops draw).wpIn (FW rn) 0 P Q a w:=by
 have hW:∀o∈ops.toList,∀d,o.dst=some d->(Cp ops.toList).contains d=true:=by
  intro o ho d hd
  rw[Ri]
  exact PN.2 ⟨o,ho,hd⟩
 unfold IQ at h
 cases draw with
 |false=>
   exact qV (cN (M:=none) hNG (λE' a' w' k1 k2 k3 _ k4=>hK E' a' w' k1 k2 k3 k4) ops.toList hW E a w hH (.refl _ _) (.refl _) trivial h)
 |true=>
   simp only[cond_true] at h
   have hd:Alike w {w with drawn:=w.drawn+1}:=.of_le rfl (Lj _)
   cases h1:dj P [] 0 ops with
   |true=>
     rw[h1] at h
     refine gG (M:=none) (k:=0) hm (λi hi=>by omega) h1 trivial ?_
     show fI P none [] ops _ (ops.toList.take 0) _ _
     rw[OR,PC]
     exact cN (M:=none) hNG (λE' a' w' k1 k2 k3 _ k4=>hK E' a' w' k1 k2 k3 k4) ops.toList hW E a _ hH (.refl _ _) hd trivial h
   |false=>
     rw[h1] at h
     simp only[cond_false] at h
     cases h2:dj P (qp P ops) (ux P (qp P ops) ops) ops with
     |true=>
       rw[h2] at h
       simp only[cond_true] at h
       cases hk0:K3 (ux P (qp P ops) ops) 0 with
       |true=>
         rw[hk0] at h
         have e0:=KR hk0
         rw[e0] at h2
         refine gG (M:=none) (k:=0) hm (λi hi=>by omega) h2 trivial ?_
         show fI P none (qp P ops) ops _ (ops.toList.take 0) _ _
         rw[OR,PC]
         exact cN (M:=none) hNG (λE' a' w' k1 k2 k3 _ k4=>hK E' a' w' k1 k2 k3 k4) ops.toList hW E a _ hH (.refl _ _) hd trivial h
       |false=>
       rw[hk0] at h
       obtain⟨G,h3,h4⟩:=h
       refine gG (M:=some G) hm (λ_ _=>rfl) h2 h3 (cN hNG (λE' a' w' k1 k2 k3 _ k4=>?_) (ops.toList.take _) (λo ho=>hW o (LF ho)) E a _ hH (.refl _ _) hd h3 h4)
       exact cN (M:=none) hNG (λE' a' w' k1 k2 k3 _ k4=>hK E' a' w' k1 k2 k3 k4) (ops.toList.drop _) (λo ho=>hW o (LG ho)) E' a' w' k1 k2 k3 trivial k4
     |false=>
       rw[h2] at h
       simp only[cond_false] at h
def mU (ops:Array Oper)(l:List Nat):List Oper:=l.flatMap λi=>(ops.toList.drop i).take 1
def Hx (P:Program)(N:Nat)(L:List Nat)(ops:Array Oper)(M:Option (aa->Prop))(f c:Nat):List Nat->List bK->aa->(List bK->aa->Prop)->Prop
 |[],E,H,K=>ig P N L ops M (mU ops [f]) E H K
 |i::l,E,H,K=>bif Nat.ble c i then ig P N L ops M (mU ops (f::i::l)) E H K else
   bif gd P L ops f c i then ig P N L ops M (mU ops (f::i::l)) E H K/\ig P N L ops M (mU ops [i]) E H (λE' H'=>Hx P N L ops M f c l E' H' K)
   else ig P N L ops M (mU ops [i]) E H λE' H'=>Hx P N L ops M f c l E' H' K
def GJ (f c:Nat)(P:Program)(N:Nat)(ops:Array Oper)(E:List bK)(H:aa)(K:List bK->aa->Prop):Prop:=
 let L:=qp P ops
 bif py P L ops f c (fw ops.toList []) then ∃G:aa->Prop,G H/\Hx P N L ops (some G) f c (iD ops.size f) E H K else False
theorem mL {M:Option (aa->Prop)}{L:List Nat}{ops:Array Oper}{K:Act->World->Prop}:∀(l:List Nat),(∀i∈l,i<ops.size)->dO P M ops.size L ops K l=fI P M L ops K (mU ops l)
 |[],_=>rfl
 |i::l,h=>by
   have hi:=h i Kw
   have ih:=mL (M:=M) (L:=L) (K:=K) l λk hk=>h k (KO _ hk)
   have e:(ops.toList.drop i).take 1=[ops[i]]:=by
    rw[List.drop_eq_getElem_cons (by simpa using hi)];simp
   have e2:mU ops (i::l)=ops[i]::mU ops l:=by
    unfold mU;rw[List.flatMap_cons,e];rfl
   have mi:mP M ops.size i=M:=by unfold mP;rw[fi.2 hi];rfl
   rw[e2]
   funext a w
   simp only[dO,fI,bS,Array.getElem?_eq_getElem hi,mi,ih]
theorem zN (hNG:lD P){L:List Nat}{ops:Array Oper}{M:Option (aa->Prop)}{f c:Nat}{K:List bK->aa->Prop}{K':Act->World->Prop}{W:List Nat}{a0:Act}{w0:World}
  (hK:∀E' a' w',Holds N D E' a'->gU W a0 a'->Alike w0 w'->iS M w'.heap->K E' w'.heap->K' a' w') (hf:f<ops.size) (hW:∀o∈ops.toList,∀d,o.dst=some d->W.contains d=true):
  ∀(l:List Nat),(∀i∈l,i<ops.size)->∀(E:List bK) (a:Act) (w:World),Holds N D E a->gU W a0 a->Alike w0 w->iS M w.heap->Hx P N L ops M f c l E w.heap K->iw P M L ops f c K' l a w:=by
 have hWi:∀l:List Nat,∀o∈mU ops l,∀d,o.dst=some d->W.contains d=true:=λl o ho=>by
  unfold mU at ho
  obtain⟨i,_,hi⟩:=List.mem_flatMap.1 ho
  exact hW o (LG (LF hi))
 intro l
 induction l with
 |nil=>
   intro _ E a w hH hS hA hG h
   unfold iw
   rw[mL [f] λi hi=>by rw[Lc] at hi;subst hi;exact hf]
   exact cN hNG hK _ (hWi _) E a w hH hS hA hG h
 |cons i l ih=>
   intro hl E a w hH hS hA hG h
   have hi:=hl i Kw
   have ih':=ih λk hk=>hl k (KO _ hk)
   have full:ig P N L ops M (mU ops (f::i::l)) E w.heap K->dO P M ops.size L ops K' (f::i::l) a w:=λhx=>by
    rw[mL (f::i::l) λk hk=>by
     rcases Ku.1 hk with q|q
     ·subst q;exact hf
     ·exact hl k q]
    exact cN hNG hK _ (hWi _) E a w hH hS hA hG hx
   have one:ig P N L ops M (mU ops [i]) E w.heap (λE' H'=>Hx P N L ops M f c l E' H' K)->bS P M ops.size L ops i (iw P M L ops f c K' l) a w:=λhx=>by
    have:=cN (K':=iw P M L ops f c K' l) hNG (λE' a' w' h1 h2 h3 h4 h5=>ih' E' a' w' h1 h2 h3 h4 h5) _ (hWi [i]) E a w hH hS hA hG hx
    rw[<-mL [i] λk hk=>by rw[Lc] at hk;subst hk;exact hi] at this
    exact this
   unfold Hx at h
   unfold iw
   cases hb:Nat.ble c i with
   |true=>rw[hb] at h;exact full h
   |false=>
     rw[hb] at h
     cases hs:gd P L ops f c i with
     |true=>rw[hs] at h;exact⟨full h.1,one h.2⟩
     |false=>rw[hs] at h;exact one h
theorem xO (hNG:lD P)(hm:P.follows .mixedOrders=true){f c:Nat}{rn:Option Nat}{id:Nat}{ops:Array Oper}{E:List bK}{a:Act}{w:World}{K:List bK->aa->Prop}{Q:Exit->Act->World->Prop}
  (hH:Holds N D E a) (hK:∀E' a' w',Holds N D E' a'->gU (Cp ops.toList) a a'->Alike w w'->K E' w'.heap->Q .normal a' w')
  (h:GJ f c P N ops E w.heap K):(OQ id ops true).wpIn (FW rn) 0 P Q a w:=by
 have hW:∀o∈ops.toList,∀d,o.dst=some d->(Cp ops.toList).contains d=true:=by
  intro o ho d hd
  rw[Ri]
  exact PN.2 ⟨o,ho,hd⟩
 have hd:Alike w {w with drawn:=w.drawn+1}:=.of_le rfl (Lj _)
 unfold GJ at h
 simp only at h
 cases h2:py P (qp P ops) ops f c (fw ops.toList []) with
 |false=>rw[h2] at h;exact h.elim
 |true=>
   rw[h2] at h
   obtain⟨G,h3,h4⟩:=h
   have hF:=nP h2
   exact oy (M:=some G) hm rfl h2 h3 (zN hNG (λE' a' w' k1 k2 k3 _ k4=>hK E' a' w' k1 k2 k3 k4) (Nat.lt_trans hF.fc hF.cn) hW _ (λi hi=>List.mem_range.1 (KP.1 hi).1) E a _ hH (.refl _ _) hd h3 h4)
end
end Go.Proofs.YtkehfflpbpdokaaGreatDoor
