/-
 Ground, fifth text: what the walk of a whole function asks ('vcF'), and that it is enough ('spec_of_vc').
-/
import Derived.Test.YtdpdmbceakdlmaaGreatDoorFxd
import Derived.Test.YtdpdmbceakdlmaaGreatDoorFxp
import Derived.Test.YtdpdmbceakdlmaaGreatDoorFxr
import Derived.Test.YtdpdmbceakdlmaaGreatDoorFxv
open Array renaming getElem?_setIfInBounds_ne->LW
open Bool renaming and_eq_true->KR,not_eq_true'->L0
open Go.Act renaming put->QR
open Go.Code renaming region->Na
open Go.Instr renaming buildSlice->Lx,alloc->Qv,box->QU
open Go.Region renaming wanted->Ls
open Go.Result renaming andThen_ok->K4
open Go.Sem renaming run_bind->K5,run_pure->Lu
open List renaming mem_range->KS,mem_cons_self->KV,mem_append->KW,mem_filter->K3,mem_cons_of_mem->K7,mem_cons->K8,mem_singleton->LI,mem_flatMap->LZ,mem_of_mem_take->Me,mem_of_mem_drop->Mf,contains_iff_mem->Nn,any_eq_true->NA,mem_filterMap->Pf,take_zero->Qw,drop_zero->Qx
open Nat renaming eq_of_beq_eq_true->KX,beq->K6,le_succ->Lm,blt->LS
open Option.some renaming inj->K1
open Prod.mk renaming inj->RG
namespace Go.Proofs.YtdpdmbceakdlmaaGreatDoor
structure bE where
 s:Nat
 v:Value
 g:Option (Nat×Bool)
def find:List bE->Nat->Option bE
 |[],_=>none
 |e::r,t=>bif K6 e.s t then some e else find r t
def Hl (a b:Nat×Bool):Bool:=K6 a.1 b.1&&(a.2==b.2)
def Jw (gs:List (Nat×Bool)):Option (Nat×Bool)->Bool
 |none=>true
 |some p=>gs.any (Hl p)
def AU (E:List bE)(gs:List (Nat×Bool)):Operand->Option Value
 |.tmp t=>(match find E t with|some e=>(bif Jw gs e.g then some e.v else none)|none=>none)
 |.const v=>some v
 |.global g=>some (.pointer (some ⟨g,0,none⟩))
 |.func f=>some (.func (.func f) #[] #[])
def BC (E:List bE)(gs:List (Nat×Bool))(x:Operand):Value:=(AU E gs x).getD undef
def kR (E:List bE)(gs:List (Nat×Bool))(op:Op):Bool:=op.operands.toList.all λx=>(AU E gs x).isSome
def fe (a:Act)(e:bE):Prop:=
 match e.g with
 |none=>a.tmps[e.s]?=some e.v
 |some (s,b)=>(a.tmps[s]?=some (.bool b)->a.tmps[e.s]?=some e.v)/\(a.tmps[s]?≠some (.bool b)->a.tmps[e.s]?=some undef)
structure Holds (N:Nat)(D:List Deferred)(E:List bE)(a:Act):Prop where
 size:a.tmps.size=N
 defers:a.defers=D
 all:∀e∈E,fe a e
def Hr (d:Nat)(e:bE):Bool:=!(K6 e.s d)&&(match e.g with|some (s,_)=>!(K6 s d)|none=>true)
def Ci (d:Nat)(g:Option (Nat×Bool)):Bool:=match g with|some p=>!(K6 p.1 d)|none=>true
def mW (N:Nat)(E:List bE)(dst:Option Nat)(v:Value)(g:Option (Nat×Bool))(K:List bE->Prop):Prop:=
 match dst with
 |none=>K E
 |some d=>bif LS d N&&Ci d g then K (⟨d,v,g⟩::E.filter (Hr d)) else False
def pO (s:Nat)(b:Bool):List bE->List bE
 |[]=>[]
 |e::r=>bif K6 e.s s then ⟨s,.bool b,none⟩::pO s b r else (match e.g with
   |none=>e::pO s b r
   |some p=>bif Hl p (s,b) then ⟨e.s,e.v,none⟩::pO s b r else bif K6 p.1 s then pO s b r else e::pO s b r)
def fi (W:List Nat)(a a':Act):Prop:=∀t,W.contains t=false->a'.tmps[t]?=a.tmps[t]?
theorem fi.refl (W:List Nat)(a:Act):fi W a a:=λ_ _=>rfl
theorem fi.trans {W:List Nat}{a b c:Act}(h:fi W a b)(k:fi W b c):fi W a c:=λt ht=>(k t ht).trans (h t ht)
theorem fi.mono {W W':List Nat}{a b:Act}(h:fi W a b)(hs:∀t,W'.contains t=false->W.contains t=false):fi W' a b:=λt ht=>h t (hs t ht)
theorem fi.put {W:List Nat}{a:Act}{dst:Option Nat}{v:Value}(h:∀d,dst=some d->W.contains d=true):fi W a (a.put dst v):=by
 intro t ht
 cases dst with
 |none=>rfl
 |some d=>
   have hne:d≠t:=by intro e;subst e;rw[h d rfl] at ht;cases ht
   simp[QR,LW hne]
theorem fJ:∀{E:List bE} {t:Nat} {e:bE},find E t=some e->e∈E/\e.s=t
 |[],_,_,h=>by cases h
 |x::r,t,e,h=>by
   unfold find at h
   cases hb:K6 x.s t with
   |true=>rw[hb] at h;have e1:x=e:=K1 h;subst e1;exact⟨KV,KX hb⟩
   |false=>rw[hb] at h;have:=fJ (E:=r) h;exact⟨K7 _ this.1,this.2⟩
theorem nS {a b:Nat×Bool}(h:Hl a b=true):a=b:=by
 unfold Hl at h
 simp only[KR,beq_iff_eq] at h
 exact Prod.ext (KX h.1) h.2
section
variable {P:Program}{N:Nat}{D:List Deferred}{L:List Nat}
theorem gC {E:List bE}{gs:List (Nat×Bool)}{a:Act}{x:Operand}{v:Value}(hH:Holds N D E a)(hg:∀p∈gs,a.tmps[p.1]?=some (.bool p.2))(h:AU E gs x=some v):a.eval x=v:=by
 cases x with
 |tmp t=>
   simp only[AU] at h
   split at h
   ·rename_i e he
    obtain⟨h1,h2⟩:=fJ he
    cases hb:Jw gs e.g with
    |false=>rw[hb] at h;cases h
    |true=>
      rw[hb] at h
      have hv:e.v=v:=K1 h
      have hok:=hH.all e h1
      have:a.tmps[e.s]?=some e.v:=by
       unfold fe at hok
       cases hge:e.g with
       |none=>rw[hge] at hok;exact hok
       |some p=>
         rw[hge] at hok hb
         obtain⟨q,hq,heq⟩:=NA.1 hb
         have:=nS heq
         subst this
         exact hok.1 (hg _ hq)
      rw[h2] at this
      simp only[Act.eval,Array.getD_eq_getD_getElem?,this,hv,Option.getD_some]
   ·cases h
 |const u=>exact K1 h
 |global g=>exact K1 h
 |func f=>exact K1 h
theorem jq {E:List bE}{gs:List (Nat×Bool)}{a:Act}{o:Oper}(hH:Holds N D E a)(hg:∀p∈gs,a.tmps[p.1]?=some (.bool p.2))(h:kR E gs o.op=true)
  (hs:∀cs b,o.op≠.select cs b):execOp a.eval o=execOp (BC E gs) o:=by
 refine execOp_congr o hs λx hx=>?_
 have:=List.all_eq_true.1 h x (by simpa using hx)
 obtain⟨v,hv⟩:=Option.isSome_iff_exists.1 this
 rw[gC hH hg hv]
 unfold BC
 rw[hv];rfl
theorem tx {E:List bE}{gs:List (Nat×Bool)}(v:Value):BC E gs (.const v)=v:=rfl
theorem tN {a:Act}{d:Nat}{v:Value}(h:d<a.tmps.size):(a.put (some d) v).tmps[d]?=some v:=by
 simp[QR,h]
theorem mr {a:Act}{d t:Nat}{v:Value}(h:d≠t):(a.put (some d) v).tmps[t]?=a.tmps[t]?:=by
 simp[QR,LW h]
theorem CY {a:Act}{dst:Option Nat}{v:Value}:(a.put dst v).tmps.size=a.tmps.size:=by
 cases dst<;>simp[QR]
theorem put_defers {a:Act}{dst:Option Nat}{v:Value}:(a.put dst v).defers=a.defers:=by
 cases dst<;>simp[QR]
theorem dS {E:List bE}{dst:Option Nat}{v:Value}{g:Option (Nat×Bool)}{K:List bE->Prop}{a:Act}(hH:Holds N D E a)(h:mW N E dst v g K)
  {u:Value} (hu:∀s b,g=some (s,b)->a.tmps[s]?=some (.bool b)->u=v) (hu0:g=none->u=v) (hu2:∀s b,g=some (s,b)->a.tmps[s]?≠some (.bool b)->u=undef:=by intro _ _ e;cases e):∃E',Holds N D E' (a.put dst u)/\K E':=by
 unfold mW at h
 cases dst with
 |none=>exact⟨E,hH,h⟩
 |some d=>
   simp only at h
   cases hb:(LS d N&&Ci d g) with
   |false=>rw[hb] at h;exact h.elim
   |true=>
     rw[hb] at h
     simp only[KR] at hb
     have hd:d<a.tmps.size:=by rw[hH.size];exact Nat.le_of_ble_eq_true hb.1
     refine⟨_,⟨CY.trans hH.size,put_defers.trans hH.defers,?_⟩,h⟩
     intro e he
     rcases K8.1 he with he|he
     ·subst he
      unfold fe
      cases g with
      |none=>exact(tN hd).trans (by rw[hu0 rfl])
      |some p=>
        obtain⟨s,b⟩:=p
        have hsd:s≠d:=by
         intro e;subst e
         have:=hb.2
         simp[Ci] at this
        refine⟨λhs=>?_,λhs=>?_⟩
        ·rw[mr (Ne.symm hsd)] at hs
         exact(tN hd).trans (by rw[hu s b rfl hs])
        ·rw[mr (Ne.symm hsd)] at hs
         exact(tN hd).trans (by rw[hu2 s b rfl hs])
     ·obtain⟨h1,h2⟩:=K3.1 he
      have hok:=hH.all e h1
      unfold Hr at h2
      simp only[KR,L0] at h2
      have hne:d≠e.s:=by
       intro e1
       have:=h2.1
       rw[<-e1] at this
       simp at this
      unfold fe at hok ⊢
      cases hg:e.g with
      |none=>rw[hg] at hok;exact(mr hne).trans hok
      |some p=>
        obtain⟨s,b⟩:=p
        rw[hg] at hok h2
        have hne2:d≠s:=by
         intro e1
         have:=h2.2
         rw[<-e1] at this
         simp at this
        refine⟨λhs=>?_,λhs=>?_⟩
        ·rw[mr hne2] at hs
         exact(mr hne).trans (hok.1 hs)
        ·rw[mr hne2] at hs
         exact(mr hne).trans (hok.2 hs)
theorem qI {s:Nat}{b:Bool}{a:Act}(hs:a.tmps[s]?=some (.bool b)):∀{E:List bE},(∀e∈E,fe a e)->∀e∈pO s b E,fe a e
 |[],_,e,he=>by simp[pO] at he
 |x::r,h,e,he=>by
   have hr:=qI hs (E:=r) (λe he=>h e (K7 _ he))
   have hx:=h x KV
   unfold pO at he
   cases hb:K6 x.s s with
   |true=>
     rw[hb] at he
     rcases K8.1 he with he|he
     ·subst he;exact hs
     ·exact hr e he
   |false=>
     rw[hb] at he
     simp only[cond_false] at he
     unfold fe at hx
     cases hg:x.g with
     |none=>
       rw[hg] at he hx
       rcases K8.1 he with he|he
       ·subst he;unfold fe;rw[hg];exact hx
       ·exact hr e he
     |some p=>
       rw[hg] at he hx
       simp only at he
       cases hb2:Hl p (s,b) with
       |true=>
         rw[hb2] at he
         have:=nS hb2
         subst this
         rcases K8.1 he with he|he
         ·subst he;exact hx.1 hs
         ·exact hr e he
       |false=>
         rw[hb2] at he
         simp only[cond_false] at he
         cases hb3:K6 p.1 s with
         |true=>rw[hb3] at he;exact hr e he
         |false=>
           rw[hb3] at he
           rcases K8.1 he with he|he
           ·subst he;unfold fe;rw[hg];exact hx
           ·exact hr e he
theorem Holds.pO {E:List bE}{a:Act}{s:Nat}{b:Bool}(hH:Holds N D E a)(hs:a.tmps[s]?=some (.bool b)):Holds N D (pO s b E) a:=
 ⟨hH.size,hH.defers,qI hs hH.all⟩
def kH (s:Nat)(b:Bool)(E:List bE):List bE:=pO s b E++[⟨s,.bool b,some (s,b)⟩]
theorem Holds.kH {E:List bE}{a:Act}{s:Nat}{b:Bool}(hH:Holds N D E a)(hs:a.tmps[s]?=some (.bool b)):Holds N D (kH s b E) a:=
 ⟨hH.size,hH.defers,λe he=>by
  rcases KW.1 he with h|h
  ·exact(hH.pO hs).all e h
  ·rw[LI.1 h];exact⟨λh=>h,λh=>absurd hs h⟩⟩
def mZ (s:Nat)(b:Bool):List bE->List bE
 |[]=>[]
 |e::r=>bif K6 e.s s then ⟨s,.bool b,none⟩::mZ s b r else (match e.g with
   |none=>e::mZ s b r
   |some p=>bif Hl p (s,b) then ⟨e.s,e.v,none⟩::mZ s b r else bif K6 p.1 s then ⟨e.s,undef,none⟩::mZ s b r else e::mZ s b r)
theorem pa {s:Nat}{b:Bool}{a:Act}(hs:a.tmps[s]?=some (.bool b)):∀{E:List bE},(∀e∈E,fe a e)->∀e∈mZ s b E,fe a e
 |[],_,e,he=>by simp[mZ] at he
 |x::r,h,e,he=>by
   have hr:=pa hs (E:=r) (λe he=>h e (K7 _ he))
   have hx:=h x KV
   unfold mZ at he
   cases hb:K6 x.s s with
   |true=>
     rw[hb] at he
     rcases K8.1 he with he|he
     ·subst he;exact hs
     ·exact hr e he
   |false=>
     rw[hb] at he
     simp only[cond_false] at he
     unfold fe at hx
     cases hg:x.g with
     |none=>
       rw[hg] at he hx
       rcases K8.1 he with he|he
       ·subst he;unfold fe;rw[hg];exact hx
       ·exact hr e he
     |some p=>
       rw[hg] at he hx
       simp only at he
       cases hb2:Hl p (s,b) with
       |true=>
         rw[hb2] at he
         have:=nS hb2
         subst this
         rcases K8.1 he with he|he
         ·subst he
          exact hx.1 hs
         ·exact hr e he
       |false=>
         rw[hb2] at he
         simp only[cond_false] at he
         cases hb3:K6 p.1 s with
         |true=>
           rw[hb3] at he
           have e3:=KX hb3
           obtain⟨p1,p2⟩:=p
           simp only at e3 hx
           subst e3
           rcases K8.1 he with he|he
           ·subst he
            refine hx.2 λq=>?_
            rw[hs] at q
            have q2:b=p2:=by injection q with q;injection q
            subst q2
            unfold Hl at hb2
            simp at hb2
           ·exact hr e he
         |false=>
           rw[hb3] at he
           rcases K8.1 he with he|he
           ·subst he;unfold fe;rw[hg];exact hx
           ·exact hr e he
def ur (s:Nat)(b:Bool)(E:List bE):List bE:=mZ s b E++[⟨s,.bool b,some (s,b)⟩]
theorem Holds.ur {E:List bE}{a:Act}{s:Nat}{b:Bool}(hH:Holds N D E a)(hs:a.tmps[s]?=some (.bool b)):Holds N D (ur s b E) a:=
 ⟨hH.size,hH.defers,λe he=>by
  rcases KW.1 he with h|h
  ·exact pa hs hH.all e h
  ·rw[LI.1 h];exact⟨λh=>h,λh=>absurd hs h⟩⟩
def isLit (E:List bE)(s:Nat):Bool:=E.any λe=>K6 e.s s&&(match e.g with|some p=>K6 p.1 s|none=>false)
def uq (gs:List (Nat×Bool))(c:Operand)(b:Bool):List (Nat×Bool):=match c with|.tmp t=>(t,b)::gs|_=>gs
def JE (M:Option (Heap->Prop))(H:Heap)(A:Prop):Prop:=match M with|none=>A|some G=>G H/\A
def gB:Op->Bool
 |.select ..=>true
 |_=>false
def ji (P:Program)(E:List bE)(gs:List (Nat×Bool))(o:Oper):Option Value:=
 match o.op with
 |.pick c a b=>(match AU E gs c,AU E (uq gs c true) a,AU E (uq gs c false) b with
   |some (.bool t),some va,some vb=>some (pd t a b va vb)
   |_,_,_=>none)
 |op=>bif zt P op&&(kR E gs op&&!(gB op)) then evalOp P o (BC E gs) else none
def vG (P:Program)(L:List Nat)(E:List bE)(gs:List (Nat×Bool))(o:Oper)(M:Option (Heap->Prop))(H:Heap)(K:Value->Heap->Prop):Prop:=
 match ji P E gs o with
 |some v=>K v H
 |none=>bif kR E gs o.op&&!(gB o.op) then
   (match ft P o.op with
    |0=>qd P o.op (BC E gs) λv=>K v H
    |1=>pW P o.op o.type (BC E gs) (bif IE L o then none else M) H λv=>K v H
    |_=>xL P o.op o.type (BC E gs) H λv H'=>JE M H' (K v H'))
   else False
theorem gV {E:List bE}{gs:List (Nat×Bool)}{o:Oper}{a:Act}{v:Value}(hH:Holds N D E a)(hg:∀p∈gs,a.tmps[p.1]?=some (.bool p.2))
  (h:ji P E gs o=some v) (w':World):(execOp a.eval o).run P w'=.ok (.value v) w':=by
 unfold ji at h
 split at h
 ·rename_i c x y hop
  split at h
  ·rename_i t va vb hc hx hy
   have hv:pd t x y va vb=v:=K1 h
   subst hv
   have ec:=gC hH hg hc
   have key:pd t x y va vb=if t then a.eval x else a.eval y:=by
    have hct:∀b,t=b->∀p∈uq gs c b,a.tmps[p.1]?=some (.bool p.2):=by
     intro b hb p hp
     cases c with
     |tmp s=>
       simp only[uq] at hp
       rcases K8.1 hp with hp|hp
       ·subst hp
        simp only[AU] at hc
        split at hc
        ·rename_i e he
         obtain⟨h1,h2⟩:=fJ he
         cases hb2:Jw gs e.g with
         |false=>rw[hb2] at hc;cases hc
         |true=>
           rw[hb2] at hc
           have hv:e.v=.bool t:=K1 hc
           have hok:=hH.all e h1
           have:a.tmps[e.s]?=some e.v:=by
            unfold fe at hok
            cases hge:e.g with
            |none=>rw[hge] at hok;exact hok
            |some p=>
              rw[hge] at hok hb2
              obtain⟨q,hq,heq⟩:=NA.1 hb2
              have:=nS heq
              subst this
              exact hok.1 (hg _ hq)
           rw[h2,hv,hb] at this
           exact this
        ·cases hc
       ·exact hg p hp
     |_=>exact hg p hp
    -- the constant's own case
    have cx:∀v,x=.const v->va=v:=λv e=>by subst e;exact(K1 hx).symm
    have cy:∀v,y=.const v->vb=v:=λv e=>by subst e;exact(K1 hy).symm
    have e0:pd t x y va vb=if t then va else vb:=by
     unfold pd
     split
     ·rename_i p q
      split
      ·have:=cy _ rfl
       have e2:q=false:=by simpa using this
       subst e2;cases t<;>simp
      ·split
       ·have:=cx _ rfl
        have e2:p=true:=by simpa using this
        subst e2;cases t<;>simp
       ·cases t<;>simp
     ·cases t<;>simp
    rw[e0]
    cases t with
    |true=>simp only[if_true];rw[gC hH (hct true rfl) hx]
    |false=>simp only[Bool.false_eq_true,if_false];rw[gC hH (hct false rfl) hy]
   simp only[execOp,hop,ec,asBool,K5,Lu,K4,key]
  ·cases h
 ·cases hb:(zt P o.op&&(kR E gs o.op&&!(gB o.op))) with
  |false=>rw[hb] at h;cases h
  |true=>
    rw[hb] at h
    simp only[KR,L0] at hb
    have hs:∀cs b,o.op≠.select cs b:=λcs b e=>by rw[e] at hb;cases hb.2.2
    rw[jq hH hg hb.2.1 hs]
    exact yq h w'
theorem jJ {c:Nat}{M:Option (Heap->Prop)}{r:World->Result Next}{v:Value}{R:Value->World->Prop}{w:World}(hG:iC M w.heap)(hv:∀w',r w'=.ok (.value v) w')(hr:R v w):fw P M c r R w:=by
 match c with
 |0=>exact⟨v,hv,hr⟩
 |1=>exact⟨v,λw' _=>hv w',hr⟩
 |_+2=>show nX P (r w) _;rw[hv w];exact⟨hG,hr⟩
theorem qs {L:List Nat}{o:Oper}{c:Nat}(h:ft P o.op=c)(hc:c≠1):cH P L o=c:=by
 unfold cH
 have:K6 (ft P o.op) 1=false:=by
  cases hb:K6 (ft P o.op) 1 with
  |false=>rfl
  |true=>exact absurd (h.symm.trans (KX hb)) hc
 rw[this];exact h
theorem Au {L:List Nat}{o:Oper}(h:ft P o.op=1)(hl:IE L o=true):cH P L o=2:=by
 unfold cH;rw[h,hl];rfl
theorem xo {L:List Nat}{o:Oper}(h:ft P o.op=1)(hl:IE L o=false):cH P L o=1:=by
 unfold cH;rw[h,hl];rfl
theorem vi (hNG:j6 P){E:List bE}{gs:List (Nat×Bool)}{o:Oper}{M:Option (Heap->Prop)}{a:Act}{w:World}{K:Value->Heap->Prop}{R:Value->World->Prop}
  (hH:Holds N D E a) (hg:∀p∈gs,a.tmps[p.1]?=some (.bool p.2)) (hG:iC M w.heap) (hK:∀v w',Alike w w'->iC M w'.heap->K v w'.heap->R v w')
  (h:vG P L E gs o M w.heap K):fw P M (cH P L o) (λw=>(execOp a.eval o).run P w) R w:=by
 unfold vG at h
 split at h
 ·rename_i v hv
  exact jJ hG (gV hH hg hv) (hK v w (.refl w) hG h)
 ·cases hb:(kR E gs o.op&&!(gB o.op)) with
  |false=>rw[hb] at h;exact h.elim
  |true=>
    rw[hb] at h
    simp only[KR,L0] at hb
    have hs:∀cs b,o.op≠.select cs b:=λcs b e=>by rw[e] at hb;cases hb.2
    have he:=jq hH hg hb.1 hs
    simp only[cond_true] at h
    rw[he]
    split at h
    ·rename_i hc
     rw[qs hc (by decide)]
     obtain⟨v,h1,h2⟩:=lT (o:=o) (tx) h
     exact⟨v,h1,hK v w (.refl w) hG h2⟩
    ·rename_i hc
     cases hl:IE L o with
     |true=>
       rw[hl] at h
       simp only[cond_true] at h
       obtain⟨v,h1,h2⟩:=ja (o:=o) h
       rw[Au hc hl]
       have h3:=h1 w rfl
       show nX P ((execOp (BC E gs) o).run P w) _
       rw[h3]
       exact⟨hG,hK v w (.refl w) hG h2⟩
     |false=>
       rw[hl] at h
       simp only[cond_false] at h
       obtain⟨v,h1,h2⟩:=ja (o:=o) h
       rw[xo hc hl]
       exact⟨v,λw' hw'=>h1 w' hw',hK v w (.refl w) hG h2⟩
    ·rename_i c n0 n1
     have h3:nX P ((execOp (BC E gs) o).run P w) (λv w'=>iC M w'.heap/\R v w'):=by
      refine tQ hNG (M:=M) (K:=λv H'=>JE M H' (K v H')) ?_ h
      intro v w' ha hk
      cases M with
      |none=>exact⟨trivial,hK v w' ha trivial hk⟩
      |some G=>exact⟨hk.1,hK v w' ha hk.1 hk.2⟩
     have n1':ft P o.op≠1:=λe=>n1 e
     have n0':ft P o.op≠0:=λe=>n0 e
     have n1'':cH P L o=ft P o.op:=qs rfl n1'
     rw[n1'']
     generalize ft P o.op=c at*
     match c with
     |0=>exact absurd rfl n0'
     |1=>exact absurd rfl n1'
     |_+2=>exact h3
def tG (ops:Array Oper)(j:Nat):Option Nat:=match ops[j]? with|some o=>o.dst|none=>none
theorem pw {ops:Array Oper}{o:Oper}{a:Act}{j s:Nat}{want:Bool}(hg:o.guard=some (j,want))(hs:tG ops j=some s):
  (Ls o (yielded ops a.tmps)=true↔a.tmps[s]?=some (.bool want)):=by
 have hb:(ops[j]?).bind (·.dst)=some s:=by
  unfold tG at hs
  split at hs
  ·rename_i o' ho;rw[ho];exact hs
  ·cases hs
 simp only[Ls,hg,yielded,hb,Option.bind_some]
 constructor
 ·intro h
  split at h
  ·rename_i b hb2;rw[hb2];simpa using h
  ·simp at h
 ·intro h;rw[h];simp
def iJ (P:Program)(N:Nat)(L:List Nat)(M:Option (Heap->Prop))(o:Oper)(E:List bE)(H:Heap)(s:Nat)(want b:Bool)(K:List bE->Heap->Prop):Prop:=
 bif b==want then vG P L (kH s b E) [] o M H λv H'=>mW N (kH s b E) o.dst v none λE'=>K E' H'
 else mW N (kH s b E) o.dst undef none λE'=>K E' H
def xx (E:List bE)(s:Nat):Bool:=match find E s with|some ⟨_,.tuple _,none⟩=>true|_=>false
def zk (ops:Array Oper)(o:Oper):Bool:=match o.op with
 |.extract (.tmp t) _=>ops.toList.any λp=>(match p.op with|.entry _=>(match p.dst with|some d=>K6 d t|none=>false)|_=>false)
 |_=>false
def Jk (P:Program)(N:Nat)(L:List Nat)(ops:Array Oper)(M:Option (Heap->Prop))(o:Oper)(E:List bE)(H:Heap)(K:List bE->Heap->Prop):Prop:=
 match o.guard with
 |none=>bif zk ops o then (match ji P E [] o with
   |some v=>FV (jA P o.type) v λy=>mW N E o.dst ((jA P o.type).enc y) none λE'=>K E' H
   |none=>False)
   else vG P L E [] o M H λv H'=>mW N E o.dst v none λE'=>K E' H'
 |some (j,want)=>(match tG ops j with
   |none=>False
   |some s=>bif xx E s then mW N E o.dst undef none λE'=>K E' H else bif isLit E s then (match find E s with
     |some ⟨_,.bool b,none⟩=>br b (iJ P N L M o E H s want true K) (iJ P N L M o E H s want false K)
     |_=>False) else (match ji P E [(s,want)] o with
     |some v=>mW N E o.dst v (some (s,want)) λE'=>K E' H
     |none=>(match find E s with
       |some ⟨_,.bool b,none⟩=>br b (iJ P N L M o E H s want true K) (iJ P N L M o E H s want false K)
       |some ⟨_,.bool b,some (s2,w2)⟩=>(match find E s2 with
         |some ⟨_,.bool b2,none⟩=>
           br (b2==w2) (br b (iJ P N L M o (kH s2 w2 E) H s want true K) (iJ P N L M o (kH s2 w2 E) H s want false K)) (mW N (ur s2 (!w2) E) o.dst undef none λE'=>K E' H)
         |_=>False)
       |_=>False)))
theorem Ae (hNG:j6 P){ops:Array Oper}{M:Option (Heap->Prop)}{o:Oper}{E:List bE}{a:Act}{w:World}{K:List bE->Heap->Prop}{K':Act->World->Prop}
  (hH:Holds N D E a) (hG:iC M w.heap)
  (hK:∀E' u w',Holds N D E' (a.put o.dst u)->Alike w w'->iC M w'.heap->K E' w'.heap->K' (a.put o.dst u) w')
  (h:Jk P N L ops M o E w.heap K):dx P M L ops o K' a w:=by
 have plain:∀{E:List bE},Holds N D E a->vG P L E [] o M w.heap (λv H'=>mW N E o.dst v none λE'=>K E' H')->
   fw P M (cH P L o) (λw=>(execOp a.eval o).run P w) (λv w'=>K' (a.put o.dst v) w') w:=by
  intro E hH h
  refine vi hNG hH (by simp) hG (λv w' ha hg hk=>?_) h
  obtain⟨E',h1,h2⟩:=dS hH hk (u:=v) (λ_ _ _ _=>rfl) (λ_=>rfl)
  exact hK E' v w' h1 ha hg h2
 have known:∀{E:List bE} {s:Nat} {want b:Bool} {j:Nat},o.guard=some (j,want)->tG ops j=some s->Holds N D E a->a.tmps[s]?=some (.bool b)->iJ P N L M o E w.heap s want b K->dx P M L ops o K' a w:=by
  intro E s want b j hg hs hH hv h
  have hw:=pw (a:=a) hg hs
  unfold iJ at h
  unfold dx
  by_cases e:b=want
  ·subst e
   simp only[beq_self_eq_true,cond_true] at h
   rw[if_pos (hw.2 hv)]
   exact plain (hH.kH hv) h
  ·have hne:(b==want)=false:=by simpa using e
   rw[hne] at h
   simp only[cond_false] at h
   rw[if_neg (λhh=>by
    have:=hw.1 hh
    rw[hv] at this
    simp at this
    exact e this)]
   obtain⟨E',h1,h2⟩:=dS (hH.kH hv) h (u:=undef) (λ_ _ _ _=>rfl) (λ_=>rfl)
   exact hK E' undef w h1 (.refl w) hG h2
 unfold Jk at h
 split at h
 ·rename_i hg
  unfold dx
  rw[if_pos (by simp[Ls,hg])]
  cases hoe:zk ops o with
  |false=>rw[hoe] at h;exact plain hH h
  |true=>
    rw[hoe] at h
    simp only[cond_true] at h
    split at h
    ·rename_i v hv
     obtain⟨y,rfl,hy⟩:=h
     obtain⟨E',h1,h2⟩:=dS hH hy (u:=(jA P o.type).enc y) (λ_ _ _ _=>rfl) (λ_=>rfl)
     exact jJ hG (gV hH (by simp) hv) (hK E' _ w h1 (.refl w) hG h2)
    ·exact h.elim
 ·rename_i j want hg
  split at h
  ·exact h.elim
  ·rename_i s hs
   have hw:=pw (a:=a) hg hs
   cases hnb:xx E s with
   |true=>
     rw[hnb] at h
     simp only[cond_true] at h
     have hv:∃vs,a.tmps[s]?=some (.tuple vs):=by
      unfold xx at hnb
      split at hnb
      ·rename_i s' vs hf
       obtain⟨h1,h2⟩:=fJ hf
       have:=hH.all _ h1
       simp only at h2
       subst h2
       exact⟨vs,this⟩
      ·cases hnb
     obtain⟨vs,hv⟩:=hv
     unfold dx
     rw[if_neg (λhh=>by have:=hw.1 hh;rw[hv] at this;simp at this)]
     obtain⟨E',h1,h2⟩:=dS hH h (u:=undef) (λ_ _ _ _=>rfl) (λ_=>rfl)
     exact hK E' undef w h1 (.refl w) hG h2
   |false=>
   rw[hnb] at h
   simp only[cond_false] at h
   cases hil:isLit E s with
   |true=>
     rw[hil] at h
     simp only[cond_true] at h
     split at h
     ·rename_i s' b hf
      obtain⟨h1,h2⟩:=fJ hf
      have hv:a.tmps[s]?=some (.bool b):=by have:=hH.all _ h1;simp only at h2;subst h2;exact this
      cases b with
      |true=>exact known hg hs hH hv h
      |false=>exact known hg hs hH hv h
     ·exact h.elim
   |false=>
   rw[hil] at h
   simp only[cond_false] at h
   split at h
   ·rename_i v hv
    unfold dx
    split
    ·rename_i hwant
     have hsl:=hw.1 hwant
     obtain⟨E',h1,h2⟩:=dS hH h (u:=v) (λ_ _ _ _=>rfl) (λ_=>rfl) (hu2:=λs' b' e hh=>by obtain⟨rfl,rfl⟩:=(RG (K1 e));exact absurd hsl hh)
     exact jJ hG (gV hH (by intro p hp;rw[LI.1 hp];exact hsl) hv) (hK E' v w h1 (.refl w) hG h2)
    ·rename_i hwant
     obtain⟨E',h1,h2⟩:=dS hH h (u:=undef) (λs' b' e hh=>by obtain⟨rfl,rfl⟩:=(RG (K1 e));exact absurd (hw.2 hh) hwant) (λe=>by cases e) (hu2:=λ_ _ _ _=>rfl)
     exact hK E' undef w h1 (.refl w) hG h2
   ·split at h
    ·rename_i s' b hf
     obtain⟨h1,h2⟩:=fJ hf
     have hv:a.tmps[s]?=some (.bool b):=by have:=hH.all _ h1;simp only at h2;subst h2;exact this
     cases b with
     |true=>exact known hg hs hH hv h
     |false=>exact known hg hs hH hv h
    ·rename_i s' b s2 w2 hf
     split at h
     ·rename_i s3 b2 hf2
      obtain⟨h1,h2⟩:=fJ hf
      obtain⟨h3,h4⟩:=fJ hf2
      have hv2:a.tmps[s2]?=some (.bool b2):=by have:=hH.all _ h3;simp only at h4;subst h4;exact this
      obtain⟨h5,h6⟩:=CE.1 h
      by_cases e:b2=w2
      ·subst e
       have h7:=h5 (by simp)
       have hv:a.tmps[s]?=some (.bool b):=by
        have:=hH.all _ h1
        simp only at h2
        subst h2
        exact this.1 hv2
       cases b with
       |true=>exact known hg hs (hH.kH hv2) hv h7
       |false=>exact known hg hs (hH.kH hv2) hv h7
      ·have h7:=h6 (by simpa using e)
       have e2:b2=!w2:=by cases b2<;>cases w2<;>simp_all
       have hu:a.tmps[s]?=some undef:=by
        have:=hH.all _ h1
        simp only at h2
        subst h2
        exact this.2 (by rw[hv2];intro q;injection q with q;injection q with q;exact e q)
       have hnw:¬Ls o (yielded ops a.tmps)=true:=λhh=>by
        have:=hw.1 hh
        rw[hu] at this
        unfold undef at this
        cases this
       unfold dx
       rw[if_neg hnw]
       obtain⟨E',k1,k2⟩:=dS (hH.ur (by rw[hv2,e2])) h7 (u:=undef) (λ_ _ _ _=>rfl) (λ_=>rfl)
       exact hK E' undef w k1 (.refl w) hG k2
     ·exact h.elim
    ·exact h.elim
def eZ (P:Program)(N:Nat)(L:List Nat)(ops:Array Oper)(M:Option (Heap->Prop)):List Oper->List bE->Heap->(List bE->Heap->Prop)->Prop
 |[],E,H,K=>K E H
 |o::l,E,H,K=>Jk P N L ops M o E H λE' H'=>eZ P N L ops M l E' H' K
def rL (l:List Oper):List Nat:=l.filterMap (·.dst)
theorem bR (hNG:j6 P){ops:Array Oper}{M:Option (Heap->Prop)}{K:List bE->Heap->Prop}{K':Act->World->Prop}{W:List Nat}{a0:Act}{w0:World}
  (hK:∀E' a' w',Holds N D E' a'->fi W a0 a'->Alike w0 w'->iC M w'.heap->K E' w'.heap->K' a' w'):
  ∀(l:List Oper),(∀o∈l,∀d,o.dst=some d->W.contains d=true)->∀(E:List bE) (a:Act) (w:World),Holds N D E a->fi W a0 a->Alike w0 w->iC M w.heap->eZ P N L ops M l E w.heap K->dw P M L ops K' l a w
 |[],_,E,a,w,hH,hS,hA,hG,h=>hK E a w hH hS hA hG h
 |o::l,hW,_,_,_,hH,hS,hA,hG,h=>
   Ae hNG hH hG (λE' _ w' h1 ha hg h2=>bR hNG hK l (λo' ho'=>hW o' (K7 _ ho')) E' _ w' h1
    (hS.trans (fi.put (hW o KV))) (hA.trans ha) hg h2) h
def uG (P:Program)(op:Op)(ρ:Operand->Value):Option (Array Value×TypeId×(Nat->Value)):=
 match op with
 |.alloc t=>(match (P.info? t).bind (·.zero) with
   |some _=>some (zc P t,t,λb=>.pointer (some ⟨b,0,none⟩))
   |none=>none)
 |.box t x=>some ((ρ x).cells,t,λb=>.pointer (some ⟨b,0,none⟩))
 |.buildSlice t len parts=>(match P.underlying t with
   |some (.slice el)=>(match qc P el len (parts.toList.map λq=>(q.1,ρ q.2)) with
     |some cells=>some (cells,el,λb=>.slice (some ⟨b,0,none⟩) len len)
     |none=>none)
   |_=>none)
 |_=>none
theorem wB {o:Oper}{ρ:Operand->Value}{q:Array Value×TypeId×(Nat->Value)}(h:uG P o.op ρ=some q):tZ P (λw'=>(execOp ρ o).run P w') (.cells q.1 q.2.1) q.2.2:=by
 obtain⟨dst,op,type,pos,after,guard⟩:=o
 simp only at h
 intro w
 unfold uG at h
 split at h
 ·rename_i t
  split at h
  ·rename_i z hz
   cases h
   obtain⟨inf,hi,hz'⟩:=Option.bind_eq_some_iff.1 hz
   have e:zc P t=z.cells:=by unfold zc;rw[hz]
   have hrun:(Qv t true (.tuple #[])).run P w=.ok (.pointer (some ⟨w.heap.size,0,none⟩)) {w with heap:=w.heap.push (.cells (zc P t) t)}:=by
    rw[e];simp[Qv,zeroValue,typeInfo,hi,hz',newVar,newRow]
   simp only[execOp,K5,hrun,K4,Lu]
  ·cases h
 ·rename_i t x
  cases h
  have hrun:(QU t (ρ x)).run P w=.ok (.pointer (some ⟨w.heap.size,0,none⟩)) {w with heap:=w.heap.push (.cells (ρ x).cells t)}:=by
   simp[QU,newVar,newRow]
  simp only[execOp,K5,hrun,K4,Lu]
 ·rename_i t len parts
  split at h
  ·rename_i el hu
   split at h
   ·rename_i cells hb
    cases h
    unfold qc at hb
    split at hb
    ·rename_i inf hi
     split at hb
     ·rename_i z hz
      have hrun:(Lx t len (parts.map λ(i,x)=>(i,ρ x))).run P w=.ok (.slice (some ⟨w.heap.size,0,none⟩) len len) {w with heap:=w.heap.push (.cells cells el)}:=by
       have hl:(parts.map λ(i,x)=>(i,ρ x)).toList=parts.toList.map λq=>(q.1,ρ q.2):=by simp
       have hbl:LS 16777216 (len*inf.size)=false:=by
        cases hb3:LS 16777216 (len*inf.size) with
        |false=>rfl
        |true=>rw[hb3] at hb;cases hb
       rw[hbl] at hb
       simp only[cond_false] at hb
       have hbig:¬(len*inf.size>2^24):=by
        intro h9
        have:LS 16777216 (len*inf.size)=true:=Nat.ble_eq_true_of_le (by omega)
        rw[hbl] at this;cases this
       have e0:∀f:Nat->Value,(Array.range 0).map f=#[]:=λf=>Array.eq_empty_of_size_eq_zero (by simp)
       by_cases h0:len*inf.size=0
       ·have hb2:Instr.fill (λi=>some (i*inf.size,inf.size)) #[] (parts.toList.map λq=>(q.1,ρ q.2))=some cells:=by
         rw[h0,e0] at hb;exact hb
        simp[Lx,aE hu,bW hi,h0,e0,hb2,newRow]
       ·simp[Lx,aE hu,bW hi,hbig,h0,zeroValue,typeInfo,hi,hz,hb,newRow]
      simp only[execOp,K5,hrun,K4,Lu]
     ·cases hb
    ·cases hb
   ·cases h
  ·cases h
 ·cases h
def Jr (H:Heap)(T:Laid)(cells:Array Value)(t:TypeId)(K:Nat->Laid->Prop):Prop:=∀b,iG H T b->K b ((b,.cells cells t)::T)
def Hg (H:Heap)(T:Laid)(K:Heap->Prop):Prop:=∀H',Lays H T H'->K H'
def HY (P:Program)(N:Nat)(o:Oper)(E:List bE)(H:Heap)(T:Laid)(K:List bE->Laid->Prop):Prop:=
 match o.guard with
 |some _=>False
 |none=>(match ft P o.op with
   |0=>(match ji P E [] o with
     |some v=>mW N E o.dst v none λE'=>K E' T
     |none=>bif kR E [] o.op&&!(gB o.op) then qd P o.op (BC E []) λv=>mW N E o.dst v none λE'=>K E' T else False)
   |_=>bif kR E [] o.op&&!(gB o.op) then (match uG P o.op (BC E []) with
     |some q=>Jr H T q.1 q.2.1 λb T'=>mW N E o.dst (q.2.2 b) none λE'=>K E' T'
     |none=>False) else False)
theorem yi {ops:Array Oper}{o:Oper}{E:List bE}{a:Act}{H:Heap}{T:Laid}{K:List bE->Laid->Prop}{K':KF}(hH:Holds N D E a)
  (hK:∀E' u T',Holds N D E' (a.put o.dst u)->K E' T'->K' (a.put o.dst u) T') (h:HY P N o E H T K):gF P H ops o K' a T:=by
 have put:∀{v:Value} {T':Laid},(mW N E o.dst v none λE'=>K E' T')->K' (a.put o.dst v) T':=λ{v T'} hk=>by
  obtain⟨E',h1,h2⟩:=dS hH hk (u:=v) (λ_ _ _ _=>rfl) (λ_=>rfl)
  exact hK E' v T' h1 h2
 unfold HY at h
 split at h
 ·exact h.elim
 ·rename_i hg
  unfold gF
  rw[if_pos (by simp[Ls,hg])]
  split at h
  ·rename_i hc
   rw[hc]
   split at h
   ·rename_i v hv
    exact⟨v,λw'=>gV hH (by simp) hv w',put h⟩
   ·cases hb:(kR E [] o.op&&!(gB o.op)) with
    |false=>rw[hb] at h;exact h.elim
    |true=>
      rw[hb] at h
      simp only[KR,L0] at hb
      have hs:∀cs b,o.op≠.select cs b:=λcs b e=>by rw[e] at hb;cases hb.2
      have he:=jq hH (by simp) hb.1 hs
      simp only[cond_true] at h
      obtain⟨v,h1,h2⟩:=lT (o:=o) (tx) h
      simp only
      rw[he]
      exact⟨v,h1,put h2⟩
  ·rename_i c hc
   split
   ·rename_i h0;exact absurd h0 hc
   ·cases hb:(kR E [] o.op&&!(gB o.op)) with
    |false=>rw[hb] at h;exact h.elim
    |true=>
      rw[hb] at h
      simp only[KR,L0] at hb
      have hs:∀cs b,o.op≠.select cs b:=λcs b e=>by rw[e] at hb;cases hb.2
      have he:=jq hH (by simp) hb.1 hs
      simp only[cond_true] at h
      split at h
      ·rename_i q hq
       rw[he]
       exact⟨_,_,wB hq,λb hb=>put (h b hb)⟩
      ·exact h.elim
def xb (P:Program)(N:Nat):List Oper->List bE->Heap->Laid->(List bE->Laid->Prop)->Prop
 |[],E,_,T,K=>K E T
 |o::l,E,H,T,K=>HY P N o E H T λE' T'=>xb P N l E' H T' K
theorem mX {ops:Array Oper}{H:Heap}{K:List bE->Laid->Prop}{K':KF}{W:List Nat}{a0:Act}(hK:∀E' a' T',Holds N D E' a'->fi W a0 a'->K E' T'->K' a' T'):
  ∀(l:List Oper),(∀o∈l,∀d,o.dst=some d->W.contains d=true)->∀(E:List bE) (a:Act) (T:Laid),Holds N D E a->fi W a0 a->xb P N l E H T K->nR P H ops K' l a T
 |[],_,E,a,T,hH,hS,h=>hK E a T hH hS h
 |o::l,hW,_,_,_,hH,hS,h=>
   yi hH (λE' _ T' h1 h2=>mX hK l (λo' ho'=>hW o' (K7 _ ho')) E' _ T' h1 (hS.trans (fi.put (hW o KV))) h2) h
def Jo (P:Program)(N:Nat)(ops:Array Oper)(draw:Bool)(E:List bE)(H:Heap)(K:List bE->Heap->Prop):Prop:=
 bif draw then (bif dh P [] 0 ops then eZ P N [] ops none ops.toList E H K
  else let L:=kI P ops
   let k:=nQ P L ops
   bif dh P L k ops then (bif K6 k 0 then eZ P N L ops none ops.toList E H K else ∃G:Heap->Prop,G H/\eZ P N L ops (some G) (ops.toList.take k) E H λE' H'=>eZ P N L ops none (ops.toList.drop k) E' H' K) else bif eY ops then xb P N ops.toList E H [] λE' T=>Hg H T λH'=>K E' H' else False)
 else eZ P N [] ops none ops.toList E H K
theorem zL (hNG:j6 P)(hm:P.follows .mixedOrders=true){rn:Option Nat}{id:Nat}{ops:Array Oper}{draw:Bool}{E:List bE}{a:Act}{w:World}{K:List bE->Heap->Prop}{Q:Exit->Act->World->Prop}
  (hH:Holds N D E a) (hK:∀E' a' w',Holds N D E' a'->fi (rL ops.toList) a a'->Alike w w'->K E' w'.heap->Q .normal a' w')
  (h:Jo P N ops draw E w.heap K):(Na id ops draw).wpIn (FW rn) 0 P Q a w:=by
 have hW:∀o∈ops.toList,∀d,o.dst=some d->(rL ops.toList).contains d=true:=by
  intro o ho d hd
  rw[Nn]
  exact Pf.2 ⟨o,ho,hd⟩
 unfold Jo at h
 cases draw with
 |false=>
   exact rS (bR (M:=none) hNG (λE' a' w' k1 k2 k3 _ k4=>hK E' a' w' k1 k2 k3 k4) ops.toList hW E a w hH (.refl _ _) (.refl _) trivial h)
 |true=>
   simp only[cond_true] at h
   have hd:Alike w {w with drawn:=w.drawn+1}:=.of_le rfl (Lm _)
   cases h1:dh P [] 0 ops with
   |true=>
     rw[h1] at h
     refine iw (M:=none) (k:=0) hm (λi hi=>by omega) h1 trivial ?_
     show dw P none [] ops _ (ops.toList.take 0) _ _
     rw[Qw,Qx]
     exact bR (M:=none) hNG (λE' a' w' k1 k2 k3 _ k4=>hK E' a' w' k1 k2 k3 k4) ops.toList hW E a _ hH (.refl _ _) hd trivial h
   |false=>
     rw[h1] at h
     simp only[cond_false] at h
     cases h2:dh P (kI P ops) (nQ P (kI P ops) ops) ops with
     |true=>
       rw[h2] at h
       simp only[cond_true] at h
       cases hk0:K6 (nQ P (kI P ops) ops) 0 with
       |true=>
         rw[hk0] at h
         have e0:=KX hk0
         rw[e0] at h2
         refine iw (M:=none) (k:=0) hm (λi hi=>by omega) h2 trivial ?_
         show dw P none (kI P ops) ops _ (ops.toList.take 0) _ _
         rw[Qw,Qx]
         exact bR (M:=none) hNG (λE' a' w' k1 k2 k3 _ k4=>hK E' a' w' k1 k2 k3 k4) ops.toList hW E a _ hH (.refl _ _) hd trivial h
       |false=>
       rw[hk0] at h
       obtain⟨G,h3,h4⟩:=h
       refine iw (M:=some G) hm (λ_ _=>rfl) h2 h3 (bR hNG (λE' a' w' k1 k2 k3 _ k4=>?_) (ops.toList.take _) (λo ho=>hW o (Me ho)) E a _ hH (.refl _ _) hd h3 h4)
       exact bR (M:=none) hNG (λE' a' w' k1 k2 k3 _ k4=>hK E' a' w' k1 k2 k3 k4) (ops.toList.drop _) (λo ho=>hW o (Mf ho)) E' a' w' k1 k2 k3 trivial k4
     |false=>
       rw[h2] at h
       simp only[cond_false] at h
       cases h3:eY ops with
       |false=>rw[h3] at h;exact h.elim
       |true=>
         rw[h3] at h
         simp only[cond_true] at h
         refine pH (K:=λa' T=>fi (rL ops.toList) a a'/\∃E',Holds N D E' a'/\Hg w.heap T λH'=>K E' H') hm ?_ h3 ?_ ?_
         ·rintro a' T T' p ⟨k1,E',k2,k3⟩
          exact⟨k1,E',k2,λH' hl=>k3 H' (hl.perm p.symm)⟩
         ·rintro a' T w' k1 k2 ⟨k3,E',k4,k5⟩
          exact hK E' a' w' k4 k3 k2 (k5 _ k1)
         ·exact mX (λE' a' T k1 k2 k3=>⟨k2,E',k1,k3⟩) ops.toList hW E a [] hH (.refl _ _) h
def HM (lo:Nat)(P:Program)(N:Nat)(ops:Array Oper)(E:List bE)(H:Heap)(K:List bE->Heap->Prop):Prop:=
 let L:=kI P ops
 let k:=nQ P L ops
 bif dO P L lo k ops then eZ P N L ops none (ops.toList.take lo) E H λE1 H1=>∃G:Heap->Prop,G H1/\eZ P N L ops (some G) ((ops.toList.take k).drop lo) E1 H1 λE' H'=>eZ P N L ops none (ops.toList.drop k) E' H' K else False
theorem ya (hNG:j6 P)(hm:P.follows .mixedOrders=true){lo:Nat}{rn:Option Nat}{id:Nat}{ops:Array Oper}{E:List bE}{a:Act}{w:World}{K:List bE->Heap->Prop}{Q:Exit->Act->World->Prop}
  (hH:Holds N D E a) (hK:∀E' a' w',Holds N D E' a'->fi (rL ops.toList) a a'->Alike w w'->K E' w'.heap->Q .normal a' w')
  (h:HM lo P N ops E w.heap K):(Na id ops true).wpIn (FW rn) 0 P Q a w:=by
 have hW:∀o∈ops.toList,∀d,o.dst=some d->(rL ops.toList).contains d=true:=by
  intro o ho d hd
  rw[Nn]
  exact Pf.2 ⟨o,ho,hd⟩
 have hd:Alike w {w with drawn:=w.drawn+1}:=.of_le rfl (Lm _)
 unfold HM at h
 simp only at h
 cases h2:dO P (kI P ops) lo (nQ P (kI P ops) ops) ops with
 |false=>rw[h2] at h;exact h.elim
 |true=>
   rw[h2] at h
   simp only[cond_true] at h
   refine pI hm h2 (bR (M:=none) hNG (λE1 a1 w1 k1 k2 k3 _ k4=>?_) (ops.toList.take _) (λo ho=>hW o (Me ho)) E a _ hH (.refl _ _) hd trivial h)
   obtain⟨G,h3,h4⟩:=k4
   refine⟨G,h3,bR (M:=some G) hNG (λE' a' w' k5 k6 k7 _ k8=>?_) _ (λo ho=>hW o (Me (Mf ho))) E1 a1 w1 k1 k2 k3 h3 h4⟩
   exact bR (M:=none) hNG (λE' a' w' k1 k2 k3 _ k4=>hK E' a' w' k1 k2 k3 k4) (ops.toList.drop _) (λo ho=>hW o (Mf ho)) E' a' w' k5 k6 k7 trivial k8
def j3 (ops:Array Oper)(l:List Nat):List Oper:=l.flatMap λi=>(ops.toList.drop i).take 1
def Ix (P:Program)(N:Nat)(L:List Nat)(ops:Array Oper)(M:Option (Heap->Prop))(f c:Nat):List Nat->List bE->Heap->(List bE->Heap->Prop)->Prop
 |[],E,H,K=>eZ P N L ops M (j3 ops [f]) E H K
 |i::l,E,H,K=>bif Nat.ble c i then eZ P N L ops M (j3 ops (f::i::l)) E H K else
   bif gN P L ops f c i then eZ P N L ops M (j3 ops (f::i::l)) E H K/\eZ P N L ops M (j3 ops [i]) E H (λE' H'=>Ix P N L ops M f c l E' H' K)
   else eZ P N L ops M (j3 ops [i]) E H λE' H'=>Ix P N L ops M f c l E' H' K
def HZ (f c:Nat)(P:Program)(N:Nat)(ops:Array Oper)(E:List bE)(H:Heap)(K:List bE->Heap->Prop):Prop:=
 let L:=kI P ops
 bif qX P L ops f c (cE ops.toList []) then ∃G:Heap->Prop,G H/\Ix P N L ops (some G) f c (jc ops.size f) E H K else False
theorem kF {M:Option (Heap->Prop)}{L:List Nat}{ops:Array Oper}{K:Act->World->Prop}:∀(l:List Nat),(∀i∈l,i<ops.size)->cv P M ops.size L ops K l=dw P M L ops K (j3 ops l)
 |[],_=>rfl
 |i::l,h=>by
   have hi:=h i KV
   have ih:=kF (M:=M) (L:=L) (K:=K) l λk hk=>h k (K7 _ hk)
   have e:(ops.toList.drop i).take 1=[ops[i]]:=by
    rw[List.drop_eq_getElem_cons (by simpa using hi)];simp
   have e2:j3 ops (i::l)=ops[i]::j3 ops l:=by
    unfold j3;rw[List.flatMap_cons,e];rfl
   have mi:ks M ops.size i=M:=by unfold ks;rw[eK.2 hi];rfl
   rw[e2]
   funext a w
   simp only[cv,dw,bF,Array.getElem?_eq_getElem hi,mi,ih]
theorem Bl (hNG:j6 P){L:List Nat}{ops:Array Oper}{M:Option (Heap->Prop)}{f c:Nat}{K:List bE->Heap->Prop}{K':Act->World->Prop}{W:List Nat}{a0:Act}{w0:World}
  (hK:∀E' a' w',Holds N D E' a'->fi W a0 a'->Alike w0 w'->iC M w'.heap->K E' w'.heap->K' a' w') (hf:f<ops.size) (hW:∀o∈ops.toList,∀d,o.dst=some d->W.contains d=true):
  ∀(l:List Nat),(∀i∈l,i<ops.size)->∀(E:List bE) (a:Act) (w:World),Holds N D E a->fi W a0 a->Alike w0 w->iC M w.heap->Ix P N L ops M f c l E w.heap K->iX P M L ops f c K' l a w:=by
 have hWi:∀l:List Nat,∀o∈j3 ops l,∀d,o.dst=some d->W.contains d=true:=λl o ho=>by
  unfold j3 at ho
  obtain⟨i,_,hi⟩:=LZ.1 ho
  exact hW o (Mf (Me hi))
 intro l
 induction l with
 |nil=>
   intro _ E a w hH hS hA hG h
   unfold iX
   rw[kF [f] λi hi=>by rw[LI] at hi;subst hi;exact hf]
   exact bR hNG hK _ (hWi _) E a w hH hS hA hG h
 |cons i l ih=>
   intro hl E a w hH hS hA hG h
   have hi:=hl i KV
   have ih':=ih λk hk=>hl k (K7 _ hk)
   have full:eZ P N L ops M (j3 ops (f::i::l)) E w.heap K->cv P M ops.size L ops K' (f::i::l) a w:=λhx=>by
    rw[kF (f::i::l) λk hk=>by
     rcases K8.1 hk with q|q
     ·subst q;exact hf
     ·exact hl k q]
    exact bR hNG hK _ (hWi _) E a w hH hS hA hG hx
   have one:eZ P N L ops M (j3 ops [i]) E w.heap (λE' H'=>Ix P N L ops M f c l E' H' K)->bF P M ops.size L ops i (iX P M L ops f c K' l) a w:=λhx=>by
    have:=bR (K':=iX P M L ops f c K' l) hNG (λE' a' w' h1 h2 h3 h4 h5=>ih' E' a' w' h1 h2 h3 h4 h5) _ (hWi [i]) E a w hH hS hA hG hx
    rw[<-kF [i] λk hk=>by rw[LI] at hk;subst hk;exact hi] at this
    exact this
   unfold Ix at h
   unfold iX
   cases hb:Nat.ble c i with
   |true=>rw[hb] at h;exact full h
   |false=>
     rw[hb] at h
     cases hs:gN P L ops f c i with
     |true=>rw[hs] at h;exact⟨full h.1,one h.2⟩
     |false=>rw[hs] at h;exact one h
theorem xB (hNG:j6 P)(hm:P.follows .mixedOrders=true){f c:Nat}{rn:Option Nat}{id:Nat}{ops:Array Oper}{E:List bE}{a:Act}{w:World}{K:List bE->Heap->Prop}{Q:Exit->Act->World->Prop}
  (hH:Holds N D E a) (hK:∀E' a' w',Holds N D E' a'->fi (rL ops.toList) a a'->Alike w w'->K E' w'.heap->Q .normal a' w')
  (h:HZ f c P N ops E w.heap K):(Na id ops true).wpIn (FW rn) 0 P Q a w:=by
 have hW:∀o∈ops.toList,∀d,o.dst=some d->(rL ops.toList).contains d=true:=by
  intro o ho d hd
  rw[Nn]
  exact Pf.2 ⟨o,ho,hd⟩
 have hd:Alike w {w with drawn:=w.drawn+1}:=.of_le rfl (Lm _)
 unfold HZ at h
 simp only at h
 cases h2:qX P (kI P ops) ops f c (cE ops.toList []) with
 |false=>rw[h2] at h;exact h.elim
 |true=>
   rw[h2] at h
   obtain⟨G,h3,h4⟩:=h
   have hF:=px h2
   exact pG (M:=some G) hm rfl h2 h3 (Bl hNG (λE' a' w' k1 k2 k3 _ k4=>hK E' a' w' k1 k2 k3 k4) (Nat.lt_trans hF.fc hF.cn) hW _ (λi hi=>KS.1 (K3.1 hi).1) E a _ hH (.refl _ _) hd h3 h4)
def Iy (P:Program)(N:Nat)(L:List Nat)(ops:Array Oper)(M:Option (Heap->Prop))(K:List bE->Heap->Prop):Nat->List Nat->List bE->Heap->Prop
 |0,_,E,H=>K E H
 |n+1,l,E,H=>(match lX (AA P L ops (cE ops.toList []) l) l with
   |some j=>eZ P N L ops M (j3 ops [j]) E H λE' H'=>Iy P N L ops M K n (eO l j) E' H'
   |none=>uL (ia (cE ops.toList []) l) (λj=>eZ P N L ops M (j3 ops [j]) E H λE' H'=>Iy P N L ops M K n (eO l j) E' H') l)
def Ih (ex:List Nat)(P:Program)(N:Nat)(ops:Array Oper)(E:List bE)(H:Heap)(K:List bE->Heap->Prop):Prop:=
 bif IZ ops then ∃G:Heap->Prop,G H/\Iy P N (ex++kI P ops) ops (some G) K ops.size (List.range ops.size) E H else False
theorem Bf (hNG:j6 P){L:List Nat}{ops:Array Oper}{M:Option (Heap->Prop)}{K:List bE->Heap->Prop}{K':Act->World->Prop}{W:List Nat}{a0:Act}{w0:World}
  (hK:∀E' a' w',Holds N D E' a'->fi W a0 a'->Alike w0 w'->iC M w'.heap->K E' w'.heap->K' a' w') (hW:∀o∈ops.toList,∀d,o.dst=some d->W.contains d=true):
  ∀(n:Nat) (l:List Nat),(∀i∈l,i<ops.size)->∀(E:List bE) (a:Act) (w:World),Holds N D E a->fi W a0 a->Alike w0 w->iC M w.heap->Iy P N L ops M K n l E w.heap->nj P M L ops K' n l a w:=by
 have hWi:∀l:List Nat,∀o∈j3 ops l,∀d,o.dst=some d->W.contains d=true:=λl o ho=>by
  unfold j3 at ho
  obtain⟨i,_,hi⟩:=LZ.1 ho
  exact hW o (Mf (Me hi))
 intro n
 induction n with
 |zero=>
   intro l _ E a w hH hS hA hG h
   exact hK E a w hH hS hA hG h
 |succ n ih=>
   intro l hl E a w hH hS hA hG h
   have one:∀j∈l,eZ P N L ops M (j3 ops [j]) E w.heap (λE' H'=>Iy P N L ops M K n (eO l j) E' H')->bF P M ops.size L ops j (nj P M L ops K' n (eO l j)) a w:=λj hj hx=>by
    have:=bR (K':=nj P M L ops K' n (eO l j)) hNG (λE' a' w' h1 h2 h3 h4 h5=>ih (eO l j) (λi hi=>hl i (fG.1 hi).1) E' a' w' h1 h2 h3 h4 h5) _ (hWi [j]) E a w hH hS hA hG hx
    rw[<-kF [j] λk hk=>by rw[LI] at hk;subst hk;exact hl k hj] at this
    exact this
   unfold Iy at h
   unfold nj
   cases hf:lX (AA P L ops (cE ops.toList []) l) l with
   |some j=>rw[hf] at h;exact one j (jC hf).1 h
   |none=>rw[hf] at h;exact nZ (λj hj=>one j hj) h
theorem xw (hNG:j6 P)(hm:P.follows .mixedOrders=true){ex:List Nat}{rn:Option Nat}{id:Nat}{ops:Array Oper}{E:List bE}{a:Act}{w:World}{K:List bE->Heap->Prop}{Q:Exit->Act->World->Prop}
  (hH:Holds N D E a) (hK:∀E' a' w',Holds N D E' a'->fi (rL ops.toList) a a'->Alike w w'->K E' w'.heap->Q .normal a' w')
  (h:Ih ex P N ops E w.heap K):(Na id ops true).wpIn (FW rn) 0 P Q a w:=by
 have hW:∀o∈ops.toList,∀d,o.dst=some d->(rL ops.toList).contains d=true:=by
  intro o ho d hd
  rw[Nn]
  exact Pf.2 ⟨o,ho,hd⟩
 have hd:Alike w {w with drawn:=w.drawn+1}:=.of_le rfl (Lm _)
 unfold Ih at h
 cases h2:IZ ops with
 |false=>rw[h2] at h;exact h.elim
 |true=>
   rw[h2] at h
   obtain⟨G,h3,h4⟩:=h
   exact nf (M:=some G) hm rfl h2 h3 (Bf hNG (λE' a' w' k1 k2 k3 _ k4=>hK E' a' w' k1 k2 k3 k4) hW _ _ (λi hi=>KS.1 hi) E a _ hH (.refl _ _) hd h3 h4)
end
end Go.Proofs.YtdpdmbceakdlmaaGreatDoor
