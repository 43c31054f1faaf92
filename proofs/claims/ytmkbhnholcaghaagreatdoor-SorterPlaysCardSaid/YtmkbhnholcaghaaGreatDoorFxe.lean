/-
 Ground, fifth text: what the walk of a whole function asks ('vcF'), and that it is enough ('spec_of_vc').
-/
import Derived.Test.YtmkbhnholcaghaaGreatDoorFxd
import Derived.Test.YtmkbhnholcaghaaGreatDoorFxv
open Array renaming getElem?_setIfInBounds_ne->Pw
open Bool renaming and_eq_true->Oj,not_eq_true'->PC
open Go.Act renaming put->US
open Go.Code renaming region->Sj
open Go.Region renaming wanted->PR
open List renaming mem_append->Oe,mem_cons->Oq,mem_cons_of_mem->Ou,mem_singleton->Ow,mem_cons_self->OA,mem_filter->OK,mem_range->OM,mem_of_mem_take->Pm,mem_flatMap->PI,any_eq_true->Qg,mem_of_mem_drop->QN,contains_iff_mem->RO,drop_zero->TU,take_zero->Uz,mem_filterMap->UC
open Nat renaming eq_of_beq_eq_true->Om,beq->OC,le_succ->OZ
open Option.some renaming inj->OE
open Prod.mk renaming inj->VT
namespace Go.Proofs.YtmkbhnholcaghaaGreatDoor
structure bJ where
 s:Nat
 v:Value
 g:Option (Nat×Bool)
def find:List bJ->Nat->Option bJ
 |[],_=>none
 |e::r,t=>bif OC e.s t then some e else find r t
def JV (a b:Nat×Bool):Bool:=OC a.1 b.1&&(a.2==b.2)
def Mu (gs:List (Nat×Bool)):Option (Nat×Bool)->Bool
 |none=>true
 |some p=>gs.any (JV p)
def Da (E:List bJ)(gs:List (Nat×Bool)):Operand->Option Value
 |.tmp t=>(match find E t with|some e=>(bif Mu gs e.g then some e.v else none)|none=>none)
 |.const v=>some v
 |.global g=>some (.pointer (some ⟨g,0,none⟩))
 |.func f=>some (.func (.func f) #[] #[])
def GR (E:List bJ)(gs:List (Nat×Bool))(x:Operand):Value:=(Da E gs x).getD undef
def tB (E:List bJ)(gs:List (Nat×Bool))(op:Op):Bool:=op.operands.toList.all λx=>(Da E gs x).isSome
def ft (a:Act)(e:bJ):Prop:=
 match e.g with
 |none=>a.tmps[e.s]?=some e.v
 |some (s,b)=>(a.tmps[s]?=some (.bool b)->a.tmps[e.s]?=some e.v)/\(a.tmps[s]?≠some (.bool b)->a.tmps[e.s]?=some undef)
structure Holds (N:Nat)(D:List Deferred)(E:List bJ)(a:Act):Prop where
 size:a.tmps.size=N
 defers:a.defers=D
 all:∀e∈E,ft a e
def Km (d:Nat)(e:bJ):Bool:=!(OC e.s d)&&(match e.g with|some (s,_)=>!(OC s d)|none=>true)
def FP (d:Nat)(g:Option (Nat×Bool)):Bool:=match g with|some p=>!(OC p.1 d)|none=>true
def tS (N:Nat)(E:List bJ)(dst:Option Nat)(v:Value)(g:Option (Nat×Bool))(K:List bJ->Prop):Prop:=
 match dst with
 |none=>K E
 |some d=>bif Nat.blt d N&&FP d g then K (⟨d,v,g⟩::E.filter (Km d)) else False
def qK (s:Nat)(b:Bool):List bJ->List bJ
 |[]=>[]
 |e::r=>bif OC e.s s then ⟨s,.bool b,none⟩::qK s b r else (match e.g with
   |none=>e::qK s b r
   |some p=>bif JV p (s,b) then ⟨e.s,e.v,none⟩::qK s b r else bif OC p.1 s then qK s b r else e::qK s b r)
def gT (W:List Nat)(a b:Act):Prop:=∀t,W.contains t=false->b.tmps[t]?=a.tmps[t]?
theorem gT.refl (W:List Nat)(a:Act):gT W a a:=λ_ _=>rfl
theorem gT.trans {W:List Nat}{a b c:Act}(h:gT W a b)(k:gT W b c):gT W a c:=λt d=>(k t d).trans (h t d)
theorem gT.mono {W c:List Nat}{a b:Act}(h:gT W a b)(hs:∀t,c.contains t=false->W.contains t=false):gT c a b:=λt d=>h t (hs t d)
theorem gT.put {W:List Nat}{a:Act}{dst:Option Nat}{v:Value}(h:∀d,dst=some d->W.contains d=true):gT W a (a.put dst v):=by
 intro t c;cases dst with
 |none=>rfl
 |some d=>
   have b:d≠t:=by intro e;subst e;rw[h d rfl] at c;cases c
   simp[US,Pw b]
theorem fL:∀{E:List bJ} {t:Nat} {e:bJ},find E t=some e->e∈E/\e.s=t
 |[],_,_,h=>by cases h
 |x::r,t,e,h=>by
   unfold find at h;cases a:OC x.s t with
   |true=>rw[a] at h;have b:x=e:=OE h;subst b;exact⟨OA,Om a⟩
   |false=>rw[a] at h;have:=fL (E:=r) h;exact⟨Ou _ this.1,this.2⟩
theorem oI {a b:Nat×Bool}(h:JV a b=true):a=b:=by
 unfold JV at h;simp only[Oj,beq_iff_eq] at h;exact Prod.ext (Om h.1) h.2
section
variable {P:Program}{N:Nat}{D:List Deferred}{L:List Nat}
theorem gH {E:List bJ}{gs:List (Nat×Bool)}{a:Act}{x:Operand}{v:Value}(hH:Holds N D E a)(i:∀p∈gs,a.tmps[p.1]?=some (.bool p.2))(h:Da E gs x=some v):a.eval x=v:=by
 cases x with
 |tmp t=>
   simp only[Da] at h;split at h
   ·rename_i e he;obtain⟨h1,j⟩:=fL he;cases d:Mu gs e.g with
    |false=>rw[d] at h;cases h
    |true=>
      rw[d] at h;have k:e.v=v:=OE h;have b:=hH.all e h1;have:a.tmps[e.s]?=some e.v:=by
       unfold ft at b;cases c:e.g with
       |none=>rw[c] at b;exact b
       |some p=>
         rw[c] at b d;obtain⟨q,l,heq⟩:=Qg.1 d;have:=oI heq;subst this;exact b.1 (i _ l)
      rw[j] at this;simp only[Act.eval,Array.getD_eq_getD_getElem?,this,k,Option.getD_some]
   ·cases h
 |const u=>exact OE h
 |global g=>exact OE h
 |func f=>exact OE h
theorem qf {E:List bJ}{gs:List (Nat×Bool)}{a:Act}{o:Oper}(hH:Holds N D E a)(d:∀p∈gs,a.tmps[p.1]?=some (.bool p.2))(h:tB E gs o.op=true)
  (hs:∀cs b,o.op≠.select cs b):execOp a.eval o=execOp (GR E gs) o:=by
 refine execOp_congr o hs λx e=>?_;have:=List.all_eq_true.1 h x (by simpa using e);obtain⟨v,c⟩:=Option.isSome_iff_exists.1 this;rw[gH hH d c];unfold GR;rw[c];rfl
theorem CK {E:List bJ}{gs:List (Nat×Bool)}(v:Value):GR E gs (.const v)=v:=rfl
theorem vP {a:Act}{d:Nat}{v:Value}(h:d<a.tmps.size):(a.put (some d) v).tmps[d]?=some v:=by
 simp[US,h]
theorem nT {a:Act}{d t:Nat}{v:Value}(h:d≠t):(a.put (some d) v).tmps[t]?=a.tmps[t]?:=by
 simp[US,Pw h]
theorem Ew {a:Act}{dst:Option Nat}{v:Value}:(a.put dst v).tmps.size=a.tmps.size:=by
 cases dst<;>simp[US]
theorem put_defers {a:Act}{dst:Option Nat}{v:Value}:(a.put dst v).defers=a.defers:=by
 cases dst<;>simp[US]
theorem eV {E:List bJ}{dst:Option Nat}{v:Value}{g:Option (Nat×Bool)}{K:List bJ->Prop}{a:Act}(hH:Holds N D E a)(h:tS N E dst v g K)
  {u:Value} (hu:∀s b,g=some (s,b)->a.tmps[s]?=some (.bool b)->u=v) (m:g=none->u=v) (hu2:∀s b,g=some (s,b)->a.tmps[s]?≠some (.bool b)->u=undef:=by intro _ _ e;cases e):∃o,Holds N D o (a.put dst u)/\K o:=by
 unfold tS at h;cases dst with
 |none=>exact⟨E,hH,h⟩
 |some d=>
   simp only at h;cases j:(Nat.blt d N&&FP d g) with
   |false=>rw[j] at h;exact h.elim
   |true=>
     rw[j] at h;simp only[Oj] at j;have hd:d<a.tmps.size:=by rw[hH.size];exact Nat.le_of_ble_eq_true j.1
     refine⟨_,⟨Ew.trans hH.size,put_defers.trans hH.defers,?_⟩,h⟩;intro e he;rcases Oq.1 he with he|he
     ·subst he;unfold ft;cases g with
      |none=>exact(vP hd).trans (by rw[m rfl])
      |some p=>
        obtain⟨s,b⟩:=p;have k:s≠d:=by
         intro e;subst e;have:=j.2;simp[FP] at this
        refine⟨λhs=>?_,λhs=>?_⟩
        ·rw[nT (Ne.symm k)] at hs;exact(vP hd).trans (by rw[hu s b rfl hs])
        ·rw[nT (Ne.symm k)] at hs;exact(vP hd).trans (by rw[hu2 s b rfl hs])
     ·obtain⟨h1,l⟩:=OK.1 he;have c:=hH.all e h1;unfold Km at l;simp only[Oj,PC] at l;have i:d≠e.s:=by
       intro n;have:=l.1;rw[<-n] at this;simp at this
      unfold ft at c ⊢;cases q:e.g with
      |none=>rw[q] at c;exact(nT i).trans c
      |some p=>
        obtain⟨s,b⟩:=p;rw[q] at c l;have f:d≠s:=by
         intro n;have:=l.2;rw[<-n] at this;simp at this
        refine⟨λhs=>?_,λhs=>?_⟩
        ·rw[nT f] at hs;exact(nT i).trans (c.1 hs)
        ·rw[nT f] at hs;exact(nT i).trans (c.2 hs)
theorem tD {s:Nat}{b:Bool}{a:Act}(hs:a.tmps[s]?=some (.bool b)):∀{E:List bJ},(∀e∈E,ft a e)->∀e∈qK s b E,ft a e
 |[],_,e,he=>by simp[qK] at he
 |x::r,h,e,he=>by
   have f:=tD hs (E:=r) (λe he=>h e (Ou _ he));have d:=h x OA;unfold qK at he;cases j:OC x.s s with
   |true=>
     rw[j] at he;rcases Oq.1 he with he|he
     ·subst he;exact hs
     ·exact f e he
   |false=>
     rw[j] at he;simp only[cond_false] at he;unfold ft at d;cases i:x.g with
     |none=>
       rw[i] at he d;rcases Oq.1 he with he|he
       ·subst he;unfold ft;rw[i];exact d
       ·exact f e he
     |some p=>
       rw[i] at he d;simp only at he;cases c:JV p (s,b) with
       |true=>
         rw[c] at he;have:=oI c;subst this;rcases Oq.1 he with he|he
         ·subst he;exact d.1 hs
         ·exact f e he
       |false=>
         rw[c] at he;simp only[cond_false] at he;cases g:OC p.1 s with
         |true=>rw[g] at he;exact f e he
         |false=>
           rw[g] at he;rcases Oq.1 he with he|he
           ·subst he;unfold ft;rw[i];exact d
           ·exact f e he
theorem Holds.qK {E:List bJ}{a:Act}{s:Nat}{b:Bool}(hH:Holds N D E a)(hs:a.tmps[s]?=some (.bool b)):Holds N D (qK s b E) a:=
 ⟨hH.size,hH.defers,tD hs hH.all⟩
def k9 (s:Nat)(b:Bool)(E:List bJ):List bJ:=qK s b E++[⟨s,.bool b,some (s,b)⟩]
theorem Holds.k9 {E:List bJ}{a:Act}{s:Nat}{b:Bool}(hH:Holds N D E a)(hs:a.tmps[s]?=some (.bool b)):Holds N D (k9 s b E) a:=
 ⟨hH.size,hH.defers,λe he=>by
  rcases Oe.1 he with h|h
  ·exact(hH.qK hs).all e h
  ·rw[Ow.1 h];exact⟨λh=>h,λh=>absurd hs h⟩⟩
def oo (s:Nat)(b:Bool):List bJ->List bJ
 |[]=>[]
 |e::r=>bif OC e.s s then ⟨s,.bool b,none⟩::oo s b r else (match e.g with
   |none=>e::oo s b r
   |some p=>bif JV p (s,b) then ⟨e.s,e.v,none⟩::oo s b r else bif OC p.1 s then ⟨e.s,undef,none⟩::oo s b r else e::oo s b r)
theorem qx {s:Nat}{b:Bool}{a:Act}(hs:a.tmps[s]?=some (.bool b)):∀{E:List bJ},(∀e∈E,ft a e)->∀e∈oo s b E,ft a e
 |[],_,e,he=>by simp[oo] at he
 |x::r,h,e,he=>by
   have g:=qx hs (E:=r) (λe he=>h e (Ou _ he));have d:=h x OA;unfold oo at he;cases j:OC x.s s with
   |true=>
     rw[j] at he;rcases Oq.1 he with he|he
     ·subst he;exact hs
     ·exact g e he
   |false=>
     rw[j] at he;simp only[cond_false] at he;unfold ft at d;cases i:x.g with
     |none=>
       rw[i] at he d;rcases Oq.1 he with he|he
       ·subst he;unfold ft;rw[i];exact d
       ·exact g e he
     |some p=>
       rw[i] at he d;simp only at he;cases c:JV p (s,b) with
       |true=>
         rw[c] at he;have:=oI c;subst this;rcases Oq.1 he with he|he
         ·subst he;exact d.1 hs
         ·exact g e he
       |false=>
         rw[c] at he;simp only[cond_false] at he;cases f:OC p.1 s with
         |true=>
           rw[f] at he;have k:=Om f;obtain⟨p1,p2⟩:=p;simp only at k d;subst k;rcases Oq.1 he with he|he
           ·subst he;refine d.2 λq=>?_;rw[hs] at q;have l:b=p2:=by injection q with q;injection q
            subst l;unfold JV at c;simp at c
           ·exact g e he
         |false=>
           rw[f] at he;rcases Oq.1 he with he|he
           ·subst he;unfold ft;rw[i];exact d
           ·exact g e he
def wq (s:Nat)(b:Bool)(E:List bJ):List bJ:=oo s b E++[⟨s,.bool b,some (s,b)⟩]
theorem Holds.wq {E:List bJ}{a:Act}{s:Nat}{b:Bool}(hH:Holds N D E a)(hs:a.tmps[s]?=some (.bool b)):Holds N D (wq s b E) a:=
 ⟨hH.size,hH.defers,λe he=>by
  rcases Oe.1 he with h|h
  ·exact qx hs hH.all e h
  ·rw[Ow.1 h];exact⟨λh=>h,λh=>absurd hs h⟩⟩
def isLit (E:List bJ)(s:Nat):Bool:=E.any λe=>OC e.s s&&(match e.g with|some p=>OC p.1 s|none=>false)
def wg (gs:List (Nat×Bool))(c:Operand)(b:Bool):List (Nat×Bool):=match c with|.tmp t=>(t,b)::gs|_=>gs
def MP (M:Option (aa->Prop))(H:aa)(A:Prop):Prop:=match M with|none=>A|some G=>G H/\A
def o0:Op->Bool
 |.select ..=>true
 |_=>false
def lg (P:Program)(E:List bJ)(gs:List (Nat×Bool))(o:Oper):Option Value:=
 match o.op with
 |.pick c a b=>(match Da E gs c,Da E (wg gs c true) a,Da E (wg gs c false) b with
   |some (.bool t),some d,some e=>some (qu t a b d e)
   |_,_,_=>none)
 |op=>bif A9 P op&&(tB E gs op&&!(o0 op)) then evalOp P o (GR E gs) else none
def w9 (P:Program)(L:List Nat)(E:List bJ)(gs:List (Nat×Bool))(o:Oper)(M:Option (aa->Prop))(H:aa)(K:Value->aa->Prop):Prop:=
 match lg P E gs o with
 |some v=>K v H
 |none=>bif tB E gs o.op&&!(o0 o.op) then
   (match iW P o.op with
    |0=>vu P o.op (GR E gs) λv=>K v H
    |1=>qY P o.op o.type (GR E gs) (bif Ls L o then none else M) H λv=>K v H
    |_=>AI P o.op o.type (GR E gs) H λv H'=>MP M H' (K v H'))
   else False
theorem kf {E:List bJ}{gs:List (Nat×Bool)}{o:Oper}{a:Act}{v:Value}(hH:Holds N D E a)(k:∀p∈gs,a.tmps[p.1]?=some (.bool p.2))
  (h:lg P E gs o=some v) (w':World):(execOp a.eval o).run P w'=.ok (.value v) w':=by
 unfold lg at h;split at h
 ·rename_i c x y u;split at h
  ·rename_i t l m g z A;have w:qu t x y l m=v:=OE h;subst w;have B:=gH hH k g;have key:qu t x y l m=if t then a.eval x else a.eval y:=by
    have n:∀b,t=b->∀p∈wg gs c b,a.tmps[p.1]?=some (.bool p.2):=by
     intro b i p j;cases c with
     |tmp s=>
       simp only[wg] at j;rcases Oq.1 j with j|j
       ·subst j;simp only[Da] at g;split at g
        ·rename_i e he;obtain⟨h1,C⟩:=fL he;cases f:Mu gs e.g with
         |false=>rw[f] at g;cases g
         |true=>
           rw[f] at g;have w:e.v=.bool t:=OE g;have d:=hH.all e h1;have:a.tmps[e.s]?=some e.v:=by
            unfold ft at d;cases r:e.g with
            |none=>rw[r] at d;exact d
            |some p=>
              rw[r] at d f;obtain⟨q,F,heq⟩:=Qg.1 f;have:=oI heq;subst this;exact d.1 (k _ F)
           rw[C,w,i] at this;exact this
        ·cases g
       ·exact k p j
     |_=>exact k p j
    -- the constant's own case
    have G:∀v,x=.const v->l=v:=λv e=>by subst e;exact(OE z).symm
    have H:∀v,y=.const v->m=v:=λv e=>by subst e;exact(OE A).symm
    have I:qu t x y l m=if t then l else m:=by
     unfold qu;split
     ·rename_i p q;split
      ·have:=H _ rfl;have e2:q=false:=by simpa using this
       subst e2;cases t<;>simp
      ·split
       ·have:=G _ rfl;have e2:p=true:=by simpa using this
        subst e2;cases t<;>simp
       ·cases t<;>simp
     ·cases t<;>simp
    rw[I];cases t with
    |true=>simp only[if_true];rw[gH hH (n true rfl) z]
    |false=>simp only[Bool.false_eq_true,if_false];rw[gH hH (n false rfl) A]
   simp only[execOp,u,B,asBool,Sem.run_bind,Sem.run_pure,Result.andThen_ok,key]
  ·cases h
 ·cases i:(A9 P o.op&&(tB E gs o.op&&!(o0 o.op))) with
  |false=>rw[i] at h;cases h
  |true=>
    rw[i] at h;simp only[Oj,PC] at i;have hs:∀cs b,o.op≠.select cs b:=λcs b e=>by rw[e] at i;cases i.2.2
    rw[qf hH k i.2.1 hs];exact zN h w'
theorem ky {c:Nat}{M:Option (aa->Prop)}{r:World->Result Next}{v:Value}{R:Value->World->Prop}{w:World}(d:iS M w.heap)(a:∀w',r w'=.ok (.value v) w')(b:R v w):fJ P M c r R w:=by
 match c with
 |0=>exact⟨v,a,b⟩
 |1=>exact⟨v,λw' _=>a w',b⟩
 |_+2=>show pd P (r w) _;rw[a w];exact⟨d,b⟩
theorem sZ {L:List Nat}{o:Oper}{c:Nat}(h:iW P o.op=c)(a:c≠1):dy P L o=c:=by
 unfold dy;have:OC (iW P o.op) 1=false:=by
  cases b:OC (iW P o.op) 1 with
  |false=>rfl
  |true=>exact absurd (h.symm.trans (Om b)) a
 rw[this];exact h
theorem CJ {L:List Nat}{o:Oper}(h:iW P o.op=1)(hl:Ls L o=true):dy P L o=2:=by
 unfold dy;rw[h,hl];rfl
theorem AA {L:List Nat}{o:Oper}(h:iW P o.op=1)(hl:Ls L o=false):dy P L o=1:=by
 unfold dy;rw[h,hl];rfl
theorem xq (m:lQ P){E:List bJ}{gs:List (Nat×Bool)}{o:Oper}{M:Option (aa->Prop)}{a:Act}{w:World}{K:Value->aa->Prop}{R:Value->World->Prop}
  (hH:Holds N D E a) (s:∀p∈gs,a.tmps[p.1]?=some (.bool p.2)) (d:iS M w.heap) (f:∀v w',Alike w w'->iS M w'.heap->K v w'.heap->R v w')
  (h:w9 P L E gs o M w.heap K):fJ P M (dy P L o) (λw=>(execOp a.eval o).run P w) R w:=by
 unfold w9 at h;split at h
 ·rename_i v u;exact ky d (kf hH s u) (f v w (.refl w) d h)
 ·cases g:(tB E gs o.op&&!(o0 o.op)) with
  |false=>rw[g] at h;exact h.elim
  |true=>
    rw[g] at h;simp only[Oj,PC] at g;have hs:∀cs b,o.op≠.select cs b:=λcs b e=>by rw[e] at g;cases g.2
    have he:=qf hH s g.1 hs;simp only[cond_true] at h;rw[he];split at h
    ·rename_i l;rw[sZ l (by decide)];obtain⟨v,h1,i⟩:=tO (o:=o) (CK) h;exact⟨v,h1,f v w (.refl w) d i⟩
    ·rename_i l;cases hl:Ls L o with
     |true=>
       rw[hl] at h;simp only[cond_true] at h;obtain⟨v,h1,i⟩:=ju (o:=o) h;rw[CJ l hl];have n:=h1 w rfl;show pd P ((execOp (GR E gs) o).run P w) _;rw[n];exact⟨d,f v w (.refl w) d i⟩
     |false=>
       rw[hl] at h;simp only[cond_false] at h;obtain⟨v,h1,i⟩:=ju (o:=o) h;rw[AA l hl];exact⟨v,λw' q=>h1 w' q,f v w (.refl w) d i⟩
    ·rename_i c x n1;have n:pd P ((execOp (GR E gs) o).run P w) (λv w'=>iS M w'.heap/\R v w'):=by
      refine wa m (M:=M) (K:=λv H'=>MP M H' (K v H')) ?_ h;intro v w' t hk;cases M with
      |none=>exact⟨trivial,f v w' t trivial hk⟩
      |some G=>exact⟨hk.1,f v w' t hk.1 hk.2⟩
     have j:iW P o.op≠1:=λe=>n1 e;have r:iW P o.op≠0:=λe=>x e;have k:dy P L o=iW P o.op:=sZ rfl j;rw[k];generalize iW P o.op=c at*
     match c with
     |0=>exact absurd rfl r
     |1=>exact absurd rfl j
     |_+2=>exact n
def wI (ops:Array Oper)(j:Nat):Option Nat:=match ops[j]? with|some o=>o.dst|none=>none
theorem qi {ops:Array Oper}{o:Oper}{a:Act}{j s:Nat}{want:Bool}(d:o.guard=some (j,want))(hs:wI ops j=some s):
  (PR o (yielded ops a.tmps)=true↔a.tmps[s]?=some (.bool want)):=by
 have e:(ops[j]?).bind (·.dst)=some s:=by
  unfold wI at hs;split at hs
  ·rename_i g f;rw[f];exact hs
  ·cases hs
 simp only[PR,d,yielded,e,Option.bind_some];constructor
 ·intro h;split at h
  ·rename_i b c;rw[c];simpa using h
  ·simp at h
 ·intro h;rw[h];simp
def iX (P:Program)(N:Nat)(L:List Nat)(M:Option (aa->Prop))(o:Oper)(E:List bJ)(H:aa)(s:Nat)(want b:Bool)(K:List bJ->aa->Prop):Prop:=
 bif b==want then w9 P L (k9 s b E) [] o M H λv H'=>tS N (k9 s b E) o.dst v none λa=>K a H'
 else tS N (k9 s b E) o.dst undef none λa=>K a H
def zm (E:List bJ)(s:Nat):Bool:=match find E s with|some ⟨_,.tuple _,none⟩=>true|_=>false
def AT (ops:Array Oper)(o:Oper):Bool:=match o.op with
 |.extract (.tmp t) _=>ops.toList.any λp=>(match p.op with|.entry _=>(match p.dst with|some d=>OC d t|none=>false)|_=>false)
 |_=>false
def Mo (P:Program)(N:Nat)(L:List Nat)(ops:Array Oper)(M:Option (aa->Prop))(o:Oper)(E:List bJ)(H:aa)(K:List bJ->aa->Prop):Prop:=
 match o.guard with
 |none=>bif AT ops o then (match lg P E [] o with
   |some v=>HM (kE P o.type) v λy=>tS N E o.dst ((kE P o.type).enc y) none λa=>K a H
   |none=>False)
   else w9 P L E [] o M H λv H'=>tS N E o.dst v none λa=>K a H'
 |some (j,want)=>(match wI ops j with
   |none=>False
   |some s=>bif zm E s then tS N E o.dst undef none λa=>K a H else bif isLit E s then (match find E s with
     |some ⟨_,.bool b,none⟩=>br b (iX P N L M o E H s want true K) (iX P N L M o E H s want false K)
     |_=>False) else (match lg P E [(s,want)] o with
     |some v=>tS N E o.dst v (some (s,want)) λa=>K a H
     |none=>(match find E s with
       |some ⟨_,.bool b,none⟩=>br b (iX P N L M o E H s want true K) (iX P N L M o E H s want false K)
       |some ⟨_,.bool b,some (s2,c)⟩=>(match find E s2 with
         |some ⟨_,.bool d,none⟩=>
           br (d==c) (br b (iX P N L M o (k9 s2 c E) H s want true K) (iX P N L M o (k9 s2 c E) H s want false K)) (tS N (wq s2 (!c) E) o.dst undef none λa=>K a H)
         |_=>False)
       |_=>False)))
theorem C5 (C:lQ P){ops:Array Oper}{M:Option (aa->Prop)}{o:Oper}{E:List bJ}{a:Act}{w:World}{K:List bJ->aa->Prop}{K':Act->World->Prop}
  (hH:Holds N D E a) (m:iS M w.heap)
  (r:∀f u w',Holds N D f (a.put o.dst u)->Alike w w'->iS M w'.heap->K f w'.heap->K' (a.put o.dst u) w')
  (h:Mo P N L ops M o E w.heap K):fC P M L ops o K' a w:=by
 have plain:∀{E:List bJ},Holds N D E a->w9 P L E [] o M w.heap (λv H'=>tS N E o.dst v none λf=>K f H')->
   fJ P M (dy P L o) (λw=>(execOp a.eval o).run P w) (λv w'=>K' (a.put o.dst v) w') w:=by
  intro E hH h;refine xq C hH (by simp) m (λv w' O i hk=>?_) h;obtain⟨f,h1,c⟩:=eV hH hk (u:=v) (λ_ _ _ _=>rfl) (λ_=>rfl);exact r f v w' h1 O i c
 have known:∀{E:List bJ} {s:Nat} {want b:Bool} {j:Nat},o.guard=some (j,want)->wI ops j=some s->Holds N D E a->a.tmps[s]?=some (.bool b)->iX P N L M o E w.heap s want b K->fC P M L ops o K' a w:=by
  intro E s want b j i hs hH d h;have hw:=qi (a:=a) i hs;unfold iX at h;unfold fC;by_cases e:b=want
  ·subst e;simp only[beq_self_eq_true,cond_true] at h;rw[if_pos (hw.2 d)];exact plain (hH.k9 d) h
  ·have F:(b==want)=false:=by simpa using e
   rw[F] at h;simp only[cond_false] at h;rw[if_neg (λn=>by
    have:=hw.1 n;rw[d] at this;simp at this;exact e this)]
   obtain⟨f,h1,c⟩:=eV (hH.k9 d) h (u:=undef) (λ_ _ _ _=>rfl) (λ_=>rfl);exact r f undef w h1 (.refl w) m c
 unfold Mo at h;split at h
 ·rename_i i;unfold fC;rw[if_pos (by simp[PR,i])];cases x:AT ops o with
  |false=>rw[x] at h;exact plain hH h
  |true=>
    rw[x] at h;simp only[cond_true] at h;split at h
    ·rename_i v d;obtain⟨y,rfl,Q⟩:=h;obtain⟨f,h1,c⟩:=eV hH Q (u:=(kE P o.type).enc y) (λ_ _ _ _=>rfl) (λ_=>rfl);exact ky m (kf hH (by simp) d) (r f _ w h1 (.refl w) m c)
    ·exact h.elim
 ·rename_i j want i;split at h
  ·exact h.elim
  ·rename_i s hs;have hw:=qi (a:=a) i hs;cases k:zm E s with
   |true=>
     rw[k] at h;simp only[cond_true] at h;have d:∃vs,a.tmps[s]?=some (.tuple vs):=by
      unfold zm at k;split at k
      ·rename_i s' vs t;obtain⟨h1,c⟩:=fL t;have:=hH.all _ h1;simp only at c;subst c;exact⟨vs,this⟩
      ·cases k
     obtain⟨vs,d⟩:=d;unfold fC;rw[if_neg (λn=>by have:=hw.1 n;rw[d] at this;simp at this)];obtain⟨f,h1,c⟩:=eV hH h (u:=undef) (λ_ _ _ _=>rfl) (λ_=>rfl);exact r f undef w h1 (.refl w) m c
   |false=>
   rw[k] at h;simp only[cond_false] at h;cases z:isLit E s with
   |true=>
     rw[z] at h;simp only[cond_true] at h;split at h
     ·rename_i s' b t;obtain⟨h1,c⟩:=fL t;have d:a.tmps[s]?=some (.bool b):=by have:=hH.all _ h1;simp only at c;subst c;exact this
      cases b with
      |true=>exact known i hs hH d h
      |false=>exact known i hs hH d h
     ·exact h.elim
   |false=>
   rw[z] at h;simp only[cond_false] at h;split at h
   ·rename_i v d;unfold fC;split
    ·rename_i g;have hsl:=hw.1 g;obtain⟨f,h1,c⟩:=eV hH h (u:=v) (λ_ _ _ _=>rfl) (λ_=>rfl) (hu2:=λs' R e n=>by obtain⟨rfl,rfl⟩:=(VT (OE e));exact absurd hsl n);exact ky m (kf hH (by intro p S;rw[Ow.1 S];exact hsl) d) (r f v w h1 (.refl w) m c)
    ·rename_i g;obtain⟨f,h1,c⟩:=eV hH h (u:=undef) (λs' R e n=>by obtain⟨rfl,rfl⟩:=(VT (OE e));exact absurd (hw.2 n) g) (λe=>by cases e) (hu2:=λ_ _ _ _=>rfl);exact r f undef w h1 (.refl w) m c
   ·split at h
    ·rename_i s' b t;obtain⟨h1,c⟩:=fL t;have d:a.tmps[s]?=some (.bool b):=by have:=hH.all _ h1;simp only at c;subst c;exact this
     cases b with
     |true=>exact known i hs hH d h
     |false=>exact known i hs hH d h
    ·rename_i s' b s2 G t;split at h
     ·rename_i Y A H;obtain⟨h1,c⟩:=fL t;obtain⟨T,J⟩:=fL H;have l:a.tmps[s2]?=some (.bool A):=by have:=hH.all _ T;simp only at J;subst J;exact this
      obtain⟨U,V⟩:=EX.1 h;by_cases e:A=G
      ·subst e;have B:=U (by simp);have d:a.tmps[s]?=some (.bool b):=by
        have:=hH.all _ h1;simp only at c;subst c;exact this.1 l
       cases b with
       |true=>exact known i hs (hH.k9 l) d B
       |false=>exact known i hs (hH.k9 l) d B
      ·have B:=V (by simpa using e);have e2:A=!G:=by cases A<;>cases G<;>simp_all
       have hu:a.tmps[s]?=some undef:=by
        have:=hH.all _ h1;simp only at c;subst c;exact this.2 (by rw[l];intro q;injection q with q;injection q with q;exact e q)
       have I:¬PR o (yielded ops a.tmps)=true:=λn=>by
        have:=hw.1 n;rw[hu] at this;unfold undef at this;cases this
       unfold fC;rw[if_neg I];obtain⟨f,W,X⟩:=eV (hH.wq (by rw[l,e2])) B (u:=undef) (λ_ _ _ _=>rfl) (λ_=>rfl);exact r f undef w W (.refl w) m X
     ·exact h.elim
    ·exact h.elim
def gL (P:Program)(N:Nat)(L:List Nat)(ops:Array Oper)(M:Option (aa->Prop)):List Oper->List bJ->aa->(List bJ->aa->Prop)->Prop
 |[],E,H,K=>K E H
 |o::l,E,H,K=>Mo P N L ops M o E H λa H'=>gL P N L ops M l a H' K
def zK (l:List Oper):List Nat:=l.filterMap (·.dst)
theorem cG (b:lQ P){ops:Array Oper}{M:Option (aa->Prop)}{K:List bJ->aa->Prop}{K':Act->World->Prop}{W:List Nat}{a0:Act}{w0:World}
  (k:∀c e w',Holds N D c e->gT W a0 e->Alike w0 w'->iS M w'.heap->K c w'.heap->K' e w'):
  ∀(l:List Oper),(∀o∈l,∀d,o.dst=some d->W.contains d=true)->∀(E:List bJ) (a:Act) (w:World),Holds N D E a->gT W a0 a->Alike w0 w->iS M w.heap->gL P N L ops M l E w.heap K->gm P M L ops K' l a w
 |[],_,E,a,w,hH,f,g,i,h=>k E a w hH f g i h
 |o::l,m,_,_,_,hH,f,g,i,h=>
   C5 b hH i (λc _ w' h1 n p q=>cG b k l (λr j=>m r (Ou _ j)) c _ w' h1
    (f.trans (gT.put (m o OA))) (g.trans n) p q) h
def Mm (P:Program)(N:Nat)(ops:Array Oper)(draw:Bool)(E:List bJ)(H:aa)(K:List bJ->aa->Prop):Prop:=
 bif draw then (bif dE P [] 0 ops then gL P N [] ops none ops.toList E H K
  else let L:=qj P ops
   let k:=vz P L ops
   bif dE P L k ops then (bif OC k 0 then gL P N L ops none ops.toList E H K else ∃G:aa->Prop,G H/\gL P N L ops (some G) (ops.toList.take k) E H λa H'=>gL P N L ops none (ops.toList.drop k) a H' K) else False)
 else gL P N [] ops none ops.toList E H K
theorem Cc (e:lQ P)(hm:P.follows .mixedOrders=true){rn:Option Nat}{id:Nat}{ops:Array Oper}{draw:Bool}{E:List bJ}{a:Act}{w:World}{K:List bJ->aa->Prop}{Q:Exit->Act->World->Prop}
  (hH:Holds N D E a) (r:∀c b w',Holds N D c b->gT (zK ops.toList) a b->Alike w w'->K c w'.heap->Q .normal b w')
  (h:Mm P N ops draw E w.heap K):(Sj id ops draw).wpIn (FW rn) 0 P Q a w:=by
 have n:∀o∈ops.toList,∀d,o.dst=some d->(zK ops.toList).contains d=true:=by
  intro o p d hd;rw[RO];exact UC.2 ⟨o,p,hd⟩
 unfold Mm at h;cases draw with
 |false=>
   exact ud (cG (M:=none) e (λc b w' f g j _ l=>r c b w' f g j l) ops.toList n E a w hH (.refl _ _) (.refl _) trivial h)
 |true=>
   simp only[cond_true] at h;have hd:Alike w {w with drawn:=w.drawn+1}:=.of_le rfl (OZ _);cases h1:dE P [] 0 ops with
   |true=>
     rw[h1] at h;refine iC (M:=none) (k:=0) hm (λi hi=>by omega) h1 trivial ?_;show gm P none [] ops _ (ops.toList.take 0) _ _;rw[Uz,TU];exact cG (M:=none) e (λc b w' f g j _ l=>r c b w' f g j l) ops.toList n E a _ hH (.refl _ _) hd trivial h
   |false=>
     rw[h1] at h;simp only[cond_false] at h;cases q:dE P (qj P ops) (vz P (qj P ops) ops) ops with
     |true=>
       rw[q] at h;simp only[cond_true] at h;cases m:OC (vz P (qj P ops) ops) 0 with
       |true=>
         rw[m] at h;have t:=Om m;rw[t] at q;refine iC (M:=none) (k:=0) hm (λi hi=>by omega) q trivial ?_;show gm P none (qj P ops) ops _ (ops.toList.take 0) _ _;rw[Uz,TU];exact cG (M:=none) e (λc b w' f g j _ l=>r c b w' f g j l) ops.toList n E a _ hH (.refl _ _) hd trivial h
       |false=>
       rw[m] at h;obtain⟨G,s,u⟩:=h;refine iC (M:=some G) hm (λ_ _=>rfl) q s (cG e (λc b w' f g j _ l=>?_) (ops.toList.take _) (λo p=>n o (Pm p)) E a _ hH (.refl _ _) hd s u);exact cG (M:=none) e (λc b w' f g j _ l=>r c b w' f g j l) (ops.toList.drop _) (λo p=>n o (QN p)) c b w' f g j trivial l
     |false=>
       rw[q] at h;simp only[cond_false] at h
def kT (ops:Array Oper)(l:List Nat):List Oper:=l.flatMap λi=>(ops.toList.drop i).take 1
def Lo (P:Program)(N:Nat)(L:List Nat)(ops:Array Oper)(M:Option (aa->Prop))(f c:Nat):List Nat->List bJ->aa->(List bJ->aa->Prop)->Prop
 |[],E,H,K=>gL P N L ops M (kT ops [f]) E H K
 |i::l,E,H,K=>bif Nat.ble c i then gL P N L ops M (kT ops (f::i::l)) E H K else
   bif gY P L ops f c i then gL P N L ops M (kT ops (f::i::l)) E H K/\gL P N L ops M (kT ops [i]) E H (λa H'=>Lo P N L ops M f c l a H' K)
   else gL P N L ops M (kT ops [i]) E H λa H'=>Lo P N L ops M f c l a H' K
def La (f c:Nat)(P:Program)(N:Nat)(ops:Array Oper)(E:List bJ)(H:aa)(K:List bJ->aa->Prop):Prop:=
 let L:=qj P ops
 bif tF P L ops f c (dr ops.toList []) then ∃G:aa->Prop,G H/\Lo P N L ops (some G) f c (jD ops.size f) E H K else False
theorem lr {M:Option (aa->Prop)}{L:List Nat}{ops:Array Oper}{K:Act->World->Prop}:∀(l:List Nat),(∀i∈l,i<ops.size)->eX P M ops.size L ops K l=gm P M L ops K (kT ops l)
 |[],_=>rfl
 |i::l,h=>by
   have hi:=h i OA;have b:=lr (M:=M) (L:=L) (K:=K) l λk hk=>h k (Ou _ hk);have e:(ops.toList.drop i).take 1=[ops[i]]:=by
    rw[List.drop_eq_getElem_cons (by simpa using hi)];simp
   have e2:kT ops (i::l)=ops[i]::kT ops l:=by
    unfold kT;rw[List.flatMap_cons,e];rfl
   have c:pa M ops.size i=M:=by unfold pa;rw[fU.2 hi];rfl
   rw[e2];funext a w;simp only[eX,gm,bS,Array.getElem?_eq_getElem hi,c,b]
theorem Dl (b:lQ P){L:List Nat}{ops:Array Oper}{M:Option (aa->Prop)}{f c:Nat}{K:List bJ->aa->Prop}{K':Act->World->Prop}{W:List Nat}{a0:Act}{w0:World}
  (t:∀g j w',Holds N D g j->gT W a0 j->Alike w0 w'->iS M w'.heap->K g w'.heap->K' j w') (u:f<ops.size) (y:∀o∈ops.toList,∀d,o.dst=some d->W.contains d=true):
  ∀(l:List Nat),(∀i∈l,i<ops.size)->∀(E:List bJ) (a:Act) (w:World),Holds N D E a->gT W a0 a->Alike w0 w->iS M w.heap->Lo P N L ops M f c l E w.heap K->jq P M L ops f c K' l a w:=by
 have e:∀l:List Nat,∀o∈kT ops l,∀d,o.dst=some d->W.contains d=true:=λl o v=>by
  unfold kT at v;obtain⟨i,_,hi⟩:=PI.1 v;exact y o (QN (Pm hi))
 intro l
 induction l with
 |nil=>
   intro _ E a w hH m n p h;unfold jq;rw[lr [f] λi hi=>by rw[Ow] at hi;subst hi;exact u];exact cG b t _ (e _) E a w hH m n p h
 |cons i l z=>
   intro hl E a w hH m n p h;have hi:=hl i OA;have r:=z λk hk=>hl k (Ou _ hk);have full:gL P N L ops M (kT ops (f::i::l)) E w.heap K->eX P M ops.size L ops K' (f::i::l) a w:=λs=>by
    rw[lr (f::i::l) λk hk=>by
     rcases Oq.1 hk with q|q
     ·subst q;exact u
     ·exact hl k q]
    exact cG b t _ (e _) E a w hH m n p s
   have one:gL P N L ops M (kT ops [i]) E w.heap (λg H'=>Lo P N L ops M f c l g H' K)->bS P M ops.size L ops i (jq P M L ops f c K' l) a w:=λs=>by
    have:=cG (K':=jq P M L ops f c K' l) b (λg j w' h1 A B C F=>r g j w' h1 A B C F) _ (e [i]) E a w hH m n p s;rw[<-lr [i] λk hk=>by rw[Ow] at hk;subst hk;exact hi] at this;exact this
   unfold Lo at h;unfold jq;cases x:Nat.ble c i with
   |true=>rw[x] at h;exact full h
   |false=>
     rw[x] at h;cases hs:gY P L ops f c i with
     |true=>rw[hs] at h;exact⟨full h.1,one h.2⟩
     |false=>rw[hs] at h;exact one h
theorem zq (j:lQ P)(hm:P.follows .mixedOrders=true){f c:Nat}{rn:Option Nat}{id:Nat}{ops:Array Oper}{E:List bJ}{a:Act}{w:World}{K:List bJ->aa->Prop}{Q:Exit->Act->World->Prop}
  (hH:Holds N D E a) (m:∀e b w',Holds N D e b->gT (zK ops.toList) a b->Alike w w'->K e w'.heap->Q .normal b w')
  (h:La f c P N ops E w.heap K):(Sj id ops true).wpIn (FW rn) 0 P Q a w:=by
 have n:∀o∈ops.toList,∀d,o.dst=some d->(zK ops.toList).contains d=true:=by
  intro o p d hd;rw[RO];exact UC.2 ⟨o,p,hd⟩
 have hd:Alike w {w with drawn:=w.drawn+1}:=.of_le rfl (OZ _);unfold La at h;simp only at h;cases g:tF P (qj P ops) ops f c (dr ops.toList []) with
 |false=>rw[g] at h;exact h.elim
 |true=>
   rw[g] at h;obtain⟨G,k,q⟩:=h;have l:=qv g;exact qN (M:=some G) hm rfl g k (Dl j (λe b w' r s t _ u=>m e b w' r s t u) (Nat.lt_trans l.fc l.cn) n _ (λi hi=>OM.1 (OK.1 hi).1) E a _ hH (.refl _ _) hd k q)
def Lp (P:Program)(N:Nat)(L:List Nat)(ops:Array Oper)(M:Option (aa->Prop))(K:List bJ->aa->Prop):Nat->List Nat->List bJ->aa->Prop
 |0,_,E,H=>K E H
 |n+1,l,E,H=>(match nr (CY P L ops (dr ops.toList []) l) l with
   |some j=>gL P N L ops M (kT ops [j]) E H λa H'=>Lp P N L ops M K n (fh l j) a H'
   |none=>vX (iM (dr ops.toList []) l) (λj=>gL P N L ops M (kT ops [j]) E H λa H'=>Lp P N L ops M K n (fh l j) a H') l)
def Kz (ex:List Nat)(P:Program)(N:Nat)(ops:Array Oper)(E:List bJ)(H:aa)(K:List bJ->aa->Prop):Prop:=
 bif LK ops then ∃G:aa->Prop,G H/\Lp P N (ex++qj P ops) ops (some G) K ops.size (List.range ops.size) E H else False
theorem Cx (e:lQ P){L:List Nat}{ops:Array Oper}{M:Option (aa->Prop)}{K:List bJ->aa->Prop}{K':Act->World->Prop}{W:List Nat}{a0:Act}{w0:World}
  (t:∀b c w',Holds N D b c->gT W a0 c->Alike w0 w'->iS M w'.heap->K b w'.heap->K' c w') (u:∀o∈ops.toList,∀d,o.dst=some d->W.contains d=true):
  ∀(n:Nat) (l:List Nat),(∀i∈l,i<ops.size)->∀(E:List bJ) (a:Act) (w:World),Holds N D E a->gT W a0 a->Alike w0 w->iS M w.heap->Lp P N L ops M K n l E w.heap->oS P M L ops K' n l a w:=by
 have f:∀l:List Nat,∀o∈kT ops l,∀d,o.dst=some d->W.contains d=true:=λl o s=>by
  unfold kT at s;obtain⟨i,_,hi⟩:=PI.1 s;exact u o (QN (Pm hi))
 intro n
 induction n with
 |zero=>
   intro l _ E a w hH g m p h;exact t E a w hH g m p h
 |succ n v=>
   intro l hl E a w hH g m p h;have one:∀j∈l,gL P N L ops M (kT ops [j]) E w.heap (λb H'=>Lp P N L ops M K n (fh l j) b H')->bS P M ops.size L ops j (oS P M L ops K' n (fh l j)) a w:=λj q x=>by
    have:=cG (K':=oS P M L ops K' n (fh l j)) e (λb c w' h1 y z A B=>v (fh l j) (λi hi=>hl i (fG.1 hi).1) b c w' h1 y z A B) _ (f [j]) E a w hH g m p x;rw[<-lr [j] λk hk=>by rw[Ow] at hk;subst hk;exact hl k q] at this;exact this
   unfold Lp at h;unfold oS;cases r:nr (CY P L ops (dr ops.toList []) l) l with
   |some j=>rw[r] at h;exact one j (kg r).1 h
   |none=>rw[r] at h;exact qc (λj q=>one j q) h
theorem AJ (e:lQ P)(hm:P.follows .mixedOrders=true){ex:List Nat}{rn:Option Nat}{id:Nat}{ops:Array Oper}{E:List bJ}{a:Act}{w:World}{K:List bJ->aa->Prop}{Q:Exit->Act->World->Prop}
  (hH:Holds N D E a) (j:∀c b w',Holds N D c b->gT (zK ops.toList) a b->Alike w w'->K c w'.heap->Q .normal b w')
  (h:Kz ex P N ops E w.heap K):(Sj id ops true).wpIn (FW rn) 0 P Q a w:=by
 have k:∀o∈ops.toList,∀d,o.dst=some d->(zK ops.toList).contains d=true:=by
  intro o l d hd;rw[RO];exact UC.2 ⟨o,l,hd⟩
 have hd:Alike w {w with drawn:=w.drawn+1}:=.of_le rfl (OZ _);unfold Kz at h;cases f:LK ops with
 |false=>rw[f] at h;exact h.elim
 |true=>
   rw[f] at h;obtain⟨G,g,m⟩:=h;exact oV (M:=some G) hm rfl f g (Cx e (λc b w' n p q _ r=>j c b w' n p q r) k _ _ (λi hi=>OM.1 hi) E a _ hH (.refl _ _) hd g m)
end
end Go.Proofs.YtmkbhnholcaghaaGreatDoor
