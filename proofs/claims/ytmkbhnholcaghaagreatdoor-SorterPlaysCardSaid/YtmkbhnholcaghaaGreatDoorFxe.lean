/-
 Ground, fifth text: what the walk of a whole function asks ('vcF'), and that it is enough ('spec_of_vc').
-/
import Derived.Test.YtmkbhnholcaghaaGreatDoorFxd
import Derived.Test.YtmkbhnholcaghaaGreatDoorFxv
open Array renaming getElem?_setIfInBounds_ne->Po
open Bool renaming and_eq_true->Ob,not_eq_true'->Pu
open Go.Act renaming put->UK
open Go.Code renaming region->Sb
open Go.Region renaming wanted->PI
open List renaming mem_append->N6,mem_cons->Of,mem_cons_of_mem->Oh,mem_singleton->Oj,mem_cons_self->Oq,mem_filter->OC,mem_range->OD,mem_of_mem_take->Pb,mem_flatMap->Pz,any_eq_true->P7,mem_of_mem_drop->QE,contains_iff_mem->RG,drop_zero->TM,take_zero->Ur,mem_filterMap->Uu
open Nat renaming eq_of_beq_eq_true->Od,beq->Ou,le_succ->OR
open Option.some renaming inj->Ow
open Prod.mk renaming inj->VL
namespace Go.Proofs.YtmkbhnholcaghaaGreatDoor
structure bJ where
 s:Nat
 v:Value
 g:Option (Nat×Bool)
def find:List bJ->Nat->Option bJ
 |[],_=>none
 |e::r,t=>bif Ou e.s t then some e else find r t
def JG (a b:Nat×Bool):Bool:=Ou a.1 b.1&&(a.2==b.2)
def Mn (gs:List (Nat×Bool)):Option (Nat×Bool)->Bool
 |none=>true
 |some p=>gs.any (JG p)
def C6 (E:List bJ)(gs:List (Nat×Bool)):Operand->Option Value
 |.tmp t=>(match find E t with|some e=>(bif Mn gs e.g then some e.v else none)|none=>none)
 |.const v=>some v
 |.global g=>some (.pointer (some ⟨g,0,none⟩))
 |.func f=>some (.func (.func f) #[] #[])
def GO (E:List bJ)(gs:List (Nat×Bool))(x:Operand):Value:=(C6 E gs x).getD undef
def tw (E:List bJ)(gs:List (Nat×Bool))(op:Op):Bool:=op.operands.toList.all λx=>(C6 E gs x).isSome
def fq (a:Act)(e:bJ):Prop:=
 match e.g with
 |none=>a.tmps[e.s]?=some e.v
 |some (s,b)=>(a.tmps[s]?=some (.bool b)->a.tmps[e.s]?=some e.v)/\(a.tmps[s]?≠some (.bool b)->a.tmps[e.s]?=some undef)
structure Holds (N:Nat)(D:List Deferred)(E:List bJ)(a:Act):Prop where
 size:a.tmps.size=N
 defers:a.defers=D
 all:∀e∈E,fq a e
def Ka (d:Nat)(e:bJ):Bool:=!(Ou e.s d)&&(match e.g with|some (s,_)=>!(Ou s d)|none=>true)
def FL (d:Nat)(g:Option (Nat×Bool)):Bool:=match g with|some p=>!(Ou p.1 d)|none=>true
def tQ (N:Nat)(E:List bJ)(dst:Option Nat)(v:Value)(g:Option (Nat×Bool))(K:List bJ->Prop):Prop:=
 match dst with
 |none=>K E
 |some d=>bif Nat.blt d N&&FL d g then K (⟨d,v,g⟩::E.filter (Ka d)) else False
def qH (s:Nat)(b:Bool):List bJ->List bJ
 |[]=>[]
 |e::r=>bif Ou e.s s then ⟨s,.bool b,none⟩::qH s b r else (match e.g with
   |none=>e::qH s b r
   |some p=>bif JG p (s,b) then ⟨e.s,e.v,none⟩::qH s b r else bif Ou p.1 s then qH s b r else e::qH s b r)
def gS (W:List Nat)(a b:Act):Prop:=∀t,W.contains t=false->b.tmps[t]?=a.tmps[t]?
theorem gS.refl (W:List Nat)(a:Act):gS W a a:=λ_ _=>rfl
theorem gS.trans {W:List Nat}{a b c:Act}(h:gS W a b)(k:gS W b c):gS W a c:=λt d=>(k t d).trans (h t d)
theorem gS.mono {W c:List Nat}{a b:Act}(h:gS W a b)(hs:∀t,c.contains t=false->W.contains t=false):gS c a b:=λt d=>h t (hs t d)
theorem gS.put {W:List Nat}{a:Act}{dst:Option Nat}{v:Value}(h:∀d,dst=some d->W.contains d=true):gS W a (a.put dst v):=by
 intro t c;cases dst with
 |none=>rfl
 |some d=>
   have b:d≠t:=by intro e;subst e;rw[h d rfl] at c;cases c
   simp[UK,Po b]
theorem fK:∀{E:List bJ} {t:Nat} {e:bJ},find E t=some e->e∈E/\e.s=t
 |[],_,_,h=>by cases h
 |x::r,t,e,h=>by
   unfold find at h;cases a:Ou x.s t with
   |true=>rw[a] at h;have b:x=e:=Ow h;subst b;exact⟨Oq,Od a⟩
   |false=>rw[a] at h;have:=fK (E:=r) h;exact⟨Oh _ this.1,this.2⟩
theorem oF {a b:Nat×Bool}(h:JG a b=true):a=b:=by
 unfold JG at h;simp only[Ob,beq_iff_eq] at h;exact Prod.ext (Od h.1) h.2
section
variable {P:Program}{N:Nat}{D:List Deferred}{L:List Nat}
theorem gF {E:List bJ}{gs:List (Nat×Bool)}{a:Act}{x:Operand}{v:Value}(hH:Holds N D E a)(i:∀p∈gs,a.tmps[p.1]?=some (.bool p.2))(h:C6 E gs x=some v):a.eval x=v:=by
 cases x with
 |tmp t=>
   simp only[C6] at h;split at h
   ·rename_i e he;obtain⟨h1,j⟩:=fK he;cases d:Mn gs e.g with
    |false=>rw[d] at h;cases h
    |true=>
      rw[d] at h;have k:e.v=v:=Ow h;have b:=hH.all e h1;have:a.tmps[e.s]?=some e.v:=by
       unfold fq at b;cases c:e.g with
       |none=>rw[c] at b;exact b
       |some p=>
         rw[c] at b d;obtain⟨q,l,heq⟩:=P7.1 d;have:=oF heq;subst this;exact b.1 (i _ l)
      rw[j] at this;simp only[Act.eval,Array.getD_eq_getD_getElem?,this,k,Option.getD_some]
   ·cases h
 |const u=>exact Ow h
 |global g=>exact Ow h
 |func f=>exact Ow h
theorem qd {E:List bJ}{gs:List (Nat×Bool)}{a:Act}{o:Oper}(hH:Holds N D E a)(d:∀p∈gs,a.tmps[p.1]?=some (.bool p.2))(h:tw E gs o.op=true)
  (hs:∀cs b,o.op≠.select cs b):execOp a.eval o=execOp (GO E gs) o:=by
 refine execOp_congr o hs λx e=>?_;have:=List.all_eq_true.1 h x (by simpa using e);obtain⟨v,c⟩:=Option.isSome_iff_exists.1 this;rw[gF hH d c];unfold GO;rw[c];rfl
theorem CG {E:List bJ}{gs:List (Nat×Bool)}(v:Value):GO E gs (.const v)=v:=rfl
theorem vM {a:Act}{d:Nat}{v:Value}(h:d<a.tmps.size):(a.put (some d) v).tmps[d]?=some v:=by
 simp[UK,h]
theorem nR {a:Act}{d t:Nat}{v:Value}(h:d≠t):(a.put (some d) v).tmps[t]?=a.tmps[t]?:=by
 simp[UK,Po h]
theorem Er {a:Act}{dst:Option Nat}{v:Value}:(a.put dst v).tmps.size=a.tmps.size:=by
 cases dst<;>simp[UK]
theorem put_defers {a:Act}{dst:Option Nat}{v:Value}:(a.put dst v).defers=a.defers:=by
 cases dst<;>simp[UK]
theorem eU {E:List bJ}{dst:Option Nat}{v:Value}{g:Option (Nat×Bool)}{K:List bJ->Prop}{a:Act}(hH:Holds N D E a)(h:tQ N E dst v g K)
  {u:Value} (hu:∀s b,g=some (s,b)->a.tmps[s]?=some (.bool b)->u=v) (m:g=none->u=v) (hu2:∀s b,g=some (s,b)->a.tmps[s]?≠some (.bool b)->u=undef:=by intro _ _ e;cases e):∃o,Holds N D o (a.put dst u)/\K o:=by
 unfold tQ at h;cases dst with
 |none=>exact⟨E,hH,h⟩
 |some d=>
   simp only at h;cases j:(Nat.blt d N&&FL d g) with
   |false=>rw[j] at h;exact h.elim
   |true=>
     rw[j] at h;simp only[Ob] at j;have hd:d<a.tmps.size:=by rw[hH.size];exact Nat.le_of_ble_eq_true j.1
     refine⟨_,⟨Er.trans hH.size,put_defers.trans hH.defers,?_⟩,h⟩;intro e he;rcases Of.1 he with he|he
     ·subst he;unfold fq;cases g with
      |none=>exact(vM hd).trans (by rw[m rfl])
      |some p=>
        obtain⟨s,b⟩:=p;have k:s≠d:=by
         intro e;subst e;have:=j.2;simp[FL] at this
        refine⟨λhs=>?_,λhs=>?_⟩
        ·rw[nR (Ne.symm k)] at hs;exact(vM hd).trans (by rw[hu s b rfl hs])
        ·rw[nR (Ne.symm k)] at hs;exact(vM hd).trans (by rw[hu2 s b rfl hs])
     ·obtain⟨h1,l⟩:=OC.1 he;have c:=hH.all e h1;unfold Ka at l;simp only[Ob,Pu] at l;have i:d≠e.s:=by
       intro n;have:=l.1;rw[<-n] at this;simp at this
      unfold fq at c ⊢;cases q:e.g with
      |none=>rw[q] at c;exact(nR i).trans c
      |some p=>
        obtain⟨s,b⟩:=p;rw[q] at c l;have f:d≠s:=by
         intro n;have:=l.2;rw[<-n] at this;simp at this
        refine⟨λhs=>?_,λhs=>?_⟩
        ·rw[nR f] at hs;exact(nR i).trans (c.1 hs)
        ·rw[nR f] at hs;exact(nR i).trans (c.2 hs)
theorem tB {s:Nat}{b:Bool}{a:Act}(hs:a.tmps[s]?=some (.bool b)):∀{E:List bJ},(∀e∈E,fq a e)->∀e∈qH s b E,fq a e
 |[],_,e,he=>by simp[qH] at he
 |x::r,h,e,he=>by
   have f:=tB hs (E:=r) (λe he=>h e (Oh _ he));have d:=h x Oq;unfold qH at he;cases j:Ou x.s s with
   |true=>
     rw[j] at he;rcases Of.1 he with he|he
     ·subst he;exact hs
     ·exact f e he
   |false=>
     rw[j] at he;simp only[cond_false] at he;unfold fq at d;cases i:x.g with
     |none=>
       rw[i] at he d;rcases Of.1 he with he|he
       ·subst he;unfold fq;rw[i];exact d
       ·exact f e he
     |some p=>
       rw[i] at he d;simp only at he;cases c:JG p (s,b) with
       |true=>
         rw[c] at he;have:=oF c;subst this;rcases Of.1 he with he|he
         ·subst he;exact d.1 hs
         ·exact f e he
       |false=>
         rw[c] at he;simp only[cond_false] at he;cases g:Ou p.1 s with
         |true=>rw[g] at he;exact f e he
         |false=>
           rw[g] at he;rcases Of.1 he with he|he
           ·subst he;unfold fq;rw[i];exact d
           ·exact f e he
theorem Holds.qH {E:List bJ}{a:Act}{s:Nat}{b:Bool}(hH:Holds N D E a)(hs:a.tmps[s]?=some (.bool b)):Holds N D (qH s b E) a:=
 ⟨hH.size,hH.defers,tB hs hH.all⟩
def kY (s:Nat)(b:Bool)(E:List bJ):List bJ:=qH s b E++[⟨s,.bool b,some (s,b)⟩]
theorem Holds.kY {E:List bJ}{a:Act}{s:Nat}{b:Bool}(hH:Holds N D E a)(hs:a.tmps[s]?=some (.bool b)):Holds N D (kY s b E) a:=
 ⟨hH.size,hH.defers,λe he=>by
  rcases N6.1 he with h|h
  ·exact(hH.qH hs).all e h
  ·rw[Oj.1 h];exact⟨λh=>h,λh=>absurd hs h⟩⟩
def oh (s:Nat)(b:Bool):List bJ->List bJ
 |[]=>[]
 |e::r=>bif Ou e.s s then ⟨s,.bool b,none⟩::oh s b r else (match e.g with
   |none=>e::oh s b r
   |some p=>bif JG p (s,b) then ⟨e.s,e.v,none⟩::oh s b r else bif Ou p.1 s then ⟨e.s,undef,none⟩::oh s b r else e::oh s b r)
theorem qu {s:Nat}{b:Bool}{a:Act}(hs:a.tmps[s]?=some (.bool b)):∀{E:List bJ},(∀e∈E,fq a e)->∀e∈oh s b E,fq a e
 |[],_,e,he=>by simp[oh] at he
 |x::r,h,e,he=>by
   have g:=qu hs (E:=r) (λe he=>h e (Oh _ he));have d:=h x Oq;unfold oh at he;cases j:Ou x.s s with
   |true=>
     rw[j] at he;rcases Of.1 he with he|he
     ·subst he;exact hs
     ·exact g e he
   |false=>
     rw[j] at he;simp only[cond_false] at he;unfold fq at d;cases i:x.g with
     |none=>
       rw[i] at he d;rcases Of.1 he with he|he
       ·subst he;unfold fq;rw[i];exact d
       ·exact g e he
     |some p=>
       rw[i] at he d;simp only at he;cases c:JG p (s,b) with
       |true=>
         rw[c] at he;have:=oF c;subst this;rcases Of.1 he with he|he
         ·subst he;exact d.1 hs
         ·exact g e he
       |false=>
         rw[c] at he;simp only[cond_false] at he;cases f:Ou p.1 s with
         |true=>
           rw[f] at he;have k:=Od f;obtain⟨p1,p2⟩:=p;simp only at k d;subst k;rcases Of.1 he with he|he
           ·subst he;refine d.2 λq=>?_;rw[hs] at q;have l:b=p2:=by injection q with q;injection q
            subst l;unfold JG at c;simp at c
           ·exact g e he
         |false=>
           rw[f] at he;rcases Of.1 he with he|he
           ·subst he;unfold fq;rw[i];exact d
           ·exact g e he
def wk (s:Nat)(b:Bool)(E:List bJ):List bJ:=oh s b E++[⟨s,.bool b,some (s,b)⟩]
theorem Holds.wk {E:List bJ}{a:Act}{s:Nat}{b:Bool}(hH:Holds N D E a)(hs:a.tmps[s]?=some (.bool b)):Holds N D (wk s b E) a:=
 ⟨hH.size,hH.defers,λe he=>by
  rcases N6.1 he with h|h
  ·exact qu hs hH.all e h
  ·rw[Oj.1 h];exact⟨λh=>h,λh=>absurd hs h⟩⟩
def isLit (E:List bJ)(s:Nat):Bool:=E.any λe=>Ou e.s s&&(match e.g with|some p=>Ou p.1 s|none=>false)
def wb (gs:List (Nat×Bool))(c:Operand)(b:Bool):List (Nat×Bool):=match c with|.tmp t=>(t,b)::gs|_=>gs
def MI (M:Option (aa->Prop))(H:aa)(A:Prop):Prop:=match M with|none=>A|some G=>G H/\A
def oY:Op->Bool
 |.select ..=>true
 |_=>false
def k9 (P:Program)(E:List bJ)(gs:List (Nat×Bool))(o:Oper):Option Value:=
 match o.op with
 |.pick c a b=>(match C6 E gs c,C6 E (wb gs c true) a,C6 E (wb gs c false) b with
   |some (.bool t),some d,some e=>some (qp t a b d e)
   |_,_,_=>none)
 |op=>bif AU P op&&(tw E gs op&&!(oY op)) then evalOp P o (GO E gs) else none
def w5 (P:Program)(L:List Nat)(E:List bJ)(gs:List (Nat×Bool))(o:Oper)(M:Option (aa->Prop))(H:aa)(K:Value->aa->Prop):Prop:=
 match k9 P E gs o with
 |some v=>K v H
 |none=>bif tw E gs o.op&&!(oY o.op) then
   (match iU P o.op with
    |0=>vq P o.op (GO E gs) λv=>K v H
    |1=>qX P o.op o.type (GO E gs) (bif Ll L o then none else M) H λv=>K v H
    |_=>AE P o.op o.type (GO E gs) H λv H'=>MI M H' (K v H'))
   else False
theorem ka {E:List bJ}{gs:List (Nat×Bool)}{o:Oper}{a:Act}{v:Value}(hH:Holds N D E a)(k:∀p∈gs,a.tmps[p.1]?=some (.bool p.2))
  (h:k9 P E gs o=some v) (w':World):(execOp a.eval o).run P w'=.ok (.value v) w':=by
 unfold k9 at h;split at h
 ·rename_i c x y u;split at h
  ·rename_i t l m g z A;have w:qp t x y l m=v:=Ow h;subst w;have B:=gF hH k g;have key:qp t x y l m=if t then a.eval x else a.eval y:=by
    have n:∀b,t=b->∀p∈wb gs c b,a.tmps[p.1]?=some (.bool p.2):=by
     intro b i p j;cases c with
     |tmp s=>
       simp only[wb] at j;rcases Of.1 j with j|j
       ·subst j;simp only[C6] at g;split at g
        ·rename_i e he;obtain⟨h1,C⟩:=fK he;cases f:Mn gs e.g with
         |false=>rw[f] at g;cases g
         |true=>
           rw[f] at g;have w:e.v=.bool t:=Ow g;have d:=hH.all e h1;have:a.tmps[e.s]?=some e.v:=by
            unfold fq at d;cases r:e.g with
            |none=>rw[r] at d;exact d
            |some p=>
              rw[r] at d f;obtain⟨q,F,heq⟩:=P7.1 f;have:=oF heq;subst this;exact d.1 (k _ F)
           rw[C,w,i] at this;exact this
        ·cases g
       ·exact k p j
     |_=>exact k p j
    -- the constant's own case
    have G:∀v,x=.const v->l=v:=λv e=>by subst e;exact(Ow z).symm
    have H:∀v,y=.const v->m=v:=λv e=>by subst e;exact(Ow A).symm
    have I:qp t x y l m=if t then l else m:=by
     unfold qp;split
     ·rename_i p q;split
      ·have:=H _ rfl;have e2:q=false:=by simpa using this
       subst e2;cases t<;>simp
      ·split
       ·have:=G _ rfl;have e2:p=true:=by simpa using this
        subst e2;cases t<;>simp
       ·cases t<;>simp
     ·cases t<;>simp
    rw[I];cases t with
    |true=>simp only[if_true];rw[gF hH (n true rfl) z]
    |false=>simp only[Bool.false_eq_true,if_false];rw[gF hH (n false rfl) A]
   simp only[execOp,u,B,asBool,Sem.run_bind,Sem.run_pure,Result.andThen_ok,key]
  ·cases h
 ·cases i:(AU P o.op&&(tw E gs o.op&&!(oY o.op))) with
  |false=>rw[i] at h;cases h
  |true=>
    rw[i] at h;simp only[Ob,Pu] at i;have hs:∀cs b,o.op≠.select cs b:=λcs b e=>by rw[e] at i;cases i.2.2
    rw[qd hH k i.2.1 hs];exact zL h w'
theorem ku {c:Nat}{M:Option (aa->Prop)}{r:World->Result Next}{v:Value}{R:Value->World->Prop}{w:World}(d:iQ M w.heap)(a:∀w',r w'=.ok (.value v) w')(b:R v w):fI P M c r R w:=by
 match c with
 |0=>exact⟨v,a,b⟩
 |1=>exact⟨v,λw' _=>a w',b⟩
 |_+2=>show pa P (r w) _;rw[a w];exact⟨d,b⟩
theorem sX {L:List Nat}{o:Oper}{c:Nat}(h:iU P o.op=c)(a:c≠1):dx P L o=c:=by
 unfold dx;have:Ou (iU P o.op) 1=false:=by
  cases b:Ou (iU P o.op) 1 with
  |false=>rfl
  |true=>exact absurd (h.symm.trans (Od b)) a
 rw[this];exact h
theorem CF {L:List Nat}{o:Oper}(h:iU P o.op=1)(hl:Ll L o=true):dx P L o=2:=by
 unfold dx;rw[h,hl];rfl
theorem Aw {L:List Nat}{o:Oper}(h:iU P o.op=1)(hl:Ll L o=false):dx P L o=1:=by
 unfold dx;rw[h,hl];rfl
theorem xj (m:lO P){E:List bJ}{gs:List (Nat×Bool)}{o:Oper}{M:Option (aa->Prop)}{a:Act}{w:World}{K:Value->aa->Prop}{R:Value->World->Prop}
  (hH:Holds N D E a) (s:∀p∈gs,a.tmps[p.1]?=some (.bool p.2)) (d:iQ M w.heap) (f:∀v w',Alike w w'->iQ M w'.heap->K v w'.heap->R v w')
  (h:w5 P L E gs o M w.heap K):fI P M (dx P L o) (λw=>(execOp a.eval o).run P w) R w:=by
 unfold w5 at h;split at h
 ·rename_i v u;exact ku d (ka hH s u) (f v w (.refl w) d h)
 ·cases g:(tw E gs o.op&&!(oY o.op)) with
  |false=>rw[g] at h;exact h.elim
  |true=>
    rw[g] at h;simp only[Ob,Pu] at g;have hs:∀cs b,o.op≠.select cs b:=λcs b e=>by rw[e] at g;cases g.2
    have he:=qd hH s g.1 hs;simp only[cond_true] at h;rw[he];split at h
    ·rename_i l;rw[sX l (by decide)];obtain⟨v,h1,i⟩:=tM (o:=o) (CG) h;exact⟨v,h1,f v w (.refl w) d i⟩
    ·rename_i l;cases hl:Ll L o with
     |true=>
       rw[hl] at h;simp only[cond_true] at h;obtain⟨v,h1,i⟩:=jr (o:=o) h;rw[CF l hl];have n:=h1 w rfl;show pa P ((execOp (GO E gs) o).run P w) _;rw[n];exact⟨d,f v w (.refl w) d i⟩
     |false=>
       rw[hl] at h;simp only[cond_false] at h;obtain⟨v,h1,i⟩:=jr (o:=o) h;rw[Aw l hl];exact⟨v,λw' q=>h1 w' q,f v w (.refl w) d i⟩
    ·rename_i c x n1;have n:pa P ((execOp (GO E gs) o).run P w) (λv w'=>iQ M w'.heap/\R v w'):=by
      refine vX m (M:=M) (K:=λv H'=>MI M H' (K v H')) ?_ h;intro v w' t hk;cases M with
      |none=>exact⟨trivial,f v w' t trivial hk⟩
      |some G=>exact⟨hk.1,f v w' t hk.1 hk.2⟩
     have j:iU P o.op≠1:=λe=>n1 e;have r:iU P o.op≠0:=λe=>x e;have k:dx P L o=iU P o.op:=sX rfl j;rw[k];generalize iU P o.op=c at*
     match c with
     |0=>exact absurd rfl r
     |1=>exact absurd rfl j
     |_+2=>exact n
def wF (ops:Array Oper)(j:Nat):Option Nat:=match ops[j]? with|some o=>o.dst|none=>none
theorem qf {ops:Array Oper}{o:Oper}{a:Act}{j s:Nat}{want:Bool}(d:o.guard=some (j,want))(hs:wF ops j=some s):
  (PI o (yielded ops a.tmps)=true↔a.tmps[s]?=some (.bool want)):=by
 have e:(ops[j]?).bind (·.dst)=some s:=by
  unfold wF at hs;split at hs
  ·rename_i g f;rw[f];exact hs
  ·cases hs
 simp only[PI,d,yielded,e,Option.bind_some];constructor
 ·intro h;split at h
  ·rename_i b c;rw[c];simpa using h
  ·simp at h
 ·intro h;rw[h];simp
def iV (P:Program)(N:Nat)(L:List Nat)(M:Option (aa->Prop))(o:Oper)(E:List bJ)(H:aa)(s:Nat)(want b:Bool)(K:List bJ->aa->Prop):Prop:=
 bif b==want then w5 P L (kY s b E) [] o M H λv H'=>tQ N (kY s b E) o.dst v none λa=>K a H'
 else tQ N (kY s b E) o.dst undef none λa=>K a H
def zh (E:List bJ)(s:Nat):Bool:=match find E s with|some ⟨_,.tuple _,none⟩=>true|_=>false
def AN (ops:Array Oper)(o:Oper):Bool:=match o.op with
 |.extract (.tmp t) _=>ops.toList.any λp=>(match p.op with|.entry _=>(match p.dst with|some d=>Ou d t|none=>false)|_=>false)
 |_=>false
def Mh (P:Program)(N:Nat)(L:List Nat)(ops:Array Oper)(M:Option (aa->Prop))(o:Oper)(E:List bJ)(H:aa)(K:List bJ->aa->Prop):Prop:=
 match o.guard with
 |none=>bif AN ops o then (match k9 P E [] o with
   |some v=>HF (kB P o.type) v λy=>tQ N E o.dst ((kB P o.type).enc y) none λa=>K a H
   |none=>False)
   else w5 P L E [] o M H λv H'=>tQ N E o.dst v none λa=>K a H'
 |some (j,want)=>(match wF ops j with
   |none=>False
   |some s=>bif zh E s then tQ N E o.dst undef none λa=>K a H else bif isLit E s then (match find E s with
     |some ⟨_,.bool b,none⟩=>br b (iV P N L M o E H s want true K) (iV P N L M o E H s want false K)
     |_=>False) else (match k9 P E [(s,want)] o with
     |some v=>tQ N E o.dst v (some (s,want)) λa=>K a H
     |none=>(match find E s with
       |some ⟨_,.bool b,none⟩=>br b (iV P N L M o E H s want true K) (iV P N L M o E H s want false K)
       |some ⟨_,.bool b,some (s2,c)⟩=>(match find E s2 with
         |some ⟨_,.bool d,none⟩=>
           br (d==c) (br b (iV P N L M o (kY s2 c E) H s want true K) (iV P N L M o (kY s2 c E) H s want false K)) (tQ N (wk s2 (!c) E) o.dst undef none λa=>K a H)
         |_=>False)
       |_=>False)))
theorem C1 (C:lO P){ops:Array Oper}{M:Option (aa->Prop)}{o:Oper}{E:List bJ}{a:Act}{w:World}{K:List bJ->aa->Prop}{K':Act->World->Prop}
  (hH:Holds N D E a) (m:iQ M w.heap)
  (r:∀f u w',Holds N D f (a.put o.dst u)->Alike w w'->iQ M w'.heap->K f w'.heap->K' (a.put o.dst u) w')
  (h:Mh P N L ops M o E w.heap K):fx P M L ops o K' a w:=by
 have plain:∀{E:List bJ},Holds N D E a->w5 P L E [] o M w.heap (λv H'=>tQ N E o.dst v none λf=>K f H')->
   fI P M (dx P L o) (λw=>(execOp a.eval o).run P w) (λv w'=>K' (a.put o.dst v) w') w:=by
  intro E hH h;refine xj C hH (by simp) m (λv w' O i hk=>?_) h;obtain⟨f,h1,c⟩:=eU hH hk (u:=v) (λ_ _ _ _=>rfl) (λ_=>rfl);exact r f v w' h1 O i c
 have known:∀{E:List bJ} {s:Nat} {want b:Bool} {j:Nat},o.guard=some (j,want)->wF ops j=some s->Holds N D E a->a.tmps[s]?=some (.bool b)->iV P N L M o E w.heap s want b K->fx P M L ops o K' a w:=by
  intro E s want b j i hs hH d h;have hw:=qf (a:=a) i hs;unfold iV at h;unfold fx;by_cases e:b=want
  ·subst e;simp only[beq_self_eq_true,cond_true] at h;rw[if_pos (hw.2 d)];exact plain (hH.kY d) h
  ·have F:(b==want)=false:=by simpa using e
   rw[F] at h;simp only[cond_false] at h;rw[if_neg (λn=>by
    have:=hw.1 n;rw[d] at this;simp at this;exact e this)]
   obtain⟨f,h1,c⟩:=eU (hH.kY d) h (u:=undef) (λ_ _ _ _=>rfl) (λ_=>rfl);exact r f undef w h1 (.refl w) m c
 unfold Mh at h;split at h
 ·rename_i i;unfold fx;rw[if_pos (by simp[PI,i])];cases x:AN ops o with
  |false=>rw[x] at h;exact plain hH h
  |true=>
    rw[x] at h;simp only[cond_true] at h;split at h
    ·rename_i v d;obtain⟨y,rfl,Q⟩:=h;obtain⟨f,h1,c⟩:=eU hH Q (u:=(kB P o.type).enc y) (λ_ _ _ _=>rfl) (λ_=>rfl);exact ku m (ka hH (by simp) d) (r f _ w h1 (.refl w) m c)
    ·exact h.elim
 ·rename_i j want i;split at h
  ·exact h.elim
  ·rename_i s hs;have hw:=qf (a:=a) i hs;cases k:zh E s with
   |true=>
     rw[k] at h;simp only[cond_true] at h;have d:∃vs,a.tmps[s]?=some (.tuple vs):=by
      unfold zh at k;split at k
      ·rename_i s' vs t;obtain⟨h1,c⟩:=fK t;have:=hH.all _ h1;simp only at c;subst c;exact⟨vs,this⟩
      ·cases k
     obtain⟨vs,d⟩:=d;unfold fx;rw[if_neg (λn=>by have:=hw.1 n;rw[d] at this;simp at this)];obtain⟨f,h1,c⟩:=eU hH h (u:=undef) (λ_ _ _ _=>rfl) (λ_=>rfl);exact r f undef w h1 (.refl w) m c
   |false=>
   rw[k] at h;simp only[cond_false] at h;cases z:isLit E s with
   |true=>
     rw[z] at h;simp only[cond_true] at h;split at h
     ·rename_i s' b t;obtain⟨h1,c⟩:=fK t;have d:a.tmps[s]?=some (.bool b):=by have:=hH.all _ h1;simp only at c;subst c;exact this
      cases b with
      |true=>exact known i hs hH d h
      |false=>exact known i hs hH d h
     ·exact h.elim
   |false=>
   rw[z] at h;simp only[cond_false] at h;split at h
   ·rename_i v d;unfold fx;split
    ·rename_i g;have hsl:=hw.1 g;obtain⟨f,h1,c⟩:=eU hH h (u:=v) (λ_ _ _ _=>rfl) (λ_=>rfl) (hu2:=λs' R e n=>by obtain⟨rfl,rfl⟩:=(VL (Ow e));exact absurd hsl n);exact ku m (ka hH (by intro p S;rw[Oj.1 S];exact hsl) d) (r f v w h1 (.refl w) m c)
    ·rename_i g;obtain⟨f,h1,c⟩:=eU hH h (u:=undef) (λs' R e n=>by obtain⟨rfl,rfl⟩:=(VL (Ow e));exact absurd (hw.2 n) g) (λe=>by cases e) (hu2:=λ_ _ _ _=>rfl);exact r f undef w h1 (.refl w) m c
   ·split at h
    ·rename_i s' b t;obtain⟨h1,c⟩:=fK t;have d:a.tmps[s]?=some (.bool b):=by have:=hH.all _ h1;simp only at c;subst c;exact this
     cases b with
     |true=>exact known i hs hH d h
     |false=>exact known i hs hH d h
    ·rename_i s' b s2 G t;split at h
     ·rename_i Y A H;obtain⟨h1,c⟩:=fK t;obtain⟨T,J⟩:=fK H;have l:a.tmps[s2]?=some (.bool A):=by have:=hH.all _ T;simp only at J;subst J;exact this
      obtain⟨U,V⟩:=EO.1 h;by_cases e:A=G
      ·subst e;have B:=U (by simp);have d:a.tmps[s]?=some (.bool b):=by
        have:=hH.all _ h1;simp only at c;subst c;exact this.1 l
       cases b with
       |true=>exact known i hs (hH.kY l) d B
       |false=>exact known i hs (hH.kY l) d B
      ·have B:=V (by simpa using e);have e2:A=!G:=by cases A<;>cases G<;>simp_all
       have hu:a.tmps[s]?=some undef:=by
        have:=hH.all _ h1;simp only at c;subst c;exact this.2 (by rw[l];intro q;injection q with q;injection q with q;exact e q)
       have I:¬PI o (yielded ops a.tmps)=true:=λn=>by
        have:=hw.1 n;rw[hu] at this;unfold undef at this;cases this
       unfold fx;rw[if_neg I];obtain⟨f,W,X⟩:=eU (hH.wk (by rw[l,e2])) B (u:=undef) (λ_ _ _ _=>rfl) (λ_=>rfl);exact r f undef w W (.refl w) m X
     ·exact h.elim
    ·exact h.elim
def gK (P:Program)(N:Nat)(L:List Nat)(ops:Array Oper)(M:Option (aa->Prop)):List Oper->List bJ->aa->(List bJ->aa->Prop)->Prop
 |[],E,H,K=>K E H
 |o::l,E,H,K=>Mh P N L ops M o E H λa H'=>gK P N L ops M l a H' K
def zy (l:List Oper):List Nat:=l.filterMap (·.dst)
theorem cE (b:lO P){ops:Array Oper}{M:Option (aa->Prop)}{K:List bJ->aa->Prop}{K':Act->World->Prop}{W:List Nat}{a0:Act}{w0:World}
  (k:∀c e w',Holds N D c e->gS W a0 e->Alike w0 w'->iQ M w'.heap->K c w'.heap->K' e w'):
  ∀(l:List Oper),(∀o∈l,∀d,o.dst=some d->W.contains d=true)->∀(E:List bJ) (a:Act) (w:World),Holds N D E a->gS W a0 a->Alike w0 w->iQ M w.heap->gK P N L ops M l E w.heap K->gk P M L ops K' l a w
 |[],_,E,a,w,hH,f,g,i,h=>k E a w hH f g i h
 |o::l,m,_,_,_,hH,f,g,i,h=>
   C1 b hH i (λc _ w' h1 n p q=>cE b k l (λr j=>m r (Oh _ j)) c _ w' h1
    (f.trans (gS.put (m o Oq))) (g.trans n) p q) h
def Mf (P:Program)(N:Nat)(ops:Array Oper)(draw:Bool)(E:List bJ)(H:aa)(K:List bJ->aa->Prop):Prop:=
 bif draw then (bif dC P [] 0 ops then gK P N [] ops none ops.toList E H K
  else let L:=qg P ops
   let k:=vt P L ops
   bif dC P L k ops then (bif Ou k 0 then gK P N L ops none ops.toList E H K else ∃G:aa->Prop,G H/\gK P N L ops (some G) (ops.toList.take k) E H λa H'=>gK P N L ops none (ops.toList.drop k) a H' K) else False)
 else gK P N [] ops none ops.toList E H K
theorem BZ (e:lO P)(hm:P.follows .mixedOrders=true){rn:Option Nat}{id:Nat}{ops:Array Oper}{draw:Bool}{E:List bJ}{a:Act}{w:World}{K:List bJ->aa->Prop}{Q:Exit->Act->World->Prop}
  (hH:Holds N D E a) (r:∀c b w',Holds N D c b->gS (zy ops.toList) a b->Alike w w'->K c w'.heap->Q .normal b w')
  (h:Mf P N ops draw E w.heap K):(Sb id ops draw).wpIn (FW rn) 0 P Q a w:=by
 have n:∀o∈ops.toList,∀d,o.dst=some d->(zy ops.toList).contains d=true:=by
  intro o p d hd;rw[RG];exact Uu.2 ⟨o,p,hd⟩
 unfold Mf at h;cases draw with
 |false=>
   exact ub (cE (M:=none) e (λc b w' f g j _ l=>r c b w' f g j l) ops.toList n E a w hH (.refl _ _) (.refl _) trivial h)
 |true=>
   simp only[cond_true] at h;have hd:Alike w {w with drawn:=w.drawn+1}:=.of_le rfl (OR _);cases h1:dC P [] 0 ops with
   |true=>
     rw[h1] at h;refine iA (M:=none) (k:=0) hm (λi hi=>by omega) h1 trivial ?_;show gk P none [] ops _ (ops.toList.take 0) _ _;rw[Ur,TM];exact cE (M:=none) e (λc b w' f g j _ l=>r c b w' f g j l) ops.toList n E a _ hH (.refl _ _) hd trivial h
   |false=>
     rw[h1] at h;simp only[cond_false] at h;cases q:dC P (qg P ops) (vt P (qg P ops) ops) ops with
     |true=>
       rw[q] at h;simp only[cond_true] at h;cases m:Ou (vt P (qg P ops) ops) 0 with
       |true=>
         rw[m] at h;have t:=Od m;rw[t] at q;refine iA (M:=none) (k:=0) hm (λi hi=>by omega) q trivial ?_;show gk P none (qg P ops) ops _ (ops.toList.take 0) _ _;rw[Ur,TM];exact cE (M:=none) e (λc b w' f g j _ l=>r c b w' f g j l) ops.toList n E a _ hH (.refl _ _) hd trivial h
       |false=>
       rw[m] at h;obtain⟨G,s,u⟩:=h;refine iA (M:=some G) hm (λ_ _=>rfl) q s (cE e (λc b w' f g j _ l=>?_) (ops.toList.take _) (λo p=>n o (Pb p)) E a _ hH (.refl _ _) hd s u);exact cE (M:=none) e (λc b w' f g j _ l=>r c b w' f g j l) (ops.toList.drop _) (λo p=>n o (QE p)) c b w' f g j trivial l
     |false=>
       rw[q] at h;simp only[cond_false] at h
def kR (ops:Array Oper)(l:List Nat):List Oper:=l.flatMap λi=>(ops.toList.drop i).take 1
def Lh (P:Program)(N:Nat)(L:List Nat)(ops:Array Oper)(M:Option (aa->Prop))(f c:Nat):List Nat->List bJ->aa->(List bJ->aa->Prop)->Prop
 |[],E,H,K=>gK P N L ops M (kR ops [f]) E H K
 |i::l,E,H,K=>bif Nat.ble c i then gK P N L ops M (kR ops (f::i::l)) E H K else
   bif gX P L ops f c i then gK P N L ops M (kR ops (f::i::l)) E H K/\gK P N L ops M (kR ops [i]) E H (λa H'=>Lh P N L ops M f c l a H' K)
   else gK P N L ops M (kR ops [i]) E H λa H'=>Lh P N L ops M f c l a H' K
def K5 (f c:Nat)(P:Program)(N:Nat)(ops:Array Oper)(E:List bJ)(H:aa)(K:List bJ->aa->Prop):Prop:=
 let L:=qg P ops
 bif tD P L ops f c (dq ops.toList []) then ∃G:aa->Prop,G H/\Lh P N L ops (some G) f c (jB ops.size f) E H K else False
theorem lk {M:Option (aa->Prop)}{L:List Nat}{ops:Array Oper}{K:Act->World->Prop}:∀(l:List Nat),(∀i∈l,i<ops.size)->eW P M ops.size L ops K l=gk P M L ops K (kR ops l)
 |[],_=>rfl
 |i::l,h=>by
   have hi:=h i Oq;have b:=lk (M:=M) (L:=L) (K:=K) l λk hk=>h k (Oh _ hk);have e:(ops.toList.drop i).take 1=[ops[i]]:=by
    rw[List.drop_eq_getElem_cons (by simpa using hi)];simp
   have e2:kR ops (i::l)=ops[i]::kR ops l:=by
    unfold kR;rw[List.flatMap_cons,e];rfl
   have c:oZ M ops.size i=M:=by unfold oZ;rw[fT.2 hi];rfl
   rw[e2];funext a w;simp only[eW,gk,bS,Array.getElem?_eq_getElem hi,c,b]
theorem Dg (b:lO P){L:List Nat}{ops:Array Oper}{M:Option (aa->Prop)}{f c:Nat}{K:List bJ->aa->Prop}{K':Act->World->Prop}{W:List Nat}{a0:Act}{w0:World}
  (t:∀g j w',Holds N D g j->gS W a0 j->Alike w0 w'->iQ M w'.heap->K g w'.heap->K' j w') (u:f<ops.size) (y:∀o∈ops.toList,∀d,o.dst=some d->W.contains d=true):
  ∀(l:List Nat),(∀i∈l,i<ops.size)->∀(E:List bJ) (a:Act) (w:World),Holds N D E a->gS W a0 a->Alike w0 w->iQ M w.heap->Lh P N L ops M f c l E w.heap K->jn P M L ops f c K' l a w:=by
 have e:∀l:List Nat,∀o∈kR ops l,∀d,o.dst=some d->W.contains d=true:=λl o v=>by
  unfold kR at v;obtain⟨i,_,hi⟩:=Pz.1 v;exact y o (QE (Pb hi))
 intro l
 induction l with
 |nil=>
   intro _ E a w hH m n p h;unfold jn;rw[lk [f] λi hi=>by rw[Oj] at hi;subst hi;exact u];exact cE b t _ (e _) E a w hH m n p h
 |cons i l z=>
   intro hl E a w hH m n p h;have hi:=hl i Oq;have r:=z λk hk=>hl k (Oh _ hk);have full:gK P N L ops M (kR ops (f::i::l)) E w.heap K->eW P M ops.size L ops K' (f::i::l) a w:=λs=>by
    rw[lk (f::i::l) λk hk=>by
     rcases Of.1 hk with q|q
     ·subst q;exact u
     ·exact hl k q]
    exact cE b t _ (e _) E a w hH m n p s
   have one:gK P N L ops M (kR ops [i]) E w.heap (λg H'=>Lh P N L ops M f c l g H' K)->bS P M ops.size L ops i (jn P M L ops f c K' l) a w:=λs=>by
    have:=cE (K':=jn P M L ops f c K' l) b (λg j w' h1 A B C F=>r g j w' h1 A B C F) _ (e [i]) E a w hH m n p s;rw[<-lk [i] λk hk=>by rw[Oj] at hk;subst hk;exact hi] at this;exact this
   unfold Lh at h;unfold jn;cases x:Nat.ble c i with
   |true=>rw[x] at h;exact full h
   |false=>
     rw[x] at h;cases hs:gX P L ops f c i with
     |true=>rw[hs] at h;exact⟨full h.1,one h.2⟩
     |false=>rw[hs] at h;exact one h
theorem zn (j:lO P)(hm:P.follows .mixedOrders=true){f c:Nat}{rn:Option Nat}{id:Nat}{ops:Array Oper}{E:List bJ}{a:Act}{w:World}{K:List bJ->aa->Prop}{Q:Exit->Act->World->Prop}
  (hH:Holds N D E a) (m:∀e b w',Holds N D e b->gS (zy ops.toList) a b->Alike w w'->K e w'.heap->Q .normal b w')
  (h:K5 f c P N ops E w.heap K):(Sb id ops true).wpIn (FW rn) 0 P Q a w:=by
 have n:∀o∈ops.toList,∀d,o.dst=some d->(zy ops.toList).contains d=true:=by
  intro o p d hd;rw[RG];exact Uu.2 ⟨o,p,hd⟩
 have hd:Alike w {w with drawn:=w.drawn+1}:=.of_le rfl (OR _);unfold K5 at h;simp only at h;cases g:tD P (qg P ops) ops f c (dq ops.toList []) with
 |false=>rw[g] at h;exact h.elim
 |true=>
   rw[g] at h;obtain⟨G,k,q⟩:=h;have l:=qq g;exact qL (M:=some G) hm rfl g k (Dg j (λe b w' r s t _ u=>m e b w' r s t u) (Nat.lt_trans l.fc l.cn) n _ (λi hi=>OD.1 (OC.1 hi).1) E a _ hH (.refl _ _) hd k q)
def Li (P:Program)(N:Nat)(L:List Nat)(ops:Array Oper)(M:Option (aa->Prop))(K:List bJ->aa->Prop):Nat->List Nat->List bJ->aa->Prop
 |0,_,E,H=>K E H
 |n+1,l,E,H=>(match nj (CV P L ops (dq ops.toList []) l) l with
   |some j=>gK P N L ops M (kR ops [j]) E H λa H'=>Li P N L ops M K n (fg l j) a H'
   |none=>vU (iK (dq ops.toList []) l) (λj=>gK P N L ops M (kR ops [j]) E H λa H'=>Li P N L ops M K n (fg l j) a H') l)
def Ks (ex:List Nat)(P:Program)(N:Nat)(ops:Array Oper)(E:List bJ)(H:aa)(K:List bJ->aa->Prop):Prop:=
 bif LC ops then ∃G:aa->Prop,G H/\Li P N (ex++qg P ops) ops (some G) K ops.size (List.range ops.size) E H else False
theorem Cv (e:lO P){L:List Nat}{ops:Array Oper}{M:Option (aa->Prop)}{K:List bJ->aa->Prop}{K':Act->World->Prop}{W:List Nat}{a0:Act}{w0:World}
  (t:∀b c w',Holds N D b c->gS W a0 c->Alike w0 w'->iQ M w'.heap->K b w'.heap->K' c w') (u:∀o∈ops.toList,∀d,o.dst=some d->W.contains d=true):
  ∀(n:Nat) (l:List Nat),(∀i∈l,i<ops.size)->∀(E:List bJ) (a:Act) (w:World),Holds N D E a->gS W a0 a->Alike w0 w->iQ M w.heap->Li P N L ops M K n l E w.heap->oQ P M L ops K' n l a w:=by
 have f:∀l:List Nat,∀o∈kR ops l,∀d,o.dst=some d->W.contains d=true:=λl o s=>by
  unfold kR at s;obtain⟨i,_,hi⟩:=Pz.1 s;exact u o (QE (Pb hi))
 intro n
 induction n with
 |zero=>
   intro l _ E a w hH g m p h;exact t E a w hH g m p h
 |succ n v=>
   intro l hl E a w hH g m p h;have one:∀j∈l,gK P N L ops M (kR ops [j]) E w.heap (λb H'=>Li P N L ops M K n (fg l j) b H')->bS P M ops.size L ops j (oQ P M L ops K' n (fg l j)) a w:=λj q x=>by
    have:=cE (K':=oQ P M L ops K' n (fg l j)) e (λb c w' h1 y z A B=>v (fg l j) (λi hi=>hl i (fF.1 hi).1) b c w' h1 y z A B) _ (f [j]) E a w hH g m p x;rw[<-lk [j] λk hk=>by rw[Oj] at hk;subst hk;exact hl k q] at this;exact this
   unfold Li at h;unfold oQ;cases r:nj (CV P L ops (dq ops.toList []) l) l with
   |some j=>rw[r] at h;exact one j (ke r).1 h
   |none=>rw[r] at h;exact qa (λj q=>one j q) h
theorem AF (e:lO P)(hm:P.follows .mixedOrders=true){ex:List Nat}{rn:Option Nat}{id:Nat}{ops:Array Oper}{E:List bJ}{a:Act}{w:World}{K:List bJ->aa->Prop}{Q:Exit->Act->World->Prop}
  (hH:Holds N D E a) (j:∀c b w',Holds N D c b->gS (zy ops.toList) a b->Alike w w'->K c w'.heap->Q .normal b w')
  (h:Ks ex P N ops E w.heap K):(Sb id ops true).wpIn (FW rn) 0 P Q a w:=by
 have k:∀o∈ops.toList,∀d,o.dst=some d->(zy ops.toList).contains d=true:=by
  intro o l d hd;rw[RG];exact Uu.2 ⟨o,l,hd⟩
 have hd:Alike w {w with drawn:=w.drawn+1}:=.of_le rfl (OR _);unfold Ks at h;cases f:LC ops with
 |false=>rw[f] at h;exact h.elim
 |true=>
   rw[f] at h;obtain⟨G,g,m⟩:=h;exact oT (M:=some G) hm rfl f g (Cv e (λc b w' n p q _ r=>j c b w' n p q r) k _ _ (λi hi=>OD.1 hi) E a _ hH (.refl _ _) hd g m)
end
end Go.Proofs.YtmkbhnholcaghaaGreatDoor
