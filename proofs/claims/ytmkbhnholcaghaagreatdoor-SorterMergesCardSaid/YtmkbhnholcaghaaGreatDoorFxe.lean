/-
 Ground, fifth text: what the walk of a whole function asks ('vcF'), and that it is enough ('spec_of_vc').
-/
import Derived.Test.YtmkbhnholcaghaaGreatDoorFxd
import Derived.Test.YtmkbhnholcaghaaGreatDoorFxv
open Array renaming getElem?_setIfInBounds_ne->PL
open Bool renaming and_eq_true->OB,not_eq_true'->PS
open Go.Act renaming put->Vb
open Go.Code renaming region->Sz
open Go.Region renaming wanted->P8
open List renaming mem_append->Ox,mem_cons->OG,mem_singleton->OH,mem_cons_of_mem->OM,mem_cons_self->OO,mem_filter->OY,mem_range->O1,mem_of_mem_take->Pu,mem_flatMap->PX,any_eq_true->Qv,mem_of_mem_drop->Q0,contains_iff_mem->R7,drop_zero->Uc,take_zero->UP,mem_filterMap->UT
open Nat renaming eq_of_beq_eq_true->OD,beq->OQ,le_succ->Ph
open Option.some renaming inj->OS
open Prod.mk renaming inj->V7
namespace Go.Proofs.YtmkbhnholcaghaaGreatDoor
structure bK where
 s:Nat
 v:Value
 g:Option (Nat×Bool)
def find:List bK->Nat->Option bK
 |[],_=>none
 |e::r,t=>bif OQ e.s t then some e else find r t
def JZ (a b:Nat×Bool):Bool:=OQ a.1 b.1&&(a.2==b.2)
def MD (gs:List (Nat×Bool)):Option (Nat×Bool)->Bool
 |none=>true
 |some p=>gs.any (JZ p)
def Dr (E:List bK)(gs:List (Nat×Bool)):Operand->Option Value
 |.tmp t=>(match find E t with|some e=>(bif MD gs e.g then some e.v else none)|none=>none)
 |.const v=>some v
 |.global g=>some (.pointer (some ⟨g,0,none⟩))
 |.func f=>some (.func (.func f) #[] #[])
def GZ (E:List bK)(gs:List (Nat×Bool))(x:Operand):Value:=(Dr E gs x).getD undef
def tK (E:List bK)(gs:List (Nat×Bool))(op:Op):Bool:=op.operands.toList.all λx=>(Dr E gs x).isSome
def fw (a:Act)(e:bK):Prop:=
 match e.g with
 |none=>a.tmps[e.s]?=some e.v
 |some (s,b)=>(a.tmps[s]?=some (.bool b)->a.tmps[e.s]?=some e.v)/\(a.tmps[s]?≠some (.bool b)->a.tmps[e.s]?=some undef)
structure Holds (N:Nat)(D:List Deferred)(E:List bK)(a:Act):Prop where
 size:a.tmps.size=N
 defers:a.defers=D
 all:∀e∈E,fw a e
def Kv (d:Nat)(e:bK):Bool:=!(OQ e.s d)&&(match e.g with|some (s,_)=>!(OQ s d)|none=>true)
def Gb (d:Nat)(g:Option (Nat×Bool)):Bool:=match g with|some p=>!(OQ p.1 d)|none=>true
def ud (N:Nat)(E:List bK)(dst:Option Nat)(v:Value)(g:Option (Nat×Bool))(K:List bK->Prop):Prop:=
 match dst with
 |none=>K E
 |some d=>bif Nat.blt d N&&Gb d g then K (⟨d,v,g⟩::E.filter (Kv d)) else False
def qT (s:Nat)(b:Bool):List bK->List bK
 |[]=>[]
 |e::r=>bif OQ e.s s then ⟨s,.bool b,none⟩::qT s b r else (match e.g with
   |none=>e::qT s b r
   |some p=>bif JZ p (s,b) then ⟨e.s,e.v,none⟩::qT s b r else bif OQ p.1 s then qT s b r else e::qT s b r)
def gV (W:List Nat)(a b:Act):Prop:=∀t,W.contains t=false->b.tmps[t]?=a.tmps[t]?
theorem gV.refl (W:List Nat)(a:Act):gV W a a:=λ_ _=>rfl
theorem gV.trans {W:List Nat}{a b c:Act}(h:gV W a b)(k:gV W b c):gV W a c:=λt d=>(k t d).trans (h t d)
theorem gV.mono {W c:List Nat}{a b:Act}(h:gV W a b)(hs:∀t,c.contains t=false->W.contains t=false):gV c a b:=λt d=>h t (hs t d)
theorem gV.put {W:List Nat}{a:Act}{dst:Option Nat}{v:Value}(h:∀d,dst=some d->W.contains d=true):gV W a (a.put dst v):=by
 intro t c;cases dst with
 |none=>rfl
 |some d=>
   have b:d≠t:=by intro e;subst e;rw[h d rfl] at c;cases c
   simp[Vb,PL b]
theorem fP:∀{E:List bK} {t:Nat} {e:bK},find E t=some e->e∈E/\e.s=t
 |[],_,_,h=>by cases h
 |x::r,t,e,h=>by
   unfold find at h;cases a:OQ x.s t with
   |true=>rw[a] at h;have b:x=e:=OS h;subst b;exact⟨OO,OD a⟩
   |false=>rw[a] at h;have:=fP (E:=r) h;exact⟨OM _ this.1,this.2⟩
theorem oO {a b:Nat×Bool}(h:JZ a b=true):a=b:=by
 unfold JZ at h;simp only[OB,beq_iff_eq] at h;exact Prod.ext (OD h.1) h.2
section
variable {P:Program}{N:Nat}{D:List Deferred}{L:List Nat}
theorem gK {E:List bK}{gs:List (Nat×Bool)}{a:Act}{x:Operand}{v:Value}(hH:Holds N D E a)(i:∀p∈gs,a.tmps[p.1]?=some (.bool p.2))(h:Dr E gs x=some v):a.eval x=v:=by
 cases x with
 |tmp t=>
   simp only[Dr] at h;split at h
   ·rename_i e he;obtain⟨h1,j⟩:=fP he;cases d:MD gs e.g with
    |false=>rw[d] at h;cases h
    |true=>
      rw[d] at h;have k:e.v=v:=OS h;have b:=hH.all e h1;have:a.tmps[e.s]?=some e.v:=by
       unfold fw at b;cases c:e.g with
       |none=>rw[c] at b;exact b
       |some p=>
         rw[c] at b d;obtain⟨q,l,heq⟩:=Qv.1 d;have:=oO heq;subst this;exact b.1 (i _ l)
      rw[j] at this;simp only[Act.eval,Array.getD_eq_getD_getElem?,this,k,Option.getD_some]
   ·cases h
 |const u=>exact OS h
 |global g=>exact OS h
 |func f=>exact OS h
theorem qq {E:List bK}{gs:List (Nat×Bool)}{a:Act}{o:Oper}(hH:Holds N D E a)(d:∀p∈gs,a.tmps[p.1]?=some (.bool p.2))(h:tK E gs o.op=true)
  (hs:∀cs b,o.op≠.select cs b):execOp a.eval o=execOp (GZ E gs) o:=by
 refine execOp_congr o hs λx e=>?_;have:=List.all_eq_true.1 h x (by simpa using e);obtain⟨v,c⟩:=Option.isSome_iff_exists.1 this;rw[gK hH d c];unfold GZ;rw[c];rfl
theorem CZ {E:List bK}{gs:List (Nat×Bool)}(v:Value):GZ E gs (.const v)=v:=rfl
theorem vX {a:Act}{d:Nat}{v:Value}(h:d<a.tmps.size):(a.put (some d) v).tmps[d]?=some v:=by
 simp[Vb,h]
theorem oa {a:Act}{d t:Nat}{v:Value}(h:d≠t):(a.put (some d) v).tmps[t]?=a.tmps[t]?:=by
 simp[Vb,PL h]
theorem EL {a:Act}{dst:Option Nat}{v:Value}:(a.put dst v).tmps.size=a.tmps.size:=by
 cases dst<;>simp[Vb]
theorem put_defers {a:Act}{dst:Option Nat}{v:Value}:(a.put dst v).defers=a.defers:=by
 cases dst<;>simp[Vb]
theorem eX {E:List bK}{dst:Option Nat}{v:Value}{g:Option (Nat×Bool)}{K:List bK->Prop}{a:Act}(hH:Holds N D E a)(h:ud N E dst v g K)
  {u:Value} (hu:∀s b,g=some (s,b)->a.tmps[s]?=some (.bool b)->u=v) (m:g=none->u=v) (hu2:∀s b,g=some (s,b)->a.tmps[s]?≠some (.bool b)->u=undef:=by intro _ _ e;cases e):∃o,Holds N D o (a.put dst u)/\K o:=by
 unfold ud at h;cases dst with
 |none=>exact⟨E,hH,h⟩
 |some d=>
   simp only at h;cases j:(Nat.blt d N&&Gb d g) with
   |false=>rw[j] at h;exact h.elim
   |true=>
     rw[j] at h;simp only[OB] at j;have hd:d<a.tmps.size:=by rw[hH.size];exact Nat.le_of_ble_eq_true j.1
     refine⟨_,⟨EL.trans hH.size,put_defers.trans hH.defers,?_⟩,h⟩;intro e he;rcases OG.1 he with he|he
     ·subst he;unfold fw;cases g with
      |none=>exact(vX hd).trans (by rw[m rfl])
      |some p=>
        obtain⟨s,b⟩:=p;have k:s≠d:=by
         intro e;subst e;have:=j.2;simp[Gb] at this
        refine⟨λhs=>?_,λhs=>?_⟩
        ·rw[oa (Ne.symm k)] at hs;exact(vX hd).trans (by rw[hu s b rfl hs])
        ·rw[oa (Ne.symm k)] at hs;exact(vX hd).trans (by rw[hu2 s b rfl hs])
     ·obtain⟨h1,l⟩:=OY.1 he;have c:=hH.all e h1;unfold Kv at l;simp only[OB,PS] at l;have i:d≠e.s:=by
       intro n;have:=l.1;rw[<-n] at this;simp at this
      unfold fw at c ⊢;cases q:e.g with
      |none=>rw[q] at c;exact(oa i).trans c
      |some p=>
        obtain⟨s,b⟩:=p;rw[q] at c l;have f:d≠s:=by
         intro n;have:=l.2;rw[<-n] at this;simp at this
        refine⟨λhs=>?_,λhs=>?_⟩
        ·rw[oa f] at hs;exact(oa i).trans (c.1 hs)
        ·rw[oa f] at hs;exact(oa i).trans (c.2 hs)
theorem tM {s:Nat}{b:Bool}{a:Act}(hs:a.tmps[s]?=some (.bool b)):∀{E:List bK},(∀e∈E,fw a e)->∀e∈qT s b E,fw a e
 |[],_,e,he=>by simp[qT] at he
 |x::r,h,e,he=>by
   have f:=tM hs (E:=r) (λe he=>h e (OM _ he));have d:=h x OO;unfold qT at he;cases j:OQ x.s s with
   |true=>
     rw[j] at he;rcases OG.1 he with he|he
     ·subst he;exact hs
     ·exact f e he
   |false=>
     rw[j] at he;simp only[cond_false] at he;unfold fw at d;cases i:x.g with
     |none=>
       rw[i] at he d;rcases OG.1 he with he|he
       ·subst he;unfold fw;rw[i];exact d
       ·exact f e he
     |some p=>
       rw[i] at he d;simp only at he;cases c:JZ p (s,b) with
       |true=>
         rw[c] at he;have:=oO c;subst this;rcases OG.1 he with he|he
         ·subst he;exact d.1 hs
         ·exact f e he
       |false=>
         rw[c] at he;simp only[cond_false] at he;cases g:OQ p.1 s with
         |true=>rw[g] at he;exact f e he
         |false=>
           rw[g] at he;rcases OG.1 he with he|he
           ·subst he;unfold fw;rw[i];exact d
           ·exact f e he
theorem Holds.qT {E:List bK}{a:Act}{s:Nat}{b:Bool}(hH:Holds N D E a)(hs:a.tmps[s]?=some (.bool b)):Holds N D (qT s b E) a:=
 ⟨hH.size,hH.defers,tM hs hH.all⟩
def lu (s:Nat)(b:Bool)(E:List bK):List bK:=qT s b E++[⟨s,.bool b,some (s,b)⟩]
theorem Holds.lu {E:List bK}{a:Act}{s:Nat}{b:Bool}(hH:Holds N D E a)(hs:a.tmps[s]?=some (.bool b)):Holds N D (lu s b E) a:=
 ⟨hH.size,hH.defers,λe he=>by
  rcases Ox.1 he with h|h
  ·exact(hH.qT hs).all e h
  ·rw[OH.1 h];exact⟨λh=>h,λh=>absurd hs h⟩⟩
def ow (s:Nat)(b:Bool):List bK->List bK
 |[]=>[]
 |e::r=>bif OQ e.s s then ⟨s,.bool b,none⟩::ow s b r else (match e.g with
   |none=>e::ow s b r
   |some p=>bif JZ p (s,b) then ⟨e.s,e.v,none⟩::ow s b r else bif OQ p.1 s then ⟨e.s,undef,none⟩::ow s b r else e::ow s b r)
theorem qH {s:Nat}{b:Bool}{a:Act}(hs:a.tmps[s]?=some (.bool b)):∀{E:List bK},(∀e∈E,fw a e)->∀e∈ow s b E,fw a e
 |[],_,e,he=>by simp[ow] at he
 |x::r,h,e,he=>by
   have g:=qH hs (E:=r) (λe he=>h e (OM _ he));have d:=h x OO;unfold ow at he;cases j:OQ x.s s with
   |true=>
     rw[j] at he;rcases OG.1 he with he|he
     ·subst he;exact hs
     ·exact g e he
   |false=>
     rw[j] at he;simp only[cond_false] at he;unfold fw at d;cases i:x.g with
     |none=>
       rw[i] at he d;rcases OG.1 he with he|he
       ·subst he;unfold fw;rw[i];exact d
       ·exact g e he
     |some p=>
       rw[i] at he d;simp only at he;cases c:JZ p (s,b) with
       |true=>
         rw[c] at he;have:=oO c;subst this;rcases OG.1 he with he|he
         ·subst he;exact d.1 hs
         ·exact g e he
       |false=>
         rw[c] at he;simp only[cond_false] at he;cases f:OQ p.1 s with
         |true=>
           rw[f] at he;have k:=OD f;obtain⟨p1,p2⟩:=p;simp only at k d;subst k;rcases OG.1 he with he|he
           ·subst he;refine d.2 λq=>?_;rw[hs] at q;have l:b=p2:=by injection q with q;injection q
            subst l;unfold JZ at c;simp at c
           ·exact g e he
         |false=>
           rw[f] at he;rcases OG.1 he with he|he
           ·subst he;unfold fw;rw[i];exact d
           ·exact g e he
def wI (s:Nat)(b:Bool)(E:List bK):List bK:=ow s b E++[⟨s,.bool b,some (s,b)⟩]
theorem Holds.wI {E:List bK}{a:Act}{s:Nat}{b:Bool}(hH:Holds N D E a)(hs:a.tmps[s]?=some (.bool b)):Holds N D (wI s b E) a:=
 ⟨hH.size,hH.defers,λe he=>by
  rcases Ox.1 he with h|h
  ·exact qH hs hH.all e h
  ·rw[OH.1 h];exact⟨λh=>h,λh=>absurd hs h⟩⟩
def isLit (E:List bK)(s:Nat):Bool:=E.any λe=>OQ e.s s&&(match e.g with|some p=>OQ p.1 s|none=>false)
def wv (gs:List (Nat×Bool))(c:Operand)(b:Bool):List (Nat×Bool):=match c with|.tmp t=>(t,b)::gs|_=>gs
def MY (M:Option (aa->Prop))(H:aa)(A:Prop):Prop:=match M with|none=>A|some G=>G H/\A
def po:Op->Bool
 |.select ..=>true
 |_=>false
def lv (P:Program)(E:List bK)(gs:List (Nat×Bool))(o:Oper):Option Value:=
 match o.op with
 |.pick c a b=>(match Dr E gs c,Dr E (wv gs c true) a,Dr E (wv gs c false) b with
   |some (.bool t),some d,some e=>some (qE t a b d e)
   |_,_,_=>none)
 |op=>bif Bn P op&&(tK E gs op&&!(po op)) then evalOp P o (GZ E gs) else none
def xm (P:Program)(L:List Nat)(E:List bK)(gs:List (Nat×Bool))(o:Oper)(M:Option (aa->Prop))(H:aa)(K:Value->aa->Prop):Prop:=
 match lv P E gs o with
 |some v=>K v H
 |none=>bif tK E gs o.op&&!(po o.op) then
   (match iZ P o.op with
    |0=>vH P o.op (GZ E gs) λv=>K v H
    |1=>rm P o.op o.type (GZ E gs) (bif LB L o then none else M) H λv=>K v H
    |_=>AV P o.op o.type (GZ E gs) H λv H'=>MY M H' (K v H'))
   else False
theorem kx {E:List bK}{gs:List (Nat×Bool)}{o:Oper}{a:Act}{v:Value}(hH:Holds N D E a)(k:∀p∈gs,a.tmps[p.1]?=some (.bool p.2))
  (h:lv P E gs o=some v) (w':World):(execOp a.eval o).run P w'=.ok (.value v) w':=by
 unfold lv at h;split at h
 ·rename_i c x y u;split at h
  ·rename_i t l m g z A;have w:qE t x y l m=v:=OS h;subst w;have B:=gK hH k g;have key:qE t x y l m=if t then a.eval x else a.eval y:=by
    have n:∀b,t=b->∀p∈wv gs c b,a.tmps[p.1]?=some (.bool p.2):=by
     intro b i p j;cases c with
     |tmp s=>
       simp only[wv] at j;rcases OG.1 j with j|j
       ·subst j;simp only[Dr] at g;split at g
        ·rename_i e he;obtain⟨h1,C⟩:=fP he;cases f:MD gs e.g with
         |false=>rw[f] at g;cases g
         |true=>
           rw[f] at g;have w:e.v=.bool t:=OS g;have d:=hH.all e h1;have:a.tmps[e.s]?=some e.v:=by
            unfold fw at d;cases r:e.g with
            |none=>rw[r] at d;exact d
            |some p=>
              rw[r] at d f;obtain⟨q,F,heq⟩:=Qv.1 f;have:=oO heq;subst this;exact d.1 (k _ F)
           rw[C,w,i] at this;exact this
        ·cases g
       ·exact k p j
     |_=>exact k p j
    -- the constant's own case
    have G:∀v,x=.const v->l=v:=λv e=>by subst e;exact(OS z).symm
    have H:∀v,y=.const v->m=v:=λv e=>by subst e;exact(OS A).symm
    have I:qE t x y l m=if t then l else m:=by
     unfold qE;split
     ·rename_i p q;split
      ·have:=H _ rfl;have e2:q=false:=by simpa using this
       subst e2;cases t<;>simp
      ·split
       ·have:=G _ rfl;have e2:p=true:=by simpa using this
        subst e2;cases t<;>simp
       ·cases t<;>simp
     ·cases t<;>simp
    rw[I];cases t with
    |true=>simp only[if_true];rw[gK hH (n true rfl) z]
    |false=>simp only[Bool.false_eq_true,if_false];rw[gK hH (n false rfl) A]
   simp only[execOp,u,B,asBool,Sem.run_bind,Sem.run_pure,Result.andThen_ok,key]
  ·cases h
 ·cases i:(Bn P o.op&&(tK E gs o.op&&!(po o.op))) with
  |false=>rw[i] at h;cases h
  |true=>
    rw[i] at h;simp only[OB,PS] at i;have hs:∀cs b,o.op≠.select cs b:=λcs b e=>by rw[e] at i;cases i.2.2
    rw[qq hH k i.2.1 hs];exact zZ h w'
theorem kH {c:Nat}{M:Option (aa->Prop)}{r:World->Result Next}{v:Value}{R:Value->World->Prop}{w:World}(d:iU M w.heap)(a:∀w',r w'=.ok (.value v) w')(b:R v w):fN P M c r R w:=by
 match c with
 |0=>exact⟨v,a,b⟩
 |1=>exact⟨v,λw' _=>a w',b⟩
 |_+2=>show pt P (r w) _;rw[a w];exact⟨d,b⟩
theorem tk {L:List Nat}{o:Oper}{c:Nat}(h:iZ P o.op=c)(a:c≠1):dC P L o=c:=by
 unfold dC;have:OQ (iZ P o.op) 1=false:=by
  cases b:OQ (iZ P o.op) 1 with
  |false=>rfl
  |true=>exact absurd (h.symm.trans (OD b)) a
 rw[this];exact h
theorem CY {L:List Nat}{o:Oper}(h:iZ P o.op=1)(hl:LB L o=true):dC P L o=2:=by
 unfold dC;rw[h,hl];rfl
theorem AO {L:List Nat}{o:Oper}(h:iZ P o.op=1)(hl:LB L o=false):dC P L o=1:=by
 unfold dC;rw[h,hl];rfl
theorem xC (m:lX P){E:List bK}{gs:List (Nat×Bool)}{o:Oper}{M:Option (aa->Prop)}{a:Act}{w:World}{K:Value->aa->Prop}{R:Value->World->Prop}
  (hH:Holds N D E a) (s:∀p∈gs,a.tmps[p.1]?=some (.bool p.2)) (d:iU M w.heap) (f:∀v w',Alike w w'->iU M w'.heap->K v w'.heap->R v w')
  (h:xm P L E gs o M w.heap K):fN P M (dC P L o) (λw=>(execOp a.eval o).run P w) R w:=by
 unfold xm at h;split at h
 ·rename_i v u;exact kH d (kx hH s u) (f v w (.refl w) d h)
 ·cases g:(tK E gs o.op&&!(po o.op)) with
  |false=>rw[g] at h;exact h.elim
  |true=>
    rw[g] at h;simp only[OB,PS] at g;have hs:∀cs b,o.op≠.select cs b:=λcs b e=>by rw[e] at g;cases g.2
    have he:=qq hH s g.1 hs;simp only[cond_true] at h;rw[he];split at h
    ·rename_i l;rw[tk l (by decide)];obtain⟨v,h1,i⟩:=tY (o:=o) (CZ) h;exact⟨v,h1,f v w (.refl w) d i⟩
    ·rename_i l;cases hl:LB L o with
     |true=>
       rw[hl] at h;simp only[cond_true] at h;obtain⟨v,h1,i⟩:=jy (o:=o) h;rw[CY l hl];have n:=h1 w rfl;show pt P ((execOp (GZ E gs) o).run P w) _;rw[n];exact⟨d,f v w (.refl w) d i⟩
     |false=>
       rw[hl] at h;simp only[cond_false] at h;obtain⟨v,h1,i⟩:=jy (o:=o) h;rw[AO l hl];exact⟨v,λw' q=>h1 w' q,f v w (.refl w) d i⟩
    ·rename_i c x n1;have n:pt P ((execOp (GZ E gs) o).run P w) (λv w'=>iU M w'.heap/\R v w'):=by
      refine wm m (M:=M) (K:=λv H'=>MY M H' (K v H')) ?_ h;intro v w' t hk;cases M with
      |none=>exact⟨trivial,f v w' t trivial hk⟩
      |some G=>exact⟨hk.1,f v w' t hk.1 hk.2⟩
     have j:iZ P o.op≠1:=λe=>n1 e;have r:iZ P o.op≠0:=λe=>x e;have k:dC P L o=iZ P o.op:=tk rfl j;rw[k];generalize iZ P o.op=c at*
     match c with
     |0=>exact absurd rfl r
     |1=>exact absurd rfl j
     |_+2=>exact n
def wS (ops:Array Oper)(j:Nat):Option Nat:=match ops[j]? with|some o=>o.dst|none=>none
theorem qv {ops:Array Oper}{o:Oper}{a:Act}{j s:Nat}{want:Bool}(d:o.guard=some (j,want))(hs:wS ops j=some s):
  (P8 o (yielded ops a.tmps)=true↔a.tmps[s]?=some (.bool want)):=by
 have e:(ops[j]?).bind (·.dst)=some s:=by
  unfold wS at hs;split at hs
  ·rename_i g f;rw[f];exact hs
  ·cases hs
 simp only[P8,d,yielded,e,Option.bind_some];constructor
 ·intro h;split at h
  ·rename_i b c;rw[c];simpa using h
  ·simp at h
 ·intro h;rw[h];simp
def ja (P:Program)(N:Nat)(L:List Nat)(M:Option (aa->Prop))(o:Oper)(E:List bK)(H:aa)(s:Nat)(want b:Bool)(K:List bK->aa->Prop):Prop:=
 bif b==want then xm P L (lu s b E) [] o M H λv H'=>ud N (lu s b E) o.dst v none λa=>K a H'
 else ud N (lu s b E) o.dst undef none λa=>K a H
def zx (E:List bK)(s:Nat):Bool:=match find E s with|some ⟨_,.tuple _,none⟩=>true|_=>false
def Bg (ops:Array Oper)(o:Oper):Bool:=match o.op with
 |.extract (.tmp t) _=>ops.toList.any λp=>(match p.op with|.entry _=>(match p.dst with|some d=>OQ d t|none=>false)|_=>false)
 |_=>false
def Mx (P:Program)(N:Nat)(L:List Nat)(ops:Array Oper)(M:Option (aa->Prop))(o:Oper)(E:List bK)(H:aa)(K:List bK->aa->Prop):Prop:=
 match o.guard with
 |none=>bif Bg ops o then (match lv P E [] o with
   |some v=>HT (kM P o.type) v λy=>ud N E o.dst ((kM P o.type).enc y) none λa=>K a H
   |none=>False)
   else xm P L E [] o M H λv H'=>ud N E o.dst v none λa=>K a H'
 |some (j,want)=>(match wS ops j with
   |none=>False
   |some s=>bif zx E s then ud N E o.dst undef none λa=>K a H else bif isLit E s then (match find E s with
     |some ⟨_,.bool b,none⟩=>br b (ja P N L M o E H s want true K) (ja P N L M o E H s want false K)
     |_=>False) else (match lv P E [(s,want)] o with
     |some v=>ud N E o.dst v (some (s,want)) λa=>K a H
     |none=>(match find E s with
       |some ⟨_,.bool b,none⟩=>br b (ja P N L M o E H s want true K) (ja P N L M o E H s want false K)
       |some ⟨_,.bool b,some (s2,c)⟩=>(match find E s2 with
         |some ⟨_,.bool d,none⟩=>
           br (d==c) (br b (ja P N L M o (lu s2 c E) H s want true K) (ja P N L M o (lu s2 c E) H s want false K)) (ud N (wI s2 (!c) E) o.dst undef none λa=>K a H)
         |_=>False)
       |_=>False)))
theorem Dl (C:lX P){ops:Array Oper}{M:Option (aa->Prop)}{o:Oper}{E:List bK}{a:Act}{w:World}{K:List bK->aa->Prop}{K':Act->World->Prop}
  (hH:Holds N D E a) (m:iU M w.heap)
  (r:∀f u w',Holds N D f (a.put o.dst u)->Alike w w'->iU M w'.heap->K f w'.heap->K' (a.put o.dst u) w')
  (h:Mx P N L ops M o E w.heap K):fH P M L ops o K' a w:=by
 have plain:∀{E:List bK},Holds N D E a->xm P L E [] o M w.heap (λv H'=>ud N E o.dst v none λf=>K f H')->
   fN P M (dC P L o) (λw=>(execOp a.eval o).run P w) (λv w'=>K' (a.put o.dst v) w') w:=by
  intro E hH h;refine xC C hH (by simp) m (λv w' O i hk=>?_) h;obtain⟨f,h1,c⟩:=eX hH hk (u:=v) (λ_ _ _ _=>rfl) (λ_=>rfl);exact r f v w' h1 O i c
 have known:∀{E:List bK} {s:Nat} {want b:Bool} {j:Nat},o.guard=some (j,want)->wS ops j=some s->Holds N D E a->a.tmps[s]?=some (.bool b)->ja P N L M o E w.heap s want b K->fH P M L ops o K' a w:=by
  intro E s want b j i hs hH d h;have hw:=qv (a:=a) i hs;unfold ja at h;unfold fH;by_cases e:b=want
  ·subst e;simp only[beq_self_eq_true,cond_true] at h;rw[if_pos (hw.2 d)];exact plain (hH.lu d) h
  ·have F:(b==want)=false:=by simpa using e
   rw[F] at h;simp only[cond_false] at h;rw[if_neg (λn=>by
    have:=hw.1 n;rw[d] at this;simp at this;exact e this)]
   obtain⟨f,h1,c⟩:=eX (hH.lu d) h (u:=undef) (λ_ _ _ _=>rfl) (λ_=>rfl);exact r f undef w h1 (.refl w) m c
 unfold Mx at h;split at h
 ·rename_i i;unfold fH;rw[if_pos (by simp[P8,i])];cases x:Bg ops o with
  |false=>rw[x] at h;exact plain hH h
  |true=>
    rw[x] at h;simp only[cond_true] at h;split at h
    ·rename_i v d;obtain⟨y,rfl,Q⟩:=h;obtain⟨f,h1,c⟩:=eX hH Q (u:=(kM P o.type).enc y) (λ_ _ _ _=>rfl) (λ_=>rfl);exact kH m (kx hH (by simp) d) (r f _ w h1 (.refl w) m c)
    ·exact h.elim
 ·rename_i j want i;split at h
  ·exact h.elim
  ·rename_i s hs;have hw:=qv (a:=a) i hs;cases k:zx E s with
   |true=>
     rw[k] at h;simp only[cond_true] at h;have d:∃vs,a.tmps[s]?=some (.tuple vs):=by
      unfold zx at k;split at k
      ·rename_i s' vs t;obtain⟨h1,c⟩:=fP t;have:=hH.all _ h1;simp only at c;subst c;exact⟨vs,this⟩
      ·cases k
     obtain⟨vs,d⟩:=d;unfold fH;rw[if_neg (λn=>by have:=hw.1 n;rw[d] at this;simp at this)];obtain⟨f,h1,c⟩:=eX hH h (u:=undef) (λ_ _ _ _=>rfl) (λ_=>rfl);exact r f undef w h1 (.refl w) m c
   |false=>
   rw[k] at h;simp only[cond_false] at h;cases z:isLit E s with
   |true=>
     rw[z] at h;simp only[cond_true] at h;split at h
     ·rename_i s' b t;obtain⟨h1,c⟩:=fP t;have d:a.tmps[s]?=some (.bool b):=by have:=hH.all _ h1;simp only at c;subst c;exact this
      cases b with
      |true=>exact known i hs hH d h
      |false=>exact known i hs hH d h
     ·exact h.elim
   |false=>
   rw[z] at h;simp only[cond_false] at h;split at h
   ·rename_i v d;unfold fH;split
    ·rename_i g;have hsl:=hw.1 g;obtain⟨f,h1,c⟩:=eX hH h (u:=v) (λ_ _ _ _=>rfl) (λ_=>rfl) (hu2:=λs' R e n=>by obtain⟨rfl,rfl⟩:=(V7 (OS e));exact absurd hsl n);exact kH m (kx hH (by intro p S;rw[OH.1 S];exact hsl) d) (r f v w h1 (.refl w) m c)
    ·rename_i g;obtain⟨f,h1,c⟩:=eX hH h (u:=undef) (λs' R e n=>by obtain⟨rfl,rfl⟩:=(V7 (OS e));exact absurd (hw.2 n) g) (λe=>by cases e) (hu2:=λ_ _ _ _=>rfl);exact r f undef w h1 (.refl w) m c
   ·split at h
    ·rename_i s' b t;obtain⟨h1,c⟩:=fP t;have d:a.tmps[s]?=some (.bool b):=by have:=hH.all _ h1;simp only at c;subst c;exact this
     cases b with
     |true=>exact known i hs hH d h
     |false=>exact known i hs hH d h
    ·rename_i s' b s2 G t;split at h
     ·rename_i Y A H;obtain⟨h1,c⟩:=fP t;obtain⟨T,J⟩:=fP H;have l:a.tmps[s2]?=some (.bool A):=by have:=hH.all _ T;simp only at J;subst J;exact this
      obtain⟨U,V⟩:=Fc.1 h;by_cases e:A=G
      ·subst e;have B:=U (by simp);have d:a.tmps[s]?=some (.bool b):=by
        have:=hH.all _ h1;simp only at c;subst c;exact this.1 l
       cases b with
       |true=>exact known i hs (hH.lu l) d B
       |false=>exact known i hs (hH.lu l) d B
      ·have B:=V (by simpa using e);have e2:A=!G:=by cases A<;>cases G<;>simp_all
       have hu:a.tmps[s]?=some undef:=by
        have:=hH.all _ h1;simp only at c;subst c;exact this.2 (by rw[l];intro q;injection q with q;injection q with q;exact e q)
       have I:¬P8 o (yielded ops a.tmps)=true:=λn=>by
        have:=hw.1 n;rw[hu] at this;unfold undef at this;cases this
       unfold fH;rw[if_neg I];obtain⟨f,W,X⟩:=eX (hH.wI (by rw[l,e2])) B (u:=undef) (λ_ _ _ _=>rfl) (λ_=>rfl);exact r f undef w W (.refl w) m X
     ·exact h.elim
    ·exact h.elim
def gO (P:Program)(N:Nat)(L:List Nat)(ops:Array Oper)(M:Option (aa->Prop)):List Oper->List bK->aa->(List bK->aa->Prop)->Prop
 |[],E,H,K=>K E H
 |o::l,E,H,K=>Mx P N L ops M o E H λa H'=>gO P N L ops M l a H' K
def zV (l:List Oper):List Nat:=l.filterMap (·.dst)
theorem cK (b:lX P){ops:Array Oper}{M:Option (aa->Prop)}{K:List bK->aa->Prop}{K':Act->World->Prop}{W:List Nat}{a0:Act}{w0:World}
  (k:∀c e w',Holds N D c e->gV W a0 e->Alike w0 w'->iU M w'.heap->K c w'.heap->K' e w'):
  ∀(l:List Oper),(∀o∈l,∀d,o.dst=some d->W.contains d=true)->∀(E:List bK) (a:Act) (w:World),Holds N D E a->gV W a0 a->Alike w0 w->iU M w.heap->gO P N L ops M l E w.heap K->gu P M L ops K' l a w
 |[],_,E,a,w,hH,f,g,i,h=>k E a w hH f g i h
 |o::l,m,_,_,_,hH,f,g,i,h=>
   Dl b hH i (λc _ w' h1 n p q=>cK b k l (λr j=>m r (OM _ j)) c _ w' h1
    (f.trans (gV.put (m o OO))) (g.trans n) p q) h
def Mv (P:Program)(N:Nat)(ops:Array Oper)(draw:Bool)(E:List bK)(H:aa)(K:List bK->aa->Prop):Prop:=
 bif draw then (bif dG P [] 0 ops then gO P N [] ops none ops.toList E H K
  else let L:=qw P ops
   let k:=vJ P L ops
   bif dG P L k ops then (bif OQ k 0 then gO P N L ops none ops.toList E H K else ∃G:aa->Prop,G H/\gO P N L ops (some G) (ops.toList.take k) E H λa H'=>gO P N L ops none (ops.toList.drop k) a H' K) else False)
 else gO P N [] ops none ops.toList E H K
theorem Cq (e:lX P)(hm:P.follows .mixedOrders=true){rn:Option Nat}{id:Nat}{ops:Array Oper}{draw:Bool}{E:List bK}{a:Act}{w:World}{K:List bK->aa->Prop}{Q:Exit->Act->World->Prop}
  (hH:Holds N D E a) (r:∀c b w',Holds N D c b->gV (zV ops.toList) a b->Alike w w'->K c w'.heap->Q .normal b w')
  (h:Mv P N ops draw E w.heap K):(Sz id ops draw).wpIn (FW rn) 0 P Q a w:=by
 have n:∀o∈ops.toList,∀d,o.dst=some d->(zV ops.toList).contains d=true:=by
  intro o p d hd;rw[R7];exact UT.2 ⟨o,p,hd⟩
 unfold Mv at h;cases draw with
 |false=>
   exact ur (cK (M:=none) e (λc b w' f g j _ l=>r c b w' f g j l) ops.toList n E a w hH (.refl _ _) (.refl _) trivial h)
 |true=>
   simp only[cond_true] at h;have hd:Alike w {w with drawn:=w.drawn+1}:=.of_le rfl (Ph _);cases h1:dG P [] 0 ops with
   |true=>
     rw[h1] at h;refine iE (M:=none) (k:=0) hm (λi hi=>by omega) h1 trivial ?_;show gu P none [] ops _ (ops.toList.take 0) _ _;rw[UP,Uc];exact cK (M:=none) e (λc b w' f g j _ l=>r c b w' f g j l) ops.toList n E a _ hH (.refl _ _) hd trivial h
   |false=>
     rw[h1] at h;simp only[cond_false] at h;cases q:dG P (qw P ops) (vJ P (qw P ops) ops) ops with
     |true=>
       rw[q] at h;simp only[cond_true] at h;cases m:OQ (vJ P (qw P ops) ops) 0 with
       |true=>
         rw[m] at h;have t:=OD m;rw[t] at q;refine iE (M:=none) (k:=0) hm (λi hi=>by omega) q trivial ?_;show gu P none (qw P ops) ops _ (ops.toList.take 0) _ _;rw[UP,Uc];exact cK (M:=none) e (λc b w' f g j _ l=>r c b w' f g j l) ops.toList n E a _ hH (.refl _ _) hd trivial h
       |false=>
       rw[m] at h;obtain⟨G,s,u⟩:=h;refine iE (M:=some G) hm (λ_ _=>rfl) q s (cK e (λc b w' f g j _ l=>?_) (ops.toList.take _) (λo p=>n o (Pu p)) E a _ hH (.refl _ _) hd s u);exact cK (M:=none) e (λc b w' f g j _ l=>r c b w' f g j l) (ops.toList.drop _) (λo p=>n o (Q0 p)) c b w' f g j trivial l
     |false=>
       rw[q] at h;simp only[cond_false] at h
def k9 (ops:Array Oper)(l:List Nat):List Oper:=l.flatMap λi=>(ops.toList.drop i).take 1
def Lx (P:Program)(N:Nat)(L:List Nat)(ops:Array Oper)(M:Option (aa->Prop))(f c:Nat):List Nat->List bK->aa->(List bK->aa->Prop)->Prop
 |[],E,H,K=>gO P N L ops M (k9 ops [f]) E H K
 |i::l,E,H,K=>bif Nat.ble c i then gO P N L ops M (k9 ops (f::i::l)) E H K else
   bif hZ P L ops f c i then gO P N L ops M (k9 ops (f::i::l)) E H K/\gO P N L ops M (k9 ops [i]) E H (λa H'=>Lx P N L ops M f c l a H' K)
   else gO P N L ops M (k9 ops [i]) E H λa H'=>Lx P N L ops M f c l a H' K
def Li (f c:Nat)(P:Program)(N:Nat)(ops:Array Oper)(E:List bK)(H:aa)(K:List bK->aa->Prop):Prop:=
 let L:=qw P ops
 bif tO P L ops f c (du ops.toList []) then ∃G:aa->Prop,G H/\Lx P N L ops (some G) f c (jH ops.size f) E H K else False
theorem lE {M:Option (aa->Prop)}{L:List Nat}{ops:Array Oper}{K:Act->World->Prop}:∀(l:List Nat),(∀i∈l,i<ops.size)->eZ P M ops.size L ops K l=gu P M L ops K (k9 ops l)
 |[],_=>rfl
 |i::l,h=>by
   have hi:=h i OO;have b:=lE (M:=M) (L:=L) (K:=K) l λk hk=>h k (OM _ hk);have e:(ops.toList.drop i).take 1=[ops[i]]:=by
    rw[List.drop_eq_getElem_cons (by simpa using hi)];simp
   have e2:k9 ops (i::l)=ops[i]::k9 ops l:=by
    unfold k9;rw[List.flatMap_cons,e];rfl
   have c:pq M ops.size i=M:=by unfold pq;rw[fY.2 hi];rfl
   rw[e2];funext a w;simp only[eZ,gu,bT,Array.getElem?_eq_getElem hi,c,b]
theorem DA (b:lX P){L:List Nat}{ops:Array Oper}{M:Option (aa->Prop)}{f c:Nat}{K:List bK->aa->Prop}{K':Act->World->Prop}{W:List Nat}{a0:Act}{w0:World}
  (t:∀g j w',Holds N D g j->gV W a0 j->Alike w0 w'->iU M w'.heap->K g w'.heap->K' j w') (u:f<ops.size) (y:∀o∈ops.toList,∀d,o.dst=some d->W.contains d=true):
  ∀(l:List Nat),(∀i∈l,i<ops.size)->∀(E:List bK) (a:Act) (w:World),Holds N D E a->gV W a0 a->Alike w0 w->iU M w.heap->Lx P N L ops M f c l E w.heap K->jv P M L ops f c K' l a w:=by
 have e:∀l:List Nat,∀o∈k9 ops l,∀d,o.dst=some d->W.contains d=true:=λl o v=>by
  unfold k9 at v;obtain⟨i,_,hi⟩:=PX.1 v;exact y o (Q0 (Pu hi))
 intro l
 induction l with
 |nil=>
   intro _ E a w hH m n p h;unfold jv;rw[lE [f] λi hi=>by rw[OH] at hi;subst hi;exact u];exact cK b t _ (e _) E a w hH m n p h
 |cons i l z=>
   intro hl E a w hH m n p h;have hi:=hl i OO;have r:=z λk hk=>hl k (OM _ hk);have full:gO P N L ops M (k9 ops (f::i::l)) E w.heap K->eZ P M ops.size L ops K' (f::i::l) a w:=λs=>by
    rw[lE (f::i::l) λk hk=>by
     rcases OG.1 hk with q|q
     ·subst q;exact u
     ·exact hl k q]
    exact cK b t _ (e _) E a w hH m n p s
   have one:gO P N L ops M (k9 ops [i]) E w.heap (λg H'=>Lx P N L ops M f c l g H' K)->bT P M ops.size L ops i (jv P M L ops f c K' l) a w:=λs=>by
    have:=cK (K':=jv P M L ops f c K' l) b (λg j w' h1 A B C F=>r g j w' h1 A B C F) _ (e [i]) E a w hH m n p s;rw[<-lE [i] λk hk=>by rw[OH] at hk;subst hk;exact hi] at this;exact this
   unfold Lx at h;unfold jv;cases x:Nat.ble c i with
   |true=>rw[x] at h;exact full h
   |false=>
     rw[x] at h;cases hs:hZ P L ops f c i with
     |true=>rw[hs] at h;exact⟨full h.1,one h.2⟩
     |false=>rw[hs] at h;exact one h
theorem zK (j:lX P)(hm:P.follows .mixedOrders=true){f c:Nat}{rn:Option Nat}{id:Nat}{ops:Array Oper}{E:List bK}{a:Act}{w:World}{K:List bK->aa->Prop}{Q:Exit->Act->World->Prop}
  (hH:Holds N D E a) (m:∀e b w',Holds N D e b->gV (zV ops.toList) a b->Alike w w'->K e w'.heap->Q .normal b w')
  (h:Li f c P N ops E w.heap K):(Sz id ops true).wpIn (FW rn) 0 P Q a w:=by
 have n:∀o∈ops.toList,∀d,o.dst=some d->(zV ops.toList).contains d=true:=by
  intro o p d hd;rw[R7];exact UT.2 ⟨o,p,hd⟩
 have hd:Alike w {w with drawn:=w.drawn+1}:=.of_le rfl (Ph _);unfold Li at h;simp only at h;cases g:tO P (qw P ops) ops f c (du ops.toList []) with
 |false=>rw[g] at h;exact h.elim
 |true=>
   rw[g] at h;obtain⟨G,k,q⟩:=h;have l:=qF g;exact qV (M:=some G) hm rfl g k (DA j (λe b w' r s t _ u=>m e b w' r s t u) (Nat.lt_trans l.fc l.cn) n _ (λi hi=>O1.1 (OY.1 hi).1) E a _ hH (.refl _ _) hd k q)
def Ly (P:Program)(N:Nat)(L:List Nat)(ops:Array Oper)(M:Option (aa->Prop))(K:List bK->aa->Prop):Nat->List Nat->List bK->aa->Prop
 |0,_,E,H=>K E H
 |n+1,l,E,H=>(match nF (Dd P L ops (du ops.toList []) l) l with
   |some j=>gO P N L ops M (k9 ops [j]) E H λa H'=>Ly P N L ops M K n (fk l j) a H'
   |none=>wi (iQ (du ops.toList []) l) (λj=>gO P N L ops M (k9 ops [j]) E H λa H'=>Ly P N L ops M K n (fk l j) a H') l)
def KE (ex:List Nat)(P:Program)(N:Nat)(ops:Array Oper)(E:List bK)(H:aa)(K:List bK->aa->Prop):Prop:=
 bif LU ops then ∃G:aa->Prop,G H/\Ly P N (ex++qw P ops) ops (some G) K ops.size (List.range ops.size) E H else False
theorem CN (e:lX P){L:List Nat}{ops:Array Oper}{M:Option (aa->Prop)}{K:List bK->aa->Prop}{K':Act->World->Prop}{W:List Nat}{a0:Act}{w0:World}
  (t:∀b c w',Holds N D b c->gV W a0 c->Alike w0 w'->iU M w'.heap->K b w'.heap->K' c w') (u:∀o∈ops.toList,∀d,o.dst=some d->W.contains d=true):
  ∀(n:Nat) (l:List Nat),(∀i∈l,i<ops.size)->∀(E:List bK) (a:Act) (w:World),Holds N D E a->gV W a0 a->Alike w0 w->iU M w.heap->Ly P N L ops M K n l E w.heap->oZ P M L ops K' n l a w:=by
 have f:∀l:List Nat,∀o∈k9 ops l,∀d,o.dst=some d->W.contains d=true:=λl o s=>by
  unfold k9 at s;obtain⟨i,_,hi⟩:=PX.1 s;exact u o (Q0 (Pu hi))
 intro n
 induction n with
 |zero=>
   intro l _ E a w hH g m p h;exact t E a w hH g m p h
 |succ n v=>
   intro l hl E a w hH g m p h;have one:∀j∈l,gO P N L ops M (k9 ops [j]) E w.heap (λb H'=>Ly P N L ops M K n (fk l j) b H')->bT P M ops.size L ops j (oZ P M L ops K' n (fk l j)) a w:=λj q x=>by
    have:=cK (K':=oZ P M L ops K' n (fk l j)) e (λb c w' h1 y z A B=>v (fk l j) (λi hi=>hl i (fK.1 hi).1) b c w' h1 y z A B) _ (f [j]) E a w hH g m p x;rw[<-lE [j] λk hk=>by rw[OH] at hk;subst hk;exact hl k q] at this;exact this
   unfold Ly at h;unfold oZ;cases r:nF (Dd P L ops (du ops.toList []) l) l with
   |some j=>rw[r] at h;exact one j (ky r).1 h
   |none=>rw[r] at h;exact qn (λj q=>one j q) h
theorem AW (e:lX P)(hm:P.follows .mixedOrders=true){ex:List Nat}{rn:Option Nat}{id:Nat}{ops:Array Oper}{E:List bK}{a:Act}{w:World}{K:List bK->aa->Prop}{Q:Exit->Act->World->Prop}
  (hH:Holds N D E a) (j:∀c b w',Holds N D c b->gV (zV ops.toList) a b->Alike w w'->K c w'.heap->Q .normal b w')
  (h:KE ex P N ops E w.heap K):(Sz id ops true).wpIn (FW rn) 0 P Q a w:=by
 have k:∀o∈ops.toList,∀d,o.dst=some d->(zV ops.toList).contains d=true:=by
  intro o l d hd;rw[R7];exact UT.2 ⟨o,l,hd⟩
 have hd:Alike w {w with drawn:=w.drawn+1}:=.of_le rfl (Ph _);unfold KE at h;cases f:LU ops with
 |false=>rw[f] at h;exact h.elim
 |true=>
   rw[f] at h;obtain⟨G,g,m⟩:=h;exact pb (M:=some G) hm rfl f g (CN e (λc b w' n p q _ r=>j c b w' n p q r) k _ _ (λi hi=>O1.1 hi) E a _ hH (.refl _ _) hd g m)
end
end Go.Proofs.YtmkbhnholcaghaaGreatDoor
