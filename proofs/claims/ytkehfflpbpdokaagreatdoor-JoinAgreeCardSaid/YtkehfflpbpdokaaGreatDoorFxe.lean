/-
 Ground, fifth text: what the walk of a whole function asks ('vcF'), and that it is enough ('spec_of_vc').
-/
import Derived.Test.YtkehfflpbpdokaaGreatDoorFxd
import Derived.Test.YtkehfflpbpdokaaGreatDoorFxv
open Array renaming getElem?_setIfInBounds_ne->RT
open Bool renaming and_eq_true->Qz,not_eq_true'->RR
open Go.Act renaming put->WR
open Go.Code renaming region->Uh
open Go.Region renaming wanted->RZ
open List renaming mem_append->Qj,mem_cons_self->Qp,mem_cons->Qs,mem_cons_of_mem->Qu,mem_filter->QL,mem_singleton->QV,mem_range->Q7,mem_of_mem_take->Rl,mem_of_mem_drop->Rq,mem_flatMap->Rs,any_eq_true->Sv,mem_filterMap->UA,take_zero->Vm,contains_iff_mem->VJ,drop_zero->V9
open Nat renaming eq_of_beq_eq_true->QH,beq->QQ,le_succ->Ri
open Option.some renaming inj->Qq
open Prod.mk renaming inj->Xx
namespace Go.Proofs.YtkehfflpbpdokaaGreatDoor
structure bV where
 s:Nat
 v:Value
 g:Option (Nat×Bool)
def find:List bV->Nat->Option bV
 |[],_=>none
 |e::r,t=>bif QQ e.s t then some e else find r t
def KT (a b:Nat×Bool):Bool:=QQ a.1 b.1&&(a.2==b.2)
def O1 (gs:List (Nat×Bool)):Option (Nat×Bool)->Bool
 |none=>true
 |some p=>gs.any (KT p)
def Eb (E:List bV)(gs:List (Nat×Bool)):Operand->Option Value
 |.tmp t=>(match find E t with|some e=>(bif O1 gs e.g then some e.v else none)|none=>none)
 |.const v=>some v
 |.global g=>some (.pointer (some ⟨g,0,none⟩))
 |.func f=>some (.func (.func f) #[] #[])
def IL (E:List bV)(gs:List (Nat×Bool))(x:Operand):Value:=(Eb E gs x).getD undef
def sU (E:List bV)(gs:List (Nat×Bool))(op:Op):Bool:=op.operands.toList.all λx=>(Eb E gs x).isSome
def gi (a:Act)(e:bV):Prop:=
 match e.g with
 |none=>a.tmps[e.s]?=some e.v
 |some (s,b)=>(a.tmps[s]?=some (.bool b)->a.tmps[e.s]?=some e.v)/\(a.tmps[s]?≠some (.bool b)->a.tmps[e.s]?=some undef)
structure Holds (N:Nat)(D:List Deferred)(E:List bV)(a:Act):Prop where
 size:a.tmps.size=N
 defers:a.defers=D
 all:∀e∈E,gi a e
def L8 (d:Nat)(e:bV):Bool:=!(QQ e.s d)&&(match e.g with|some (s,_)=>!(QQ s d)|none=>true)
def GN (d:Nat)(g:Option (Nat×Bool)):Bool:=match g with|some p=>!(QQ p.1 d)|none=>true
def vn (N:Nat)(E:List bV)(dst:Option Nat)(v:Value)(g:Option (Nat×Bool))(K:List bV->Prop):Prop:=
 match dst with
 |none=>K E
 |some d=>bif Nat.blt d N&&GN d g then K (⟨d,v,g⟩::E.filter (L8 d)) else False
def sd (s:Nat)(b:Bool):List bV->List bV
 |[]=>[]
 |e::r=>bif QQ e.s s then ⟨s,.bool b,none⟩::sd s b r else (match e.g with
   |none=>e::sd s b r
   |some p=>bif KT p (s,b) then ⟨e.s,e.v,none⟩::sd s b r else bif QQ p.1 s then sd s b r else e::sd s b r)
def iN (W:List Nat)(a b:Act):Prop:=∀t,W.contains t=false->b.tmps[t]?=a.tmps[t]?
theorem iN.refl (W:List Nat)(a:Act):iN W a a:=λ_ _=>rfl
theorem iN.trans {W:List Nat}{a b c:Act}(h:iN W a b)(k:iN W b c):iN W a c:=λt d=>(k t d).trans (h t d)
theorem iN.mono {W c:List Nat}{a b:Act}(h:iN W a b)(hs:∀t,c.contains t=false->W.contains t=false):iN c a b:=λt d=>h t (hs t d)
theorem iN.put {W:List Nat}{a:Act}{dst:Option Nat}{v:Value}(h:∀d,dst=some d->W.contains d=true):iN W a (a.put dst v):=by
 intro t c;cases dst with
 |none=>rfl
 |some d=>
   have b:d≠t:=by intro e;subst e;rw[h d rfl] at c;cases c
   simp[WR,RT b]
theorem gK:∀{E:List bV} {t:Nat} {e:bV},find E t=some e->e∈E/\e.s=t
 |[],_,_,h=>by cases h
 |x::r,t,e,h=>by
   unfold find at h;cases a:QQ x.s t with
   |true=>rw[a] at h;have b:x=e:=Qq h;subst b;exact⟨Qp,QH a⟩
   |false=>rw[a] at h;have:=gK (E:=r) h;exact⟨Qu _ this.1,this.2⟩
theorem pV {a b:Nat×Bool}(h:KT a b=true):a=b:=by
 unfold KT at h;simp only[Qz,beq_iff_eq] at h;exact Prod.ext (QH h.1) h.2
section
variable {P:Program}{N:Nat}{D:List Deferred}{L:List Nat}
theorem iA {E:List bV}{gs:List (Nat×Bool)}{a:Act}{x:Operand}{v:Value}(hH:Holds N D E a)(i:∀p∈gs,a.tmps[p.1]?=some (.bool p.2))(h:Eb E gs x=some v):a.eval x=v:=by
 cases x with
 |tmp t=>
   simp only[Eb] at h;split at h
   ·rename_i e he;obtain⟨h1,j⟩:=gK he;cases d:O1 gs e.g with
    |false=>rw[d] at h;cases h
    |true=>
      rw[d] at h;have k:e.v=v:=Qq h;have b:=hH.all e h1;have:a.tmps[e.s]?=some e.v:=by
       unfold gi at b;cases c:e.g with
       |none=>rw[c] at b;exact b
       |some p=>
         rw[c] at b d;obtain⟨q,l,heq⟩:=Sv.1 d;have:=pV heq;subst this;exact b.1 (i _ l)
      rw[j] at this;simp only[Act.eval,Array.getD_eq_getD_getElem?,this,k,Option.getD_some]
   ·cases h
 |const u=>exact Qq h
 |global g=>exact Qq h
 |func f=>exact Qq h
theorem qC {E:List bV}{gs:List (Nat×Bool)}{a:Act}{o:Oper}(hH:Holds N D E a)(d:∀p∈gs,a.tmps[p.1]?=some (.bool p.2))(h:sU E gs o.op=true)
  (hs:∀cs b,o.op≠.select cs b):execOp a.eval o=execOp (IL E gs) o:=by
 refine execOp_congr o hs λx e=>?_;have:=List.all_eq_true.1 h x (by simpa using e);obtain⟨v,c⟩:=Option.isSome_iff_exists.1 this;rw[iA hH d c];unfold IL;rw[c];rfl
theorem Et {E:List bV}{gs:List (Nat×Bool)}(v:Value):IL E gs (.const v)=v:=rfl
theorem kX {a:Act}{d:Nat}{v:Value}(h:d<a.tmps.size):(a.put (some d) v).tmps[d]?=some v:=by
 simp[WR,h]
theorem nU {a:Act}{d t:Nat}{v:Value}(h:d≠t):(a.put (some d) v).tmps[t]?=a.tmps[t]?:=by
 simp[WR,RT h]
theorem HE {a:Act}{dst:Option Nat}{v:Value}:(a.put dst v).tmps.size=a.tmps.size:=by
 cases dst<;>simp[WR]
theorem put_defers {a:Act}{dst:Option Nat}{v:Value}:(a.put dst v).defers=a.defers:=by
 cases dst<;>simp[WR]
theorem fU {E:List bV}{dst:Option Nat}{v:Value}{g:Option (Nat×Bool)}{K:List bV->Prop}{a:Act}(hH:Holds N D E a)(h:vn N E dst v g K)
  {u:Value} (hu:∀s b,g=some (s,b)->a.tmps[s]?=some (.bool b)->u=v) (m:g=none->u=v) (hu2:∀s b,g=some (s,b)->a.tmps[s]?≠some (.bool b)->u=undef:=by intro _ _ e;cases e):∃E',Holds N D E' (a.put dst u)/\K E':=by
 unfold vn at h;cases dst with
 |none=>exact⟨E,hH,h⟩
 |some d=>
   simp only at h;cases j:(Nat.blt d N&&GN d g) with
   |false=>rw[j] at h;exact h.elim
   |true=>
     rw[j] at h;simp only[Qz] at j;have hd:d<a.tmps.size:=by rw[hH.size];exact Nat.le_of_ble_eq_true j.1
     refine⟨_,⟨HE.trans hH.size,put_defers.trans hH.defers,?_⟩,h⟩;intro e he;rcases Qs.1 he with he|he
     ·subst he;unfold gi;cases g with
      |none=>exact(kX hd).trans (by rw[m rfl])
      |some p=>
        obtain⟨s,b⟩:=p;have k:s≠d:=by
         intro e;subst e;have:=j.2;simp[GN] at this
        refine⟨λhs=>?_,λhs=>?_⟩
        ·rw[nU (Ne.symm k)] at hs;exact(kX hd).trans (by rw[hu s b rfl hs])
        ·rw[nU (Ne.symm k)] at hs;exact(kX hd).trans (by rw[hu2 s b rfl hs])
     ·obtain⟨h1,l⟩:=QL.1 he;have c:=hH.all e h1;unfold L8 at l;simp only[Qz,RR] at l;have i:d≠e.s:=by
       intro n;have:=l.1;rw[<-n] at this;simp at this
      unfold gi at c ⊢;cases o:e.g with
      |none=>rw[o] at c;exact(nU i).trans c
      |some p=>
        obtain⟨s,b⟩:=p;rw[o] at c l;have f:d≠s:=by
         intro n;have:=l.2;rw[<-n] at this;simp at this
        refine⟨λhs=>?_,λhs=>?_⟩
        ·rw[nU f] at hs;exact(nU i).trans (c.1 hs)
        ·rw[nU f] at hs;exact(nU i).trans (c.2 hs)
theorem tQ {s:Nat}{b:Bool}{a:Act}(hs:a.tmps[s]?=some (.bool b)):∀{E:List bV},(∀e∈E,gi a e)->∀e∈sd s b E,gi a e
 |[],_,e,he=>by simp[sd] at he
 |x::r,h,e,he=>by
   have hr:=tQ hs (E:=r) (λe he=>h e (Qu _ he));have d:=h x Qp;unfold sd at he;cases i:QQ x.s s with
   |true=>
     rw[i] at he;rcases Qs.1 he with he|he
     ·subst he;exact hs
     ·exact hr e he
   |false=>
     rw[i] at he;simp only[cond_false] at he;unfold gi at d;cases g:x.g with
     |none=>
       rw[g] at he d;rcases Qs.1 he with he|he
       ·subst he;unfold gi;rw[g];exact d
       ·exact hr e he
     |some p=>
       rw[g] at he d;simp only at he;cases c:KT p (s,b) with
       |true=>
         rw[c] at he;have:=pV c;subst this;rcases Qs.1 he with he|he
         ·subst he;exact d.1 hs
         ·exact hr e he
       |false=>
         rw[c] at he;simp only[cond_false] at he;cases f:QQ p.1 s with
         |true=>rw[f] at he;exact hr e he
         |false=>
           rw[f] at he;rcases Qs.1 he with he|he
           ·subst he;unfold gi;rw[g];exact d
           ·exact hr e he
theorem Holds.sd {E:List bV}{a:Act}{s:Nat}{b:Bool}(hH:Holds N D E a)(hs:a.tmps[s]?=some (.bool b)):Holds N D (sd s b E) a:=
 ⟨hH.size,hH.defers,tQ hs hH.all⟩
def my (s:Nat)(b:Bool)(E:List bV):List bV:=sd s b E++[⟨s,.bool b,some (s,b)⟩]
theorem Holds.my {E:List bV}{a:Act}{s:Nat}{b:Bool}(hH:Holds N D E a)(hs:a.tmps[s]?=some (.bool b)):Holds N D (my s b E) a:=
 ⟨hH.size,hH.defers,λe he=>by
  rcases Qj.1 he with h|h
  ·exact(hH.sd hs).all e h
  ·rw[QV.1 h];exact⟨λh=>h,λh=>absurd hs h⟩⟩
def oO (s:Nat)(b:Bool):List bV->List bV
 |[]=>[]
 |e::r=>bif QQ e.s s then ⟨s,.bool b,none⟩::oO s b r else (match e.g with
   |none=>e::oO s b r
   |some p=>bif KT p (s,b) then ⟨e.s,e.v,none⟩::oO s b r else bif QQ p.1 s then ⟨e.s,undef,none⟩::oO s b r else e::oO s b r)
theorem qZ {s:Nat}{b:Bool}{a:Act}(hs:a.tmps[s]?=some (.bool b)):∀{E:List bV},(∀e∈E,gi a e)->∀e∈oO s b E,gi a e
 |[],_,e,he=>by simp[oO] at he
 |x::r,h,e,he=>by
   have hr:=qZ hs (E:=r) (λe he=>h e (Qu _ he));have d:=h x Qp;unfold oO at he;cases i:QQ x.s s with
   |true=>
     rw[i] at he;rcases Qs.1 he with he|he
     ·subst he;exact hs
     ·exact hr e he
   |false=>
     rw[i] at he;simp only[cond_false] at he;unfold gi at d;cases g:x.g with
     |none=>
       rw[g] at he d;rcases Qs.1 he with he|he
       ·subst he;unfold gi;rw[g];exact d
       ·exact hr e he
     |some p=>
       rw[g] at he d;simp only at he;cases c:KT p (s,b) with
       |true=>
         rw[c] at he;have:=pV c;subst this;rcases Qs.1 he with he|he
         ·subst he;exact d.1 hs
         ·exact hr e he
       |false=>
         rw[c] at he;simp only[cond_false] at he;cases f:QQ p.1 s with
         |true=>
           rw[f] at he;have j:=QH f;obtain⟨p1,p2⟩:=p;simp only at j d;subst j;rcases Qs.1 he with he|he
           ·subst he;refine d.2 λq=>?_;rw[hs] at q;have k:b=p2:=by injection q with q;injection q
            subst k;unfold KT at c;simp at c
           ·exact hr e he
         |false=>
           rw[f] at he;rcases Qs.1 he with he|he
           ·subst he;unfold gi;rw[g];exact d
           ·exact hr e he
def xQ (s:Nat)(b:Bool)(E:List bV):List bV:=oO s b E++[⟨s,.bool b,some (s,b)⟩]
theorem Holds.xQ {E:List bV}{a:Act}{s:Nat}{b:Bool}(hH:Holds N D E a)(hs:a.tmps[s]?=some (.bool b)):Holds N D (xQ s b E) a:=
 ⟨hH.size,hH.defers,λe he=>by
  rcases Qj.1 he with h|h
  ·exact qZ hs hH.all e h
  ·rw[QV.1 h];exact⟨λh=>h,λh=>absurd hs h⟩⟩
def isLit (E:List bV)(s:Nat):Bool:=E.any λe=>QQ e.s s&&(match e.g with|some p=>QQ p.1 s|none=>false)
def xi (gs:List (Nat×Bool))(c:Operand)(b:Bool):List (Nat×Bool):=match c with|.tmp t=>(t,b)::gs|_=>gs
def Pd (M:Option (aa->Prop))(H:aa)(A:Prop):Prop:=match M with|none=>A|some G=>G H/\A
def o0:Op->Bool
 |.select ..=>true
 |_=>false
def mO (P:Program)(E:List bV)(gs:List (Nat×Bool))(o:Oper):Option Value:=
 match o.op with
 |.pick c a b=>(match Eb E gs c,Eb E (xi gs c true) a,Eb E (xi gs c false) b with
   |some (.bool t),some d,some e=>some (rL t a b d e)
   |_,_,_=>none)
 |op=>bif CD P op&&(sU E gs op&&!(o0 op)) then evalOp P o (IL E gs) else none
def yT (P:Program)(L:List Nat)(E:List bV)(gs:List (Nat×Bool))(o:Oper)(M:Option (aa->Prop))(H:aa)(K:Value->aa->Prop):Prop:=
 match mO P E gs o with
 |some v=>K v H
 |none=>bif sU E gs o.op&&!(o0 o.op) then
   (match jP P o.op with
    |0=>xY P o.op (IL E gs) λv=>K v H
    |1=>sy P o.op o.type (IL E gs) (bif On L o then none else M) H λv=>K v H
    |_=>BI P o.op o.type (IL E gs) H λv H'=>Pd M H' (K v H'))
   else False
theorem kQ {E:List bV}{gs:List (Nat×Bool)}{o:Oper}{a:Act}{v:Value}(hH:Holds N D E a)(k:∀p∈gs,a.tmps[p.1]?=some (.bool p.2))
  (h:mO P E gs o=some v) (w':World):(execOp a.eval o).run P w'=.ok (.value v) w':=by
 unfold mO at h;split at h
 ·rename_i c x y u;split at h
  ·rename_i t l m g z A;have w:rL t x y l m=v:=Qq h;subst w;have B:=iA hH k g;have key:rL t x y l m=if t then a.eval x else a.eval y:=by
    have n:∀b,t=b->∀p∈xi gs c b,a.tmps[p.1]?=some (.bool p.2):=by
     intro b i p j;cases c with
     |tmp s=>
       simp only[xi] at j;rcases Qs.1 j with j|j
       ·subst j;simp only[Eb] at g;split at g
        ·rename_i e he;obtain⟨h1,C⟩:=gK he;cases f:O1 gs e.g with
         |false=>rw[f] at g;cases g
         |true=>
           rw[f] at g;have w:e.v=.bool t:=Qq g;have d:=hH.all e h1;have:a.tmps[e.s]?=some e.v:=by
            unfold gi at d;cases r:e.g with
            |none=>rw[r] at d;exact d
            |some p=>
              rw[r] at d f;obtain⟨q,F,heq⟩:=Sv.1 f;have:=pV heq;subst this;exact d.1 (k _ F)
           rw[C,w,i] at this;exact this
        ·cases g
       ·exact k p j
     |_=>exact k p j
    -- the constant's own case
    have cx:∀v,x=.const v->l=v:=λv e=>by subst e;exact(Qq z).symm
    have cy:∀v,y=.const v->m=v:=λv e=>by subst e;exact(Qq A).symm
    have G:rL t x y l m=if t then l else m:=by
     unfold rL;split
     ·rename_i p q;split
      ·have:=cy _ rfl;have e2:q=false:=by simpa using this
       subst e2;cases t<;>simp
      ·split
       ·have:=cx _ rfl;have e2:p=true:=by simpa using this
        subst e2;cases t<;>simp
       ·cases t<;>simp
     ·cases t<;>simp
    rw[G];cases t with
    |true=>simp only[if_true];rw[iA hH (n true rfl) z]
    |false=>simp only[Bool.false_eq_true,if_false];rw[iA hH (n false rfl) A]
   simp only[execOp,u,B,asBool,Sem.run_bind,Sem.run_pure,Result.andThen_ok,key]
  ·cases h
 ·cases i:(CD P o.op&&(sU E gs o.op&&!(o0 o.op))) with
  |false=>rw[i] at h;cases h
  |true=>
    rw[i] at h;simp only[Qz,RR] at i;have hs:∀cs b,o.op≠.select cs b:=λcs b e=>by rw[e] at i;cases i.2.2
    rw[qC hH k i.2.1 hs];exact BF h w'
theorem kL {c:Nat}{M:Option (aa->Prop)}{r:World->Result Next}{v:Value}{R:Value->World->Prop}{w:World}(b:jK M w.heap)(a:∀w',r w'=.ok (.value v) w')(hr:R v w):gE P M c r R w:=by
 match c with
 |0=>exact⟨v,a,hr⟩
 |1=>exact⟨v,λw' _=>a w',hr⟩
 |_+2=>show p9 P (r w) _;rw[a w];exact⟨b,hr⟩
theorem tf {L:List Nat}{o:Oper}{c:Nat}(h:jP P o.op=c)(a:c≠1):dY P L o=c:=by
 unfold dY;have:QQ (jP P o.op) 1=false:=by
  cases b:QQ (jP P o.op) 1 with
  |false=>rfl
  |true=>exact absurd (h.symm.trans (QH b)) a
 rw[this];exact h
theorem Eh {L:List Nat}{o:Oper}(h:jP P o.op=1)(a:On L o=true):dY P L o=2:=by
 unfold dY;rw[h,a];rfl
theorem Bs {L:List Nat}{o:Oper}(h:jP P o.op=1)(a:On L o=false):dY P L o=1:=by
 unfold dY;rw[h,a];rfl
theorem Aj (n:mL P){E:List bV}{gs:List (Nat×Bool)}{o:Oper}{M:Option (aa->Prop)}{a:Act}{w:World}{K:Value->aa->Prop}{R:Value->World->Prop}
  (hH:Holds N D E a) (t:∀p∈gs,a.tmps[p.1]?=some (.bool p.2)) (d:jK M w.heap) (f:∀v w',Alike w w'->jK M w'.heap->K v w'.heap->R v w')
  (h:yT P L E gs o M w.heap K):gE P M (dY P L o) (λw=>(execOp a.eval o).run P w) R w:=by
 unfold yT at h;split at h
 ·rename_i v x;exact kL d (kQ hH t x) (f v w (.refl w) d h)
 ·cases g:(sU E gs o.op&&!(o0 o.op)) with
  |false=>rw[g] at h;exact h.elim
  |true=>
    rw[g] at h;simp only[Qz,RR] at g;have hs:∀cs b,o.op≠.select cs b:=λcs b e=>by rw[e] at g;cases g.2
    have he:=qC hH t g.1 hs;simp only[cond_true] at h;rw[he];split at h
    ·rename_i l;rw[tf l (by decide)];obtain⟨v,h1,i⟩:=vk (o:=o) (Et) h;exact⟨v,h1,f v w (.refl w) d i⟩
    ·rename_i l;cases m:On L o with
     |true=>
       rw[m] at h;simp only[cond_true] at h;obtain⟨v,h1,i⟩:=j4 (o:=o) h;rw[Eh l m];have q:=h1 w rfl;show p9 P ((execOp (IL E gs) o).run P w) _;rw[q];exact⟨d,f v w (.refl w) d i⟩
     |false=>
       rw[m] at h;simp only[cond_false] at h;obtain⟨v,h1,i⟩:=j4 (o:=o) h;rw[Bs l m];exact⟨v,λw' r=>h1 w' r,f v w (.refl w) d i⟩
    ·rename_i c y z;have q:p9 P ((execOp (IL E gs) o).run P w) (λv w'=>jK M w'.heap/\R v w'):=by
      refine xx n (M:=M) (K:=λv H'=>Pd M H' (K v H')) ?_ h;intro v w' u hk;cases M with
      |none=>exact⟨trivial,f v w' u trivial hk⟩
      |some G=>exact⟨hk.1,f v w' u hk.1 hk.2⟩
     have j:jP P o.op≠1:=λe=>z e;have s:jP P o.op≠0:=λe=>y e;have k:dY P L o=jP P o.op:=tf rfl j;rw[k];generalize jP P o.op=c at*
     match c with
     |0=>exact absurd rfl s
     |1=>exact absurd rfl j
     |_+2=>exact q
def xR (ops:Array Oper)(j:Nat):Option Nat:=match ops[j]? with|some o=>o.dst|none=>none
theorem qU {ops:Array Oper}{o:Oper}{a:Act}{j s:Nat}{want:Bool}(d:o.guard=some (j,want))(hs:xR ops j=some s):
  (RZ o (yielded ops a.tmps)=true↔a.tmps[s]?=some (.bool want)):=by
 have e:(ops[j]?).bind (·.dst)=some s:=by
  unfold xR at hs;split at hs
  ·rename_i g f;rw[f];exact hs
  ·cases hs
 simp only[RZ,d,yielded,e,Option.bind_some];constructor
 ·intro h;split at h
  ·rename_i b c;rw[c];simpa using h
  ·simp at h
 ·intro h;rw[h];simp
def jU (P:Program)(N:Nat)(L:List Nat)(M:Option (aa->Prop))(o:Oper)(E:List bV)(H:aa)(s:Nat)(want b:Bool)(K:List bV->aa->Prop):Prop:=
 bif b==want then yT P L (my s b E) [] o M H λv H'=>vn N (my s b E) o.dst v none λE'=>K E' H'
 else vn N (my s b E) o.dst undef none λE'=>K E' H
def B3 (E:List bV)(s:Nat):Bool:=match find E s with|some ⟨_,.tuple _,none⟩=>true|_=>false
def C6 (ops:Array Oper)(o:Oper):Bool:=match o.op with
 |.extract (.tmp t) _=>ops.toList.any λp=>(match p.op with|.entry _=>(match p.dst with|some d=>QQ d t|none=>false)|_=>false)
 |_=>false
def OE (P:Program)(N:Nat)(L:List Nat)(ops:Array Oper)(M:Option (aa->Prop))(o:Oper)(E:List bV)(H:aa)(K:List bV->aa->Prop):Prop:=
 match o.guard with
 |none=>bif C6 ops o then (match mO P E [] o with
   |some v=>Ot (lg P o.type) v λy=>vn N E o.dst ((lg P o.type).enc y) none λE'=>K E' H
   |none=>False)
   else yT P L E [] o M H λv H'=>vn N E o.dst v none λE'=>K E' H'
 |some (j,want)=>(match xR ops j with
   |none=>False
   |some s=>bif B3 E s then vn N E o.dst undef none λE'=>K E' H else bif isLit E s then (match find E s with
     |some ⟨_,.bool b,none⟩=>br b (jU P N L M o E H s want true K) (jU P N L M o E H s want false K)
     |_=>False) else (match mO P E [(s,want)] o with
     |some v=>vn N E o.dst v (some (s,want)) λE'=>K E' H
     |none=>(match find E s with
       |some ⟨_,.bool b,none⟩=>br b (jU P N L M o E H s want true K) (jU P N L M o E H s want false K)
       |some ⟨_,.bool b,some (s2,a)⟩=>(match find E s2 with
         |some ⟨_,.bool b2,none⟩=>
           br (b2==a) (br b (jU P N L M o (my s2 a E) H s want true K) (jU P N L M o (my s2 a E) H s want false K)) (vn N (xQ s2 (!a) E) o.dst undef none λE'=>K E' H)
         |_=>False)
       |_=>False)))
theorem DY (C:mL P){ops:Array Oper}{M:Option (aa->Prop)}{o:Oper}{E:List bV}{a:Act}{w:World}{K:List bV->aa->Prop}{K':Act->World->Prop}
  (hH:Holds N D E a) (l:jK M w.heap)
  (n:∀E' u w',Holds N D E' (a.put o.dst u)->Alike w w'->jK M w'.heap->K E' w'.heap->K' (a.put o.dst u) w')
  (h:OE P N L ops M o E w.heap K):gA P M L ops o K' a w:=by
 have plain:∀{E:List bV},Holds N D E a->yT P L E [] o M w.heap (λv H'=>vn N E o.dst v none λE'=>K E' H')->
   gE P M (dY P L o) (λw=>(execOp a.eval o).run P w) (λv w'=>K' (a.put o.dst v) w') w:=by
  intro E hH h;refine Aj C hH (by simp) l (λv w' O g hk=>?_) h;obtain⟨E',h1,c⟩:=fU hH hk (u:=v) (λ_ _ _ _=>rfl) (λ_=>rfl);exact n E' v w' h1 O g c
 have known:∀{E:List bV} {s:Nat} {want b:Bool} {j:Nat},o.guard=some (j,want)->xR ops j=some s->Holds N D E a->a.tmps[s]?=some (.bool b)->jU P N L M o E w.heap s want b K->gA P M L ops o K' a w:=by
  intro E s want b j g hs hH d h;have hw:=qU (a:=a) g hs;unfold jU at h;unfold gA;by_cases e:b=want
  ·subst e;simp only[beq_self_eq_true,cond_true] at h;rw[if_pos (hw.2 d)];exact plain (hH.my d) h
  ·have F:(b==want)=false:=by simpa using e
   rw[F] at h;simp only[cond_false] at h;rw[if_neg (λm=>by
    have:=hw.1 m;rw[d] at this;simp at this;exact e this)]
   obtain⟨E',h1,c⟩:=fU (hH.my d) h (u:=undef) (λ_ _ _ _=>rfl) (λ_=>rfl);exact n E' undef w h1 (.refl w) l c
 unfold OE at h;split at h
 ·rename_i g;unfold gA;rw[if_pos (by simp[RZ,g])];cases t:C6 ops o with
  |false=>rw[t] at h;exact plain hH h
  |true=>
    rw[t] at h;simp only[cond_true] at h;split at h
    ·rename_i v d;obtain⟨y,rfl,Q⟩:=h;obtain⟨E',h1,c⟩:=fU hH Q (u:=(lg P o.type).enc y) (λ_ _ _ _=>rfl) (λ_=>rfl);exact kL l (kQ hH (by simp) d) (n E' _ w h1 (.refl w) l c)
    ·exact h.elim
 ·rename_i j want g;split at h
  ·exact h.elim
  ·rename_i s hs;have hw:=qU (a:=a) g hs;cases i:B3 E s with
   |true=>
     rw[i] at h;simp only[cond_true] at h;have d:∃vs,a.tmps[s]?=some (.tuple vs):=by
      unfold B3 at i;split at i
      ·rename_i x vs r;obtain⟨h1,c⟩:=gK r;have:=hH.all _ h1;simp only at c;subst c;exact⟨vs,this⟩
      ·cases i
     obtain⟨vs,d⟩:=d;unfold gA;rw[if_neg (λm=>by have:=hw.1 m;rw[d] at this;simp at this)];obtain⟨E',h1,c⟩:=fU hH h (u:=undef) (λ_ _ _ _=>rfl) (λ_=>rfl);exact n E' undef w h1 (.refl w) l c
   |false=>
   rw[i] at h;simp only[cond_false] at h;cases z:isLit E s with
   |true=>
     rw[z] at h;simp only[cond_true] at h;split at h
     ·rename_i x b r;obtain⟨h1,c⟩:=gK r;have d:a.tmps[s]?=some (.bool b):=by have:=hH.all _ h1;simp only at c;subst c;exact this
      cases b with
      |true=>exact known g hs hH d h
      |false=>exact known g hs hH d h
     ·exact h.elim
   |false=>
   rw[z] at h;simp only[cond_false] at h;split at h
   ·rename_i v d;unfold gA;split
    ·rename_i f;have A:=hw.1 f;obtain⟨E',h1,c⟩:=fU hH h (u:=v) (λ_ _ _ _=>rfl) (λ_=>rfl) (hu2:=λx b' e m=>by obtain⟨rfl,rfl⟩:=(Xx (Qq e));exact absurd A m);exact kL l (kQ hH (by intro p R;rw[QV.1 R];exact A) d) (n E' v w h1 (.refl w) l c)
    ·rename_i f;obtain⟨E',h1,c⟩:=fU hH h (u:=undef) (λx b' e m=>by obtain⟨rfl,rfl⟩:=(Xx (Qq e));exact absurd (hw.2 m) f) (λe=>by cases e) (hu2:=λ_ _ _ _=>rfl);exact n E' undef w h1 (.refl w) l c
   ·split at h
    ·rename_i x b r;obtain⟨h1,c⟩:=gK r;have d:a.tmps[s]?=some (.bool b):=by have:=hH.all _ h1;simp only at c;subst c;exact this
     cases b with
     |true=>exact known g hs hH d h
     |false=>exact known g hs hH d h
    ·rename_i x b s2 G r;split at h
     ·rename_i X b2 H;obtain⟨h1,c⟩:=gK r;obtain⟨S,J⟩:=gK H;have k:a.tmps[s2]?=some (.bool b2):=by have:=hH.all _ S;simp only at J;subst J;exact this
      obtain⟨T,U⟩:=FV.1 h;by_cases e:b2=G
      ·subst e;have B:=T (by simp);have d:a.tmps[s]?=some (.bool b):=by
        have:=hH.all _ h1;simp only at c;subst c;exact this.1 k
       cases b with
       |true=>exact known g hs (hH.my k) d B
       |false=>exact known g hs (hH.my k) d B
      ·have B:=U (by simpa using e);have e2:b2=!G:=by cases b2<;>cases G<;>simp_all
       have hu:a.tmps[s]?=some undef:=by
        have:=hH.all _ h1;simp only at c;subst c;exact this.2 (by rw[k];intro q;injection q with q;injection q with q;exact e q)
       have I:¬RZ o (yielded ops a.tmps)=true:=λm=>by
        have:=hw.1 m;rw[hu] at this;unfold undef at this;cases this
       unfold gA;rw[if_neg I];obtain⟨E',V,W⟩:=fU (hH.xQ (by rw[k,e2])) B (u:=undef) (λ_ _ _ _=>rfl) (λ_=>rfl);exact n E' undef w V (.refl w) l W
     ·exact h.elim
    ·exact h.elim
def iB (P:Program)(N:Nat)(L:List Nat)(ops:Array Oper)(M:Option (aa->Prop)):List Oper->List bV->aa->(List bV->aa->Prop)->Prop
 |[],E,H,K=>K E H
 |o::l,E,H,K=>OE P N L ops M o E H λE' H'=>iB P N L ops M l E' H' K
def Ck (l:List Oper):List Nat:=l.filterMap (·.dst)
theorem db (b:mL P){ops:Array Oper}{M:Option (aa->Prop)}{K:List bV->aa->Prop}{K':Act->World->Prop}{W:List Nat}{a0:Act}{w0:World}
  (j:∀E' c w',Holds N D E' c->iN W a0 c->Alike w0 w'->jK M w'.heap->K E' w'.heap->K' c w'):
  ∀(l:List Oper),(∀o∈l,∀d,o.dst=some d->W.contains d=true)->∀(E:List bV) (a:Act) (w:World),Holds N D E a->iN W a0 a->Alike w0 w->jK M w.heap->iB P N L ops M l E w.heap K->ij P M L ops K' l a w
 |[],_,E,a,w,hH,e,f,g,h=>j E a w hH e f g h
 |o::l,k,_,_,_,hH,e,f,g,h=>
   DY b hH g (λE' _ w' h1 m n p=>db b j l (λq i=>k q (Qu _ i)) E' _ w' h1
    (e.trans (iN.put (k o Qp))) (f.trans m) n p) h
def OV (P:Program)(N:Nat)(ops:Array Oper)(draw:Bool)(E:List bV)(H:aa)(K:List bV->aa->Prop):Prop:=
 bif draw then (bif eK P [] 0 ops then iB P N [] ops none ops.toList E H K
  else let L:=qV P ops
   let k:=xL P L ops
   bif eK P L k ops then (bif QQ k 0 then iB P N L ops none ops.toList E H K else ∃G:aa->Prop,G H/\iB P N L ops (some G) (ops.toList.take k) E H λE' H'=>iB P N L ops none (ops.toList.drop k) E' H' K) else False)
 else iB P N [] ops none ops.toList E H K
theorem Du (c:mL P)(hm:P.follows .mixedOrders=true){rn:Option Nat}{id:Nat}{ops:Array Oper}{draw:Bool}{E:List bV}{a:Act}{w:World}{K:List bV->aa->Prop}{Q:Exit->Act->World->Prop}
  (hH:Holds N D E a) (q:∀E' b w',Holds N D E' b->iN (Ck ops.toList) a b->Alike w w'->K E' w'.heap->Q .normal b w')
  (h:OV P N ops draw E w.heap K):(Uh id ops draw).wpIn (FW rn) 0 P Q a w:=by
 have m:∀o∈ops.toList,∀d,o.dst=some d->(Ck ops.toList).contains d=true:=by
  intro o n d hd;rw[VJ];exact UA.2 ⟨o,n,hd⟩
 unfold OV at h;cases draw with
 |false=>
   exact ve (db (M:=none) c (λE' b w' e f g _ j=>q E' b w' e f g j) ops.toList m E a w hH (.refl _ _) (.refl _) trivial h)
 |true=>
   simp only[cond_true] at h;have hd:Alike w {w with drawn:=w.drawn+1}:=.of_le rfl (Ri _);cases h1:eK P [] 0 ops with
   |true=>
     rw[h1] at h;refine ju (M:=none) (k:=0) hm (λi hi=>by omega) h1 trivial ?_;show ij P none [] ops _ (ops.toList.take 0) _ _;rw[Vm,V9];exact db (M:=none) c (λE' b w' e f g _ j=>q E' b w' e f g j) ops.toList m E a _ hH (.refl _ _) hd trivial h
   |false=>
     rw[h1] at h;simp only[cond_false] at h;cases p:eK P (qV P ops) (xL P (qV P ops) ops) ops with
     |true=>
       rw[p] at h;simp only[cond_true] at h;cases l:QQ (xL P (qV P ops) ops) 0 with
       |true=>
         rw[l] at h;have s:=QH l;rw[s] at p;refine ju (M:=none) (k:=0) hm (λi hi=>by omega) p trivial ?_;show ij P none (qV P ops) ops _ (ops.toList.take 0) _ _;rw[Vm,V9];exact db (M:=none) c (λE' b w' e f g _ j=>q E' b w' e f g j) ops.toList m E a _ hH (.refl _ _) hd trivial h
       |false=>
       rw[l] at h;obtain⟨G,r,t⟩:=h;refine ju (M:=some G) hm (λ_ _=>rfl) p r (db c (λE' b w' e f g _ j=>?_) (ops.toList.take _) (λo n=>m o (Rl n)) E a _ hH (.refl _ _) hd r t);exact db (M:=none) c (λE' b w' e f g _ j=>q E' b w' e f g j) (ops.toList.drop _) (λo n=>m o (Rq n)) E' b w' e f g trivial j
     |false=>
       rw[p] at h;simp only[cond_false] at h
def lS (ops:Array Oper)(l:List Nat):List Oper:=l.flatMap λi=>(ops.toList.drop i).take 1
def Nr (P:Program)(N:Nat)(L:List Nat)(ops:Array Oper)(M:Option (aa->Prop))(f c:Nat):List Nat->List bV->aa->(List bV->aa->Prop)->Prop
 |[],E,H,K=>iB P N L ops M (lS ops [f]) E H K
 |i::l,E,H,K=>bif Nat.ble c i then iB P N L ops M (lS ops (f::i::l)) E H K else
   bif iR P L ops f c i then iB P N L ops M (lS ops (f::i::l)) E H K/\iB P N L ops M (lS ops [i]) E H (λE' H'=>Nr P N L ops M f c l E' H' K)
   else iB P N L ops M (lS ops [i]) E H λE' H'=>Nr P N L ops M f c l E' H' K
def Nl (f c:Nat)(P:Program)(N:Nat)(ops:Array Oper)(E:List bV)(H:aa)(K:List bV->aa->Prop):Prop:=
 let L:=qV P ops
 bif sR P L ops f c (dS ops.toList []) then ∃G:aa->Prop,G H/\Nr P N L ops (some G) f c (kf ops.size f) E H K else False
theorem ml {M:Option (aa->Prop)}{L:List Nat}{ops:Array Oper}{K:Act->World->Prop}:∀(l:List Nat),(∀i∈l,i<ops.size)->fW P M ops.size L ops K l=ij P M L ops K (lS ops l)
 |[],_=>rfl
 |i::l,h=>by
   have hi:=h i Qp;have b:=ml (M:=M) (L:=L) (K:=K) l λk hk=>h k (Qu _ hk);have e:(ops.toList.drop i).take 1=[ops[i]]:=by
    rw[List.drop_eq_getElem_cons (by simpa using hi)];simp
   have e2:lS ops (i::l)=ops[i]::lS ops l:=by
    unfold lS;rw[List.flatMap_cons,e];rfl
   have c:qb M ops.size i=M:=by unfold qb;rw[gR.2 hi];rfl
   rw[e2];funext a w;simp only[fW,ij,ct,Array.getElem?_eq_getElem hi,c,b]
theorem Dh (b:mL P){L:List Nat}{ops:Array Oper}{M:Option (aa->Prop)}{f c:Nat}{K:List bV->aa->Prop}{K':Act->World->Prop}{W:List Nat}{a0:Act}{w0:World}
  (t:∀E' g w',Holds N D E' g->iN W a0 g->Alike w0 w'->jK M w'.heap->K E' w'.heap->K' g w') (u:f<ops.size) (y:∀o∈ops.toList,∀d,o.dst=some d->W.contains d=true):
  ∀(l:List Nat),(∀i∈l,i<ops.size)->∀(E:List bV) (a:Act) (w:World),Holds N D E a->iN W a0 a->Alike w0 w->jK M w.heap->Nr P N L ops M f c l E w.heap K->jY P M L ops f c K' l a w:=by
 have e:∀l:List Nat,∀o∈lS ops l,∀d,o.dst=some d->W.contains d=true:=λl o v=>by
  unfold lS at v;obtain⟨i,_,hi⟩:=Rs.1 v;exact y o (Rq (Rl hi))
 intro l
 induction l with
 |nil=>
   intro _ E a w hH j m n h;unfold jY;rw[ml [f] λi hi=>by rw[QV] at hi;subst hi;exact u];exact db b t _ (e _) E a w hH j m n h
 |cons i l z=>
   intro p E a w hH j m n h;have hi:=p i Qp;have r:=z λk hk=>p k (Qu _ hk);have full:iB P N L ops M (lS ops (f::i::l)) E w.heap K->fW P M ops.size L ops K' (f::i::l) a w:=λs=>by
    rw[ml (f::i::l) λk hk=>by
     rcases Qs.1 hk with q|q
     ·subst q;exact u
     ·exact p k q]
    exact db b t _ (e _) E a w hH j m n s
   have one:iB P N L ops M (lS ops [i]) E w.heap (λE' H'=>Nr P N L ops M f c l E' H' K)->ct P M ops.size L ops i (jY P M L ops f c K' l) a w:=λs=>by
    have:=db (K':=jY P M L ops f c K' l) b (λE' g w' h1 A B C F=>r E' g w' h1 A B C F) _ (e [i]) E a w hH j m n s;rw[<-ml [i] λk hk=>by rw[QV] at hk;subst hk;exact hi] at this;exact this
   unfold Nr at h;unfold jY;cases x:Nat.ble c i with
   |true=>rw[x] at h;exact full h
   |false=>
     rw[x] at h;cases hs:iR P L ops f c i with
     |true=>rw[hs] at h;exact⟨full h.1,one h.2⟩
     |false=>rw[hs] at h;exact one h
theorem BZ (g:mL P)(hm:P.follows .mixedOrders=true){f c:Nat}{rn:Option Nat}{id:Nat}{ops:Array Oper}{E:List bV}{a:Act}{w:World}{K:List bV->aa->Prop}{Q:Exit->Act->World->Prop}
  (hH:Holds N D E a) (l:∀E' b w',Holds N D E' b->iN (Ck ops.toList) a b->Alike w w'->K E' w'.heap->Q .normal b w')
  (h:Nl f c P N ops E w.heap K):(Uh id ops true).wpIn (FW rn) 0 P Q a w:=by
 have m:∀o∈ops.toList,∀d,o.dst=some d->(Ck ops.toList).contains d=true:=by
  intro o n d hd;rw[VJ];exact UA.2 ⟨o,n,hd⟩
 have hd:Alike w {w with drawn:=w.drawn+1}:=.of_le rfl (Ri _);unfold Nl at h;simp only at h;cases e:sR P (qV P ops) ops f c (dS ops.toList []) with
 |false=>rw[e] at h;exact h.elim
 |true=>
   rw[e] at h;obtain⟨G,j,p⟩:=h;have k:=rS e;exact rT (M:=some G) hm rfl e j (Dh g (λE' b w' q r s _ t=>l E' b w' q r s t) (Nat.lt_trans k.fc k.cn) m _ (λi hi=>Q7.1 (QL.1 hi).1) E a _ hH (.refl _ _) hd j p)
def Ns (P:Program)(N:Nat)(L:List Nat)(ops:Array Oper)(M:Option (aa->Prop))(K:List bV->aa->Prop):Nat->List Nat->List bV->aa->Prop
 |0,_,E,H=>K E H
 |n+1,l,E,H=>(match nM (EM P L ops (dS ops.toList []) l) l with
   |some j=>iB P N L ops M (lS ops [j]) E H λE' H'=>Ns P N L ops M K n (fX l j) E' H'
   |none=>xS (jt (dS ops.toList []) l) (λj=>iB P N L ops M (lS ops [j]) E H λE' H'=>Ns P N L ops M K n (fX l j) E' H') l)
def Na (ex:List Nat)(P:Program)(N:Nat)(ops:Array Oper)(E:List bV)(H:aa)(K:List bV->aa->Prop):Prop:=
 bif NY ops then ∃G:aa->Prop,G H/\Ns P N (ex++qV P ops) ops (some G) K ops.size (List.range ops.size) E H else False
theorem Ex (c:mL P){L:List Nat}{ops:Array Oper}{M:Option (aa->Prop)}{K:List bV->aa->Prop}{K':Act->World->Prop}{W:List Nat}{a0:Act}{w0:World}
  (t:∀E' b w',Holds N D E' b->iN W a0 b->Alike w0 w'->jK M w'.heap->K E' w'.heap->K' b w') (u:∀o∈ops.toList,∀d,o.dst=some d->W.contains d=true):
  ∀(n:Nat) (l:List Nat),(∀i∈l,i<ops.size)->∀(E:List bV) (a:Act) (w:World),Holds N D E a->iN W a0 a->Alike w0 w->jK M w.heap->Ns P N L ops M K n l E w.heap->pw P M L ops K' n l a w:=by
 have e:∀l:List Nat,∀o∈lS ops l,∀d,o.dst=some d->W.contains d=true:=λl o r=>by
  unfold lS at r;obtain⟨i,_,hi⟩:=Rs.1 r;exact u o (Rq (Rl hi))
 intro n
 induction n with
 |zero=>
   intro l _ E a w hH f g m h;exact t E a w hH f g m h
 |succ n v=>
   intro l s E a w hH f g m h;have one:∀j∈l,iB P N L ops M (lS ops [j]) E w.heap (λE' H'=>Ns P N L ops M K n (fX l j) E' H')->ct P M ops.size L ops j (pw P M L ops K' n (fX l j)) a w:=λj p x=>by
    have:=db (K':=pw P M L ops K' n (fX l j)) c (λE' b w' h1 y z A B=>v (fX l j) (λi hi=>s i (gB.1 hi).1) E' b w' h1 y z A B) _ (e [j]) E a w hH f g m x;rw[<-ml [j] λk hk=>by rw[QV] at hk;subst hk;exact s k p] at this;exact this
   unfold Ns at h;unfold pw;cases q:nM (EM P L ops (dS ops.toList []) l) l with
   |some j=>rw[q] at h;exact one j (lh q).1 h
   |none=>rw[q] at h;exact qG (λj p=>one j p) h
theorem Cj (c:mL P)(hm:P.follows .mixedOrders=true){ex:List Nat}{rn:Option Nat}{id:Nat}{ops:Array Oper}{E:List bV}{a:Act}{w:World}{K:List bV->aa->Prop}{Q:Exit->Act->World->Prop}
  (hH:Holds N D E a) (g:∀E' b w',Holds N D E' b->iN (Ck ops.toList) a b->Alike w w'->K E' w'.heap->Q .normal b w')
  (h:Na ex P N ops E w.heap K):(Uh id ops true).wpIn (FW rn) 0 P Q a w:=by
 have j:∀o∈ops.toList,∀d,o.dst=some d->(Ck ops.toList).contains d=true:=by
  intro o k d hd;rw[VJ];exact UA.2 ⟨o,k,hd⟩
 have hd:Alike w {w with drawn:=w.drawn+1}:=.of_le rfl (Ri _);unfold Na at h;cases e:NY ops with
 |false=>rw[e] at h;exact h.elim
 |true=>
   rw[e] at h;obtain⟨G,f,l⟩:=h;exact pI (M:=some G) hm rfl e f (Ex c (λE' b w' m n p _ q=>g E' b w' m n p q) j _ _ (λi hi=>Q7.1 hi) E a _ hH (.refl _ _) hd f l)
end
end Go.Proofs.YtkehfflpbpdokaaGreatDoor
