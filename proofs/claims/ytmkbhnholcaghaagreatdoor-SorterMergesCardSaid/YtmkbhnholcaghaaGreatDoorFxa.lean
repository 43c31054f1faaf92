/-
 Ground for all walks of this seat, over any program: what one operation does, said of the heap alone (the count of draws is left free), and the theorem that a region which draws its order may be walked in the order of the text where its operations commute.
-/
import Derived.Orders
import Derived.OrdersIn
import Derived.TacticsIn
import Derived.Tactics
import Derived.RangeFuncIn
import Derived.RangeFuncLeaves
open Array renaming getElem?_eq_some_iff->Ow,getElem?_eq_getElem->OX,replicate->QH,getElem?_toList->TG
open Bool renaming and_eq_true->OB,or_eq_true->PJ,noConfusion->TR
open Go.Calls renaming mono->WJ
open Go.Code renaming region->Sz
open Go.Fence renaming wide->Uk
open Go.Next.value renaming injEq->VJ
open Go.Oper renaming apart->WK
open Go.Region renaming binds->P4,wanted->P8
open Go.Result.ok renaming injEq->VO
open Go.RoundIn renaming mono->Wj
open Go.Sem renaming run->PY
open Go.StepsIn renaming of_steps->Yp
open Go.World renaming freeze->Wi
open List renaming mem_cons_of_mem->OM,mem_cons_self->OO,getElem?_append_left->OP,mem_filter->OY,mem_range->O1,length_cons->O3,all_eq_true->Pw,range->PA,getD->PB,filter_append->PT,filter_congr->P9,append_nil->QG,cons_append->Rc,range'->Vt
open List.Pairwise renaming filter->Uu
open Nat renaming le_refl->Ot,beq->OQ,zero_add->PI,blt->Qc
open Option.some renaming inj->OS
namespace Go.Proofs.YtmkbhnholcaghaaGreatDoor
abbrev aa:=Array Obj
def cI (H:aa)(a:Addr):Option Value:=
 match H[a.block]? with
 |some (.cells c _ _)=>if a.spot.isSome then none else c[a.off]?
 |_=>none
def oX (H:aa)(a:Addr):Bool:=
 match H[a.block]? with
 |some (.cells _ _ (lo,hi))=>lo<=a.off&&a.off<hi
 |_=>false
def KX (H:aa)(r:Nat):Option (TypeId×Nat):=
 match H[r]? with
 |some (.cells c elem _)=>some (elem,c.size)
 |_=>none
def wz (H:aa)(a:Addr)(v:Value):aa:=
 H.modify a.block λ
  |.cells c elem frozen=>.cells (if a.spot.isSome then c else c.setIfInBounds a.off v) elem frozen
  |o=>o
def vR (H:aa)(a:Addr)(n:Nat):aa:=
 if n=0 then H else
 H.modify a.block λ
  |.cells c elem (lo,hi)=>.cells c elem (if lo==hi then (a.off,a.off+n) else (min lo a.off,max hi (a.off+n)))
  |o=>o
def jq:Value->Bool
 |.agg _=>false
 |.tuple _=>false
 |_=>true
def yD:Obj->Bool
 |.cells ..=>false
 |_=>true
def wpS {α:Type}(P:Program):Sem α->aa->(α->aa->Prop)->Prop
 |.pure a,H,K=>K a H
 |.load _ a k,H,K=>∃v,cI H a=some v/\wpS P (k v) H K
 |.store _ a v k,H,K=>jq v=true/\(∃u,cI H a=some u)/\oX H a=false/\wpS P k (wz H a v) K
 |.new o k,H,K=>wpS P (k H.size) (H.push o) K
 |.shape r k,H,K=>wpS P (k (KX H r)) H K
 |.freeze a n k,H,K=>wpS P k (vR H a n) K
 |.frozen a k,H,K=>wpS P (k (oX H a)) H K
 |.getObj r k,H,K=>∃o,H[r]?=some o/\yD o=true/\wpS P (k o) H K
 |.setObj r o k,H,K=>(∃u,H[r]?=some u/\yD u=true)/\wpS P k (H.setIfInBounds r o) K
 |.choose q k,H,K=>if q.forced then wpS P (k 0) H K else ∀t,wpS P (k (q.cut t)) H K
 |.sys _ _,_,_=>False
 |.program k,H,K=>wpS P (k P) H K
 |.mark _ k,H,K=>wpS P k H K
 |.halt _,_,_=>False
structure Alike (w w':World):Prop where
 rest:w'={w with heap:=w'.heap,drawn:=w'.drawn}
 drawn:w.drawn<=w'.drawn
theorem Alike.of_le {w w':World}(h:w'={w with heap:=w'.heap,drawn:=w'.drawn})(d:w.drawn<=w'.drawn):Alike w w':=⟨h,d⟩
theorem Alike.refl (w:World):Alike w w:=.of_le rfl (Ot _)
theorem Alike.trans {a b c:World}(h:Alike a b)(k:Alike b c):Alike a c:=⟨by
 have h1:=h.rest;have d:=k.rest;rw[h1] at d;exact d,Nat.le_trans h.drawn k.drawn⟩
theorem Alike.os {w w':World}(h:Alike w w'):w'.os=w.os:=by rw[h.rest]
theorem Alike.output {w w':World}(h:Alike w w'):w'.output=w.output:=by rw[h.rest]
theorem gP {α β:Type}{P:Program}(s:Sem α)(f:α->Sem β):∀{H:aa} {K:β->aa->Prop},wpS P s H (λa H'=>wpS P (f a) H' K)->wpS P (s >>= f) H K:=by
 show ∀{H:aa} {K:β->aa->Prop},wpS P s H (λa H'=>wpS P (f a) H' K)->wpS P (s.bind f) H K
 induction s with
 |pure a=>intro H K b;exact b
 |load m a k d=>intro H K ⟨v,h1,e⟩;exact⟨v,h1,d v e⟩
 |store m a v k d=>intro H K ⟨h1,e,g,i⟩;exact⟨h1,e,g,d i⟩
 |new o k d=>intro H K b;exact d _ b
 |shape r k d=>intro H K b;exact d _ b
 |freeze a n k d=>intro H K b;exact d b
 |frozen a k d=>intro H K b;exact d _ b
 |getObj r k d=>intro H K ⟨o,h1,e,g⟩;exact⟨o,h1,e,d o g⟩
 |setObj r o k d=>intro H K ⟨h1,e⟩;exact⟨h1,d e⟩
 |choose q k d=>
   intro H K b;simp only[wpS,Sem.bind] at b ⊢;split
   ·rename_i h;rw[if_pos h] at b;exact d _ b
   ·rename_i h;rw[if_neg h] at b;exact λt=>d _ (b t)
 |sys c k d=>intro H K b;exact b
 |program k d=>intro H K b;exact d _ b
 |mark m k d=>intro H K b;exact d b
 |halt x=>intro H K b;exact b
theorem Jc {α:Type}{P:Program}(s:Sem α):∀{w:World} {K:α->aa->Prop},wpS P s w.heap K->∃v w',s.run P w=.ok v w'/\K v w'.heap/\Alike w w':=by
 induction s with
 |pure a=>intro w K h;exact⟨a,w,rfl,h,.refl w⟩
 |load m a k b=>
   intro w K ⟨v,h1,g⟩;obtain⟨u,w',d,r2,f⟩:=b v g;have l:w.cell? a=some v:=h1;exact⟨u,w',by simp only[PY,l];exact d,r2,f⟩
 |store m a v k b=>
   intro w K ⟨h1,⟨u,g⟩,i,p⟩;obtain⟨x,w',d,r2,f⟩:=b (w:=w.setCell a v) p;have l:w.cell? a=some u:=g;have t:w.frozen? a=false:=i;refine⟨x,w',?_,r2,(Alike.of_le rfl (Ot _):Alike w (w.setCell a v)).trans f⟩;cases v<;>first|exact TR h1|(simp only[PY,l,t];exact d)
 |new o k b=>
   intro w K h;obtain⟨x,w',d,r2,f⟩:=b w.heap.size (w:={w with heap:=w.heap.push o}) h;exact⟨x,w',d,r2,(Alike.of_le rfl (Ot _):Alike w {w with heap:=w.heap.push o}).trans f⟩
 |shape r k b=>
   intro w K h;obtain⟨x,w',d,r2,f⟩:=b _ h;exact⟨x,w',d,r2,f⟩
 |freeze a n k b=>
   intro w K h;have e:(w.freeze a n).heap=vR w.heap a n:=by unfold Wi vR;split<;>rfl
   obtain⟨x,w',d,r2,f⟩:=b (w:=w.freeze a n) (by rw[e];exact h);have e2:Alike w (w.freeze a n):=by unfold Wi;split<;>exact .of_le rfl (Ot _)
   exact⟨x,w',d,r2,e2.trans f⟩
 |frozen a k b=>
   intro w K h;obtain⟨x,w',d,r2,f⟩:=b _ h;exact⟨x,w',d,r2,f⟩
 |getObj r k b=>
   intro w K ⟨o,h1,g,i⟩;obtain⟨x,w',d,r2,f⟩:=b o i;refine⟨x,w',?_,r2,f⟩;simp only[PY,h1];cases o<;>first|exact TR g|exact d
 |setObj r o k b=>
   intro w K ⟨⟨u,h1,g⟩,i⟩;obtain⟨x,w',d,r2,f⟩:=b (w:={w with heap:=w.heap.setIfInBounds r o}) i;refine⟨x,w',?_,r2,(Alike.of_le rfl (Ot _):Alike w {w with heap:=w.heap.setIfInBounds r o}).trans f⟩;simp only[PY,h1];cases u<;>first|exact TR g|exact d
 |choose q k b=>
   intro w K h;simp only[wpS] at h;by_cases j:q.forced=true
   ·rw[if_pos j] at h;obtain⟨x,w',d,r2,f⟩:=b _ h;exact⟨x,w',by simp only[PY,if_pos j];exact d,r2,f⟩
   ·rw[if_neg j] at h;obtain⟨x,w',d,r2,f⟩:=b _ (w:={w with drawn:=w.drawn+1}) (h (w.tape w.drawn q));exact⟨x,w',by simp only[PY,if_neg j];exact d,r2,(Alike.of_le rfl (Nat.le_succ _):Alike w {w with drawn:=w.drawn+1}).trans f⟩
 |sys c k b=>intro w K h;exact h.elim
 |program k b=>
   intro w K h;obtain⟨x,w',d,r2,f⟩:=b P h;exact⟨x,w',d,r2,f⟩
 |mark m k b=>
   intro w K h;obtain⟨x,w',d,r2,f⟩:=b h;exact⟨x,w',d,r2,f⟩
 |halt x=>intro w K h;exact h.elim
def yV:Operand->Bool
 |.const _=>true
 |_=>false
def iZ (P:Program):Op->Nat
 |.move _=>0|.assign _=>0|.pick ..=>0|.unOp ..=>0|.nilCheck _=>0
 |.build ..=>0|.field ..=>0|.fieldAddr ..=>0|.indexAddr ..=>0|.index ..=>0|.slice ..=>0|.extract ..=>0
 |.makeFunc ..=>0|.makeInterface ..=>0|.sliceToArrayPointer ..=>0
 |.binOp _ t x y _=>
   match P.underlying t with
   |some (.int _)=>0|some .string=>0|some .bool=>0
   |_=>if yV x||yV y then 0 else 1
 |.convert src dst _=>
   match P.underlying src,P.underlying dst with
   |some (.int _),some (.int _)=>0
   |some .string,some .string=>0
   |some (.slice _),some (.slice _)=>2
   |some (.slice _),_=>1
   |_,_=>2
 |.load ..=>1|.lookup ..=>1
 |.call {callee:=.builtin .len,..}=>1
 |.call {callee:=.builtin .cap,..}=>0
 |.call {callee:=.builtin .min,..}=>0
 |.call {callee:=.builtin .max,..}=>0
 |_=>2
def MH (M:Option (aa->Prop))(H H':aa):Prop:=match M with|none=>H'=H|some G=>G H'
def iU (M:Option (aa->Prop))(H':aa):Prop:=match M with|none=>True|some G=>G H'
def pt (P:Program)(r:Result Next)(K:Value->World->Prop):Prop:=
 match r with
 |.ok (.value v) w'=>K v w'
 |.ok .skip w'=>K undef w'
 |.ok (.enter f args) w'=>Calls P f args w' λe a=>∃v,e=.returned v/\K v a
 |.ok (.row row args) w'=>Rows P row args w' K
 |.ok (.round l f tmps assign body) w'=>RoundIn Uk 0 P l f tmps assign body w' λe a=>∃v,e=.returned v/\K v a
 |_=>False
def FW (r:Option Nat):Fence:={Uk with round:=r}
def fN (P:Program)(M:Option (aa->Prop))(c:Nat)(r:World->Result Next)(K:Value->World->Prop)(w:World):Prop:=
 match c with
 |0=>∃v,(∀w',r w'=.ok (.value v) w')/\K v w
 |1=>∃v,(∀w',MH M w.heap w'.heap->r w'=.ok (.value v) w')/\K v w
 |_=>pt P (r w) λv w'=>iU M w'.heap/\K v w'
def LB (L:List Nat)(o:Oper):Bool:=match o.dst with|some d=>L.any (OQ d)|none=>false
def dC (P:Program)(L:List Nat)(o:Oper):Nat:=bif OQ (iZ P o.op) 1&&LB L o then 2 else iZ P o.op
def fH (P:Program)(M:Option (aa->Prop))(L:List Nat)(ops:Array Oper)(o:Oper)(K:Act->World->Prop)(a:Act)(w:World):Prop:=
 if P8 o (yielded ops a.tmps)=true then fN P M (dC P L o) (λw=>(execOp a.eval o).run P w) (λv w'=>K (a.put o.dst v) w') w
 else K (a.put o.dst undef) w
theorem fY {i k:Nat}:Qc i k=true↔i<k:=by simp[Qc,Nat.lt_iff_add_one_le]
theorem xR {i k:Nat}(h:¬i<k):Qc i k=false:=by
 cases a:Qc i k with
 |false=>rfl
 |true=>exact absurd (fY.1 a) h
def pq (M:Option (aa->Prop))(k i:Nat):Option (aa->Prop):=bif Qc i k then M else none
def bT (P:Program)(M:Option (aa->Prop))(k:Nat)(L:List Nat)(ops:Array Oper)(i:Nat)(K:Act->World->Prop)(a:Act)(w:World):Prop:=
 match ops[i]? with
 |none=>K a w
 |some o=>fH P (pq M k i) L ops o K a w
def eZ (P:Program)(M:Option (aa->Prop))(k:Nat)(L:List Nat)(ops:Array Oper)(K:Act->World->Prop):List Nat->Act->World->Prop
 |[]=>K
 |i::l=>bT P M k L ops i (eZ P M k L ops K l)
def gu (P:Program)(M:Option (aa->Prop))(L:List Nat)(ops:Array Oper)(K:Act->World->Prop):List Oper->Act->World->Prop
 |[]=>K
 |o::l=>fH P M L ops o (gu P M L ops K l)
section
variable {P:Program}{M:Option (aa->Prop)}{L:List Nat}{ops:Array Oper}{Q:Exit->Act->World->Prop}
theorem gS {r:Result Next}{K K':Value->World->Prop}(h:∀v w,K v w->K' v w)(a:pt P r K):pt P r K':=by
 unfold pt at*;cases r with
 |ok n w'=>
   cases n<;>simp only at a ⊢
   case value v=>exact h _ _ a
   case skip=>exact h _ _ a
   case enter f args=>exact WJ a λe b ⟨v,he,hk⟩=>⟨v,he,h _ _ hk⟩
   case row row args=>exact Rows.mono a λv b hk=>h _ _ hk
   case round l f tmps assign body=>exact Wj a λe b ⟨v,he,hk⟩=>⟨v,he,h _ _ hk⟩
 |halt x w'=>exact a
theorem uX {r:Result Next}{C:Prop}(a:pt P r (λ_ _=>C)):C:=by
 unfold pt at a;cases r with
 |ok n w'=>
   cases n<;>simp only at a
   case value v=>exact a
   case skip=>exact a
   case enter f args=>
    obtain⟨e,w',fr,⟨v,_,hk⟩,_⟩:=a [];exact hk
   case row row args=>
    obtain⟨v,w',hk,_⟩:=a default [];exact hk
   case round l f tmps assign body=>
    obtain⟨e,w',⟨v,_,hk⟩,_⟩:=a.2 default [] (room_wide _);exact hk
 |halt x w'=>exact a.elim
theorem gN {c:Nat}{r:World->Result Next}{K K':Value->World->Prop}{w:World}(h:∀v w,K v w->K' v w)(b:fN P M c r K w):fN P M c r K' w:=
 match c,b with
 |0,⟨v,h1,a⟩=>⟨v,h1,h _ _ a⟩
 |1,⟨v,h1,a⟩=>⟨v,h1,h _ _ a⟩
 |_+2,b=>gS (λv w ⟨h1,a⟩=>⟨h1,h v w a⟩) b
theorem xJ {c:Nat}{M':Option (aa->Prop)}{r:World->Result Next}{K:Value->World->Prop}{w:World}(d:iU M w.heap)(f:c=0\/c=1\/M'=M)(b:fN P M' c r K w):fN P M' c r (λv w'=>iU M w'.heap/\K v w') w:=
 match c,b with
 |0,⟨v,h1,a⟩=>⟨v,h1,d,a⟩
 |1,⟨v,h1,a⟩=>⟨v,h1,d,a⟩
 |n+2,b=>by
   have e:M'=M:=by
    rcases f with h|h|h
    ·omega
    ·omega
    ·exact h
   subst e;exact gS (λv w ⟨h1,a⟩=>⟨h1,h1,a⟩) b
theorem wR {c:Nat}{r:World->Result Next}{C:Prop}{w:World}(b:fN P M c r (λ_ _=>C) w):C:=
 match c,b with
 |0,⟨_,_,a⟩=>a
 |1,⟨_,_,a⟩=>a
 |_+2,b=>uX (gS (K':=λ_ _=>C) (λ_ _ ⟨_,a⟩=>a) b)
theorem xQ {M':Option (aa->Prop)}{c d:Nat}{r s:World->Result Next}{K:Value->Value->World->Prop}{w:World}
  (k:c=0\/d=0\/(c=1/\d=1)\/(M'=M/\M.isSome=true/\(c=1\/d=1)))
  (h:fN P M c r (λv w'=>fN P M' d s (λu b=>K v u b) w') w):fN P M' d s (λu w'=>fN P M c r (λv b=>K v u b) w') w:=by
 rcases k with rfl|rfl|⟨rfl,rfl⟩|⟨rfl,j,rfl|rfl⟩
 ·obtain⟨v,h1,a⟩:=h;exact gN (λu w' hk=>⟨v,h1,hk⟩) a
 ·have g:∃u,∀w',s w'=.ok (.value u) w':=wR (gN (K':=λ_ _=>∃u,∀w',s w'=.ok (.value u) w') (λv w' ⟨u,h1,_⟩=>⟨u,h1⟩) h);obtain⟨u,hu⟩:=g;refine⟨u,hu,gN (λv w' ⟨l,h1,a⟩=>?_) h⟩;have e:=(hu w').symm.trans (h1 w');simp only[VO,VJ,and_true] at e;rw[e];exact a
 ·obtain⟨v,h1,u,a,f⟩:=h;exact⟨u,a,v,h1,f⟩
 ·cases M' with
  |none=>cases j
  |some G=>
    obtain⟨v,h1,a⟩:=h;exact gN (λu w' hk=>⟨v,h1,hk⟩) a
 ·cases M' with
  |none=>cases j
  |some G=>
    match c,h with
    |0,⟨v,h1,u,a,f⟩=>exact⟨u,a,v,h1,f⟩
    |1,⟨v,h1,u,a,f⟩=>exact⟨u,a,v,h1,f⟩
    |c+2,h=>
      have g:∃u,∀w',G w'.heap->s w'=.ok (.value u) w':=uX (gS (K':=λ_ _=>∃u,∀w',G w'.heap->s w'=.ok (.value u) w') (λv w' ⟨_,u,h1,_⟩=>⟨u,h1⟩) h);obtain⟨u,hu⟩:=g;refine⟨u,hu,gS (λv w' ⟨i,l,h1,a⟩=>⟨i,?_⟩) h⟩;have e:=(hu w' i).symm.trans (h1 w' i);simp only[VO,VJ,and_true] at e;rw[e];exact a
theorem sE {w:World}(a:iU M w.heap):MH M w.heap w.heap:=by
 cases M with
 |none=>rfl
 |some G=>exact a
theorem xb {row:String}{args:Array Value}{w:World}{R:Value->World->Prop}{r:Option Nat}(h:Rows P row args w R):RowsIn (FW r) 0 P row args w R:=
 λc cs _=>let ⟨v,w',h1,a⟩:=h c cs;⟨v,w',h1,(Yp a).mono λm _=>fenced_wide P m⟩
theorem py {o:Oper}{a:Act}{w:World}{K:Act->World->Prop}{rn:Option Nat}(g:pt P ((execOp a.eval o).run P w) (λv w'=>K (a.put o.dst v) w')):o.wpIn (FW rn) 0 P a w K Q:=by
 refine⟨λ_ _=>trivial,?_⟩;have he:o.semAt (FW rn).round a.eval=execOp a.eval o:=by
  refine Oper.semAt_eq _ _ _ λc i=>?_;unfold pt at g;simp only[execOp,i,Sem.run_bind] at g;generalize (resolve a.eval c o.type).run P w=r at g;cases r with
  |ok d w'=>exact g
  |halt x w'=>exact g
 rw[he];unfold pt at g;generalize (execOp a.eval o).run P w=r at*;have hd:(FW rn).depth.isSome=true->1<=0:=λh=>by cases h
 cases r with
 |ok n w'=>
   cases n<;>simp only at g<;>simp only[Oper.uponIn]
   case value v=>exact g
   case skip=>exact g
   case enter f args=>
    refine⟨hd,?_⟩;have h1:Calls P f args w' λ
      |.returned v,b=>K (a.put o.dst v) b
      |.panicked chain,b=>Q (.panic chain) a b
      |.outgrown,_=>LetsOut Q:=WJ g λe b ⟨v,he,hk⟩=>by subst he;exact hk
    exact callsIn_wide.2 h1
   case row row args=>exact⟨hd,xb g⟩
   case round l f tmps assign body=>
    refine⟨hd,?_⟩;have h1:RoundIn Uk 0 P l f tmps assign body w' λ
      |.returned v,b=>K (a.put o.dst v) b
      |.panicked chain,b=>Q (.panic chain) a b
      |.outgrown,_=>LetsOut Q:=Wj g λe b ⟨v,he,hk⟩=>by subst he;exact hk
    exact h1
 |halt x w'=>exact g.elim
theorem wK {c:Nat}{o:Oper}{a:Act}{w:World}{K:Act->World->Prop}{rn:Option Nat}(e:c=1->iU M w.heap)
  (f:fN P M c (λw=>(execOp a.eval o).run P w) (λv w'=>K (a.put o.dst v) w') w):o.wpIn (FW rn) 0 P a w K Q:=by
 match c,e,f with
 |0,_,⟨v,h1,b⟩=>have d:=h1 w;dsimp only at d;exact py (by rw[d];exact b)
 |1,e,⟨v,h1,b⟩=>have d:=h1 w (sE (e rfl));dsimp only at d;exact py (by rw[d];exact b)
 |_+2,_,f=>exact py (gS (λv w' ⟨_,b⟩=>b) f)
theorem uE {o:Oper}{a:Act}{w:World}{K K':Act->World->Prop}(h:∀a w,K a w->K' a w)(b:fH P M L ops o K a w):fH P M L ops o K' a w:=by
 unfold fH at*;split
 ·rename_i hw;rw[if_pos hw] at b;exact gN (λv w hk=>h _ _ hk) b
 ·rename_i hw;rw[if_neg hw] at b;exact h _ _ b
theorem pM {M':Option (aa->Prop)}{o:Oper}{a:Act}{w:World}{K:Act->World->Prop}(c:iU M w.heap)(d:dC P L o=0\/dC P L o=1\/M'=M)(b:fH P M' L ops o K a w):fH P M' L ops o (λa w=>iU M w.heap/\K a w) a w:=by
 unfold fH at*;split
 ·rename_i hw;rw[if_pos hw] at b;exact xJ c d b
 ·rename_i hw;rw[if_neg hw] at b;exact⟨c,b⟩
theorem di {k i:Nat}{a:Act}{w:World}{K K':Act->World->Prop}(h:∀a w,K a w->K' a w)(b:bT P M k L ops i K a w):bT P M k L ops i K' a w:=by
 unfold bT at*;split
 ·rename_i c;rw[c] at b;exact h _ _ b
 ·rename_i o c;rw[c] at b;exact uE h b
theorem BX {o:Oper}{a:Act}{w:World}{K:Act->World->Prop}{rn:Option Nat}(c:dC P L o=1->iU M w.heap)(b:fH P M L ops o K a w):
  if P8 o (yielded ops a.tmps)=true then o.wpIn (FW rn) 0 P a w K Q else ((∀f,o.about P w a.eval=some f->(FW rn).fn f)/\K (a.put o.dst undef) w):=by
 unfold fH at b;split
 ·rename_i hw;rw[if_pos hw] at b;exact wK c b
 ·rename_i hw;rw[if_neg hw] at b;exact⟨λ_ _=>trivial,b⟩
theorem j6 {k i:Nat}{a:Act}{w:World}{K:Act->World->Prop}{rn:Option Nat}(d:∀o,ops[i]?=some o->i<k->dC P L o=1->iU M w.heap)(b:bT P M k L ops i K a w):wpOpIn (FW rn) 0 P ops Q i K a w:=by
 unfold bT at b;unfold wpOpIn;split
 ·rename_i c;rw[c] at b;exact b
 ·rename_i o c;rw[c] at b;refine BX (M:=pq M k i) (λe=>?_) b;unfold pq;cases hk:Qc i k with
  |true=>exact d o c (fY.1 hk) e
  |false=>exact trivial
theorem jA {rn:Option Nat}{K:Act->World->Prop}(c:∀a w,K a w->Q .normal a w):∀(l:List Oper) (a:Act) (w:World),gu P none L ops K l a w->wpListIn (FW rn) 0 P ops Q l a w
 |[],a,w,h=>c _ _ h
 |o::l,a,w,h=>by
   have h1:fH P none L ops o (wpListIn (FW rn) 0 P ops Q l) a w:=uE (λa w hk=>jA c l a w hk) h;have b:=BX (M:=none) (Q:=Q) (rn:=rn) (λ_=>trivial) h1;unfold wpListIn;split
   ·rename_i hw;rw[if_pos hw] at b;exact b
   ·rename_i hw;rw[if_neg hw] at b;exact b
def cT (P:Program)(L:List Nat)(m:Bool)(ops:Array Oper)(x y:Oper):Bool:=
 WK ops x y&&(dC P L x==0||dC P L y==0||(dC P L x==1&&dC P L y==1)||(m&&(dC P L x==1||dC P L y==1)))&&
 (match x.op with|.select ..=>false|_=>true)&&(match y.op with|.select ..=>false|_=>true)
theorem nP {m:Bool}{x y:Oper}(h:cT P L m ops x y=true):WK ops x y=true/\
  (dC P L x=0\/dC P L y=0\/(dC P L x=1/\dC P L y=1)\/(m=true/\(dC P L x=1\/dC P L y=1)))/\
  (∀cs b,x.op≠.select cs b)/\(∀cs b,y.op≠.select cs b):=by
 unfold cT at h;simp only[OB,PJ,beq_iff_eq] at h;obtain⟨⟨⟨h1,a⟩,c⟩,d⟩:=h;refine⟨h1,?_,?_,?_⟩
 ·rcases a with ((a|a)|a)|a
  ·exact .inl a
  ·exact .inr (.inl a)
  ·exact .inr (.inr (.inl a))
  ·exact .inr (.inr (.inr a))
 ·intro cs b e;rw[e] at c;cases c
 ·intro cs b e;rw[e] at d;cases d
theorem pO {M':Option (aa->Prop)}{m:Bool}{x y:Oper}(j:cT P L m ops x y=true)(hm:m=true->M'=M/\M.isSome=true){K:Act->World->Prop}{a:Act}{w:World}
  (h:fH P M L ops x (fH P M' L ops y K) a w):fH P M' L ops y (fH P M L ops x K) a w:=by
 obtain⟨e,b,f,g⟩:=nP j;have b:dC P L x=0\/dC P L y=0\/(dC P L x=1/\dC P L y=1)\/(M'=M/\M.isSome=true/\(dC P L x=1\/dC P L y=1)):=by
  rcases b with h|h|h|⟨h,k⟩
  ·exact .inl h
  ·exact .inr (.inl h)
  ·exact .inr (.inr (.inl h))
  ·exact .inr (.inr (.inr ⟨(hm h).1,(hm h).2,k⟩))
 obtain⟨i,a2,a3⟩:=Oper.apart_spec e;have l:∀v,P8 y (yielded ops (a.put x.dst v).tmps)=P8 y (yielded ops a.tmps):=λv=>wanted_put y a x.dst v i;have n:∀v,P8 x (yielded ops (a.put y.dst v).tmps)=P8 x (yielded ops a.tmps):=λv=>wanted_put x a y.dst v a3;have o:∀v,execOp (a.put x.dst v).eval y=execOp a.eval y:=λv=>execOp_put (ops:=ops) y g a x.dst v i;have ex:∀v,execOp (a.put y.dst v).eval x=execOp a.eval x:=λv=>execOp_put (ops:=ops) x f a y.dst v a3;have p:∀v u,(a.put x.dst v).put y.dst u=(a.put y.dst u).put x.dst v:=λv u=>Act.put_comm a v u a2;unfold fH at h ⊢;simp only[l,n,o,ex,p] at h ⊢;by_cases d:P8 x (yielded ops a.tmps)=true
 ·by_cases c:P8 y (yielded ops a.tmps)=true
  ·simp only[if_pos d,if_pos c] at h ⊢;exact xQ b h
  ·simp only[if_pos d,if_neg c] at h ⊢;exact h
 ·by_cases c:P8 y (yielded ops a.tmps)=true
  ·simp only[if_neg d,if_pos c] at h ⊢;exact h
  ·simp only[if_neg d,if_neg c] at h ⊢;exact h
def aM (ops:Array Oper)(listed:Array Bool):List Nat:=(PA ops.size).filter λi=>!listed.getD i true
def pj (acc:List Nat):List Edge->Nat
 |[]=>0
 |e::r=>bif P4 .any e then (pj acc r|||2^e.on)|||acc.getD e.on 0 else pj acc r
def du:List Oper->List Nat->List Nat
 |[],acc=>acc
 |o::l,acc=>du l (acc++[pj acc o.after.toList])
theorem nS {acc:List Nat}{i:Nat}:∀{l:List Edge},(pj acc l).testBit i=true->∃e∈l,P4 .any e=true/\(e.on=i\/(acc.getD e.on 0).testBit i=true)
 |[],h=>by simp[pj] at h
 |e::r,h=>by
   unfold pj at h;cases a:P4 .any e with
   |false=>
     rw[a] at h;obtain⟨b,h1,c⟩:=nS (l:=r) (by simpa using h);exact⟨b,OM _ h1,c⟩
   |true=>
     rw[a] at h;simp only[cond_true,Nat.testBit_or,PJ] at h;rcases h with (h|h)|h
     ·obtain⟨b,h1,c⟩:=nS h;exact⟨b,OM _ h1,c⟩
     ·exact⟨e,OO,a,.inl (by simpa[Nat.testBit_two_pow] using h)⟩
     ·exact⟨e,OO,a,.inr h⟩
theorem lI:∀(l:List Oper) (acc:List Nat) (j:Nat),j<acc.length->(du l acc).getD j 0=acc.getD j 0
 |[],_,_,_=>rfl
 |o::l,acc,j,h=>by
   unfold du;rw[lI l _ j (by simp;omega)];simp[PB,OP h]
theorem Bk:∀(l:List Oper) (acc:List Nat) (k:Nat) (o:Oper),l[k]?=some o->∃a,(du l acc).getD (acc.length+k) 0=pj a o.after.toList/\∀i,i<acc.length+k->a.getD i 0=(du l acc).getD i 0
 |[],_,_,_,h=>by simp at h
 |o::l,acc,0,b,h=>by
   have e:o=b:=by simpa using h
   subst e;refine⟨acc,?_,λi hi=>?_⟩
   ·unfold du;rw[lI l _ _ (by simp)];simp[PB]
   ·unfold du;rw[lI l _ _ (by simp at hi ⊢;omega)];simp[PB,OP (show i<acc.length by omega)]
 |o::l,acc,k+1,b,h=>by
   obtain⟨a,h1,c⟩:=Bk l (acc++[pj acc o.after.toList]) k b (by simpa using h);have e:(acc++[pj acc o.after.toList]).length+k=acc.length+(k+1):=by simp;omega
   rw[e] at h1 c;exact⟨a,by unfold du;exact h1,λi hi=>by unfold du;exact c i hi⟩
def waits (B:List Nat)(j i:Nat):Bool:=(B.getD j 0).testBit i
def kJ (P:Program)(L:List Nat)(k:Nat)(ops:Array Oper)(B:List Nat):Bool:=
 (PA ops.size).all λj=>match ops[j]? with
  |some oj=>(oj.after.all λe=>!P4 .any e||decide (e.on<j))&&
    (PA j).all λi=>match ops[i]? with
     |some oi=>cT P L (Qc j k) ops oi oj||waits B j i
     |none=>false
  |none=>false
def dG (P:Program)(L:List Nat)(k:Nat)(ops:Array Oper):Bool:=kJ P L k ops (du ops.toList [])
def ordered (B:List Nat)(i j:Nat):Bool:=waits B j i||waits B i j
def Lo (P:Program):List Oper->Nat->List Nat
 |[],_=>[]
 |o::r,k=>bif Nat.ble 2 (iZ P o.op) then k::Lo P r (k+1) else Lo P r (k+1)
def rF (P:Program)(B E:List Nat):List Oper->Nat->List Nat->List Nat
 |[],_,_=>[]
 |o::r,k,acc=>(match o.dst with
   |some d=>bif OQ (iZ P o.op) 1&&(E.all (ordered B k)&&acc.all (ordered B k)) then d::rF P B E r (k+1) (k::acc) else rF P B E r (k+1) acc
   |none=>rF P B E r (k+1) acc)
def qw (P:Program)(ops:Array Oper):List Nat:=rF P (du ops.toList []) (Lo P ops.toList 0) ops.toList 0 []
def Ga (f:Nat->Bool):Nat->Nat->Nat
 |_,0=>0
 |k,n+1=>bif f k then k else Ga f (k+1) n
def vJ (P:Program)(L:List Nat)(ops:Array Oper):Nat:=let B:=du ops.toList [];Ga (λk=>kJ P L k ops B) 0 (ops.size+1)
theorem oQ {k:Nat}(h:dG P L k ops=true){j:Nat}{oj:Oper}(b:ops[j]?=some oj){e:Edge}(he:e∈oj.after)(c:P4 .any e=true):e.on<j:=by
 unfold dG kJ at h;have a:j<ops.size:=(Ow.1 b).1;have:=Pw.1 h j (O1.2 a);rw[b] at this;simp only[OB] at this;have d:=Array.all_eq_true_iff_forall_mem.1 this.1 e he;simpa[c] using d
theorem lY {k:Nat}(h:dG P L k ops=true){i j:Nat}{oi oj:Oper}(hi:ops[i]?=some oi)(c:ops[j]?=some oj)(a:i<j):cT P L (Qc j k) ops oi oj=true\/waits (du ops.toList []) j i=true:=by
 unfold dG kJ at h;have b:j<ops.size:=(Ow.1 c).1;have:=Pw.1 h j (O1.2 b);rw[c] at this;simp only[OB] at this;have d:=Pw.1 this.2 i (O1.2 a);rw[hi] at d;simpa[PJ] using d
def qp (ops:Array Oper)(listed:Array Bool):Prop:=
 ∀j oj,ops[j]?=some oj->listed.getD j false=true->∀e∈oj.after,P4 .any e=true->listed.getD e.on false=true
theorem kC {listed:Array Bool}(o:qp ops listed)(g:∀j oj,ops[j]?=some oj->∀e∈oj.after,P4 .any e=true->e.on<j):∀(j i:Nat) (oj:Oper),ops[j]?=some oj->
  (∀e∈oj.after,P4 .any e=true->listed.getD e.on false=true)->waits (du ops.toList []) j i=true->listed.getD i false=true:=by
 intro j
 induction j using Nat.strongRecOn with
 |_ j p=>
   intro i oj k b h;unfold waits at h;obtain⟨l,h1,m⟩:=Bk ops.toList [] j oj (by simpa using k);simp only[List.length_nil,PI] at h1 m;rw[h1] at h;obtain⟨e,he,n,a⟩:=nS h;have c:e∈oj.after:=by simpa using he
   have hl:=b e c n;have d:=g j oj k e c n;rcases a with a|a
   ·rw[<-a];exact hl
   ·rw[m _ d] at a;have q:j<ops.size:=(Ow.1 k).1;have f:ops[e.on]?=some (ops[e.on]'(by omega)):=OX (by omega);exact p e.on d i _ f (o e.on _ f hl) a
theorem sH {K:Act->World->Prop}{k j:Nat}(d:∀i,i<k->M.isSome=true):∀(b c:List Nat),(∀i∈b,i<j/\∃oi oj,ops[i]?=some oi/\ops[j]?=some oj/\cT P L (Qc j k) ops oi oj=true)->
  ∀a w,eZ P M k L ops K (b++j::c) a w->bT P M k L ops j (eZ P M k L ops K (b++c)) a w
 |[],c,_,a,w,h=>h
 |i::b,c,m,a,w,h=>by
   have h1:bT P M k L ops i (bT P M k L ops j (eZ P M k L ops K (b++c))) a w:=di (sH d b c (λk hk=>m k (OM _ hk))) h;obtain⟨p,oi,oj,hi,q,f⟩:=m i OO;have e:∀K',bT P M k L ops i K'=fH P (pq M k i) L ops oi K':=λK'=>by funext a w;simp only[bT,hi]
   have n:∀K',bT P M k L ops j K'=fH P (pq M k j) L ops oj K':=λK'=>by funext a w;simp only[bT,q]
   rw[e,n] at h1;have r:=pO f (λo=>by
    have g:j<k:=fY.1 o;have l:Qc i k=true:=fY.2 (by omega);unfold pq;rw[o,l];exact⟨rfl,d j g⟩) h1
   simp only[Rc,eZ];rw[e,n];exact r
theorem iu (p:Nat->Bool)(j:Nat)(c:p j=true):∀(n:Nat),j<n->∃a b,(PA n).filter p=a++j::b/\(∀i∈a,i<j/\p i=true)/\
  (PA n).filter (λi=>p i&&decide (i≠j))=a++b
 |0,h=>by omega
 |n+1,h=>by
   rw[List.range_succ,PT,PT];by_cases d:j=n
   ·subst d;refine⟨(PA j).filter p,[],by simp[c],?_,?_⟩
    ·intro i hi;rw[OY,O1] at hi;exact hi
    ·simp only[ne_eq,QG];rw[show List.filter (λi=>p i&&decide (¬i=j)) [j]=[] from by simp,QG];exact P9 λi hi=>by
      have:i≠j:=by have:=O1.1 hi;omega
      simp[this]
   ·obtain⟨a,b,h1,f,g⟩:=iu p j c n (by omega);refine⟨a,b++[n].filter p,by rw[h1];simp,f,?_⟩;rw[g,List.append_assoc];congr 2;have:n≠j:=λe=>d e.symm;simp[List.filter_cons,this]
def Le (P:Program)(L:List Nat)(k:Nat)(ops:Array Oper)(listed:Array Bool):Prop:=∃i o,ops[i]?=some o/\listed.getD i true=false/\i<k/\dC P L o=1
theorem Eb {rn:Option Nat}{k:Nat}(Z:∀i,i<k->M.isSome=true)(U:dG P L k ops=true):∀(fuel:Nat) (listed:Array Bool) (a:Act) (w:World),(Le P L k ops listed->iU M w.heap)->listed.size=ops.size->qp ops listed->(aM ops listed).length=fuel->
  eZ P M k L ops (λa w=>Q .normal a w) (aM ops listed) a w->wpAnyIn (FW rn) 0 P .any ops Q fuel listed a w:=by
 intro fuel
 induction fuel with
 |zero=>
   intro listed a w hG hs hc hl h;have V:aM ops listed=[]:=List.length_eq_zero_iff.1 hl;refine⟨?_,by rw[V] at h;exact h⟩;rw[List.eq_nil_iff_forall_not_mem];intro j C;obtain⟨hu,o,B,_⟩:=mem_ready.1 C;have y:j<ops.size:=(Ow.1 B).1;have:j∈aM ops listed:=OY.2 ⟨O1.2 y,by simp[hu]⟩;rw[V] at this;cases this
 |succ fuel ih=>
   intro listed a w hG hs hc hl h;refine⟨λV=>?_,λj C=>?_⟩
   ·-- the first that is not listed is ready
    exfalso;cases W:aM ops listed with
    |nil=>rw[W] at hl;simp at hl
    |cons m rest=>
      have hm:m∈aM ops listed:=by rw[W];exact OO
      have D:∀i,i<m->listed.getD i false=true:=by
       intro i hi;obtain⟨z,E⟩:=OY.1 hm;have t:=O1.1 z;cases A:listed.getD i true with
       |true=>
         have:i<listed.size:=by omega
         simp[this] at A ⊢;exact A
       |false=>
         have F:i∈aM ops listed:=OY.2 ⟨O1.2 (by omega),by simp[A]⟩;rw[W] at F;have b:(aM ops listed).Pairwise (·<·):=Uu _ List.pairwise_lt_range;rw[W,List.pairwise_cons] at b;rcases List.mem_cons.1 F with e|e
         ·omega
         ·have:=b.1 i e;omega
      obtain⟨z,E⟩:=OY.1 hm;have t:=O1.1 z;have B:ops[m]?=some ops[m]:=OX t;have:m∈Region.ready .any ops listed:=mem_ready.2 ⟨by simpa using E,_,B,λe he u=>D _ (oQ U B he u)⟩;rw[V] at this;cases this
   ·obtain⟨hu,oj,f,v⟩:=mem_ready.1 C;have y:j<ops.size:=(Ow.1 f).1;obtain⟨G,H,e1,e2,e3⟩:=iu (λi=>!listed.getD i true) j (by simp[hu]) ops.size y;have I:aM ops listed=G++j::H:=e1;have e4:aM ops (listed.setIfInBounds j true)=G++H:=by
     rw[<-e3];unfold aM;refine P9 λi hi=>?_;have af:i<listed.size:=by rw[hs];exact O1.1 hi
     by_cases c:i=j
     ·subst c;simp[af]
     ·rw[getD_set_ne true (Ne.symm c)];simp[c]
    have p:∀i,listed.getD i true=false->i<ops.size->waits (du ops.toList []) j i=false:=by
     intro i r d;cases g:waits (du ops.toList []) j i with
     |false=>rfl
     |true=>
       have l:=kC hc (λj oj C e he u=>oQ U C he u) j i oj f v g;have:i<listed.size:=by omega
       simp[this] at r l;rw[r] at l;cases l
    rw[I] at h;have X:=sH Z G H (λi hi=>by
     obtain⟨c,r⟩:=e2 i hi;have d:i<ops.size:=by omega
     have n:ops[i]?=some ops[i]:=OX d;refine⟨c,ops[i],oj,n,f,?_⟩;rcases lY U n f c with g|g
     ·exact g
     ·rw[p i (by simpa using r) d] at g;cases g) a w h
    have J:∀o,ops[j]?=some o->j<k->dC P L o=1->iU M w.heap:=λo B hk an=>hG ⟨j,o,B,hu,hk,an⟩;have go:∀x w',(Le P L k ops (listed.setIfInBounds j true)->iU M w'.heap)->eZ P M k L ops (λa w=>Q .normal a w) (G++H) x w'->wpAnyIn (FW rn) 0 P .any ops Q fuel (listed.setIfInBounds j true) x w':=by
     intro x w' hg hk;refine ih (listed.setIfInBounds j true) x w' hg (by simp[hs]) ?_ ?_ (by rw[e4];exact hk)
     ·intro q ok hq K e he u;by_cases N:j=q
      ·subst N;have:ok=oj:=OS (hq.symm.trans f);subst this;exact getD_set_true (v e he u)
      ·rw[getD_set_ne false N] at K;exact getD_set_true (hc q ok hq K e he u)
     ·rw[e4];rw[I] at hl;simp only[List.length_append,O3] at hl ⊢;omega
    by_cases hp:Le P L k ops (listed.setIfInBounds j true)
    ·obtain⟨i,oi,n,d,a1,O⟩:=hp;have c:j≠i:=by
      intro e;subst e;have:j<listed.size:=by omega
      simp[this] at d
     rw[getD_set_ne true c] at d;have a6:iU M w.heap:=hG ⟨i,oi,n,d,a1,O⟩;have R:i<ops.size:=(Ow.1 n).1;have s:dC P L oj=0\/dC P L oj=1\/pq M k j=M:=by
      by_cases S:j<k
      ·right;right;have:Qc j k=true:=fY.2 S;unfold pq;rw[this];rfl
      ·have T:i<j:=by omega
       have u:Qc j k=false:=xR S;rcases lY U n f T with g|g
       ·rw[u] at g;obtain⟨_,l,_,_⟩:=nP g;rcases l with l|l|⟨_,l⟩|⟨l,_⟩
        ·rw[O] at l;cases l
        ·exact .inl l
        ·exact .inr (.inl l)
        ·cases l
       ·rw[p i d R] at g;cases g
     have g:bT P M k L ops j (λa w=>iU M w.heap/\eZ P M k L ops (λa w=>Q .normal a w) (G++H) a w) a w:=by
      unfold bT at X ⊢;rw[f] at X ⊢;exact pM a6 s X
     exact j6 J (di (λx w' Y=>go x w' (λ_=>Y.1) Y.2) g)
    ·exact j6 J (di (λx w' Y=>go x w' (λq=>absurd q hp) Y) X)
theorem iJ {K:Act->World->Prop}{k:Nat}{M':Option (aa->Prop)}:∀(l:List Oper) (s:Nat),(∀j,j<l.length->l[j]?=ops[s+j]?)->(∀j,j<l.length->pq M k (s+j)=M')->eZ P M k L ops K (Vt s l.length)=gu P M' L ops K l
 |[],s,_,_=>rfl
 |o::l,s,hl,hm=>by
   have c:ops[s]?=some o:=by simpa using (hl 0 (by simp)).symm
   have d:=iJ (K:=K) (k:=k) (M':=M') l (s+1) (λj e=>by have:=hl (j+1) (by simp;omega);simpa[Nat.add_assoc,Nat.add_comm 1 j] using this) (λj e=>by have:=hm (j+1) (by simp;omega);rw[<-this];congr 1;omega);have b:pq M k s=M':=by simpa using hm 0 (by simp)
   funext a w;simp only[O3,List.range'_succ,eZ,gu,bT,c,d,b]
theorem qz {K:Act->World->Prop}{k:Nat}:∀(b c:List Nat),eZ P M k L ops K (b++c)=eZ P M k L ops (eZ P M k L ops K c) b
 |[],_=>rfl
 |i::b,c=>by
   funext a w;simp only[Rc,eZ];rw[qz b c]
theorem iE {rn:Option Nat}{id:Nat}{a:Act}{w:World}{k:Nat}(hm:P.follows .mixedOrders=true)(d:∀i,i<k->M.isSome=true)(g:dG P L k ops=true)(l:iU M w.heap)
  (h:gu P M L ops (gu P none L ops (λa w=>Q .normal a w) (ops.toList.drop k)) (ops.toList.take k) a {w with drawn:=w.drawn+1}):(Sz id ops true).wpIn (FW rn) 0 P Q a w:=by
 have hu:aM ops (QH ops.size false)=PA ops.size:=by
  unfold aM;rw[List.filter_eq_self];intro i hi;have:=O1.1 hi;simp[this]
 refine wpIn_region_any hm (Eb d g ops.size _ a _ (λ_=>l) (by simp) ?_ (by rw[hu];simp) ?_)
 ·intro j oj _ hl;have:∀j,(QH ops.size false).getD j false=false:=λj=>by
   rcases Nat.lt_or_ge j ops.size with h|h
   ·simp[h]
   ·simp[h]
  rw[this] at hl;cases hl
 ·rw[hu,List.range_eq_range'];have b:Vt 0 ops.size=Vt 0 (ops.toList.take k).length++Vt (ops.toList.take k).length (ops.toList.drop k).length:=by
   have h1:ops.size=(ops.toList.take k).length+(ops.toList.drop k).length:=by simp;omega
   rw[h1,<-List.range'_append_1];simp
  have t1:=iJ (P:=P) (M:=M) (L:=L) (ops:=ops) (K:=gu P none L ops (λa w=>Q .normal a w) (ops.toList.drop k)) (k:=k) (M':=M) (ops.toList.take k) 0 (λj c=>by
   have f:j<k:=by simp at c;omega
   rw[List.getElem?_take,if_pos f,PI,TG]) (λj c=>by
   have:Qc (0+j) k=true:=fY.2 (by simp at c;omega);unfold pq;rw[this];rfl)
  have t2:=iJ (P:=P) (M:=M) (L:=L) (ops:=ops) (K:=λa w=>Q .normal a w) (k:=k) (M':=none) (ops.toList.drop k) (ops.toList.take k).length (λj c=>by
   have e:(ops.toList.take k).length=k:=by simp at c ⊢;omega
   rw[e,List.getElem?_drop,TG]) (λj c=>by
   have:Qc ((ops.toList.take k).length+j) k=false:=xR (by simp at c ⊢;omega);unfold pq;rw[this];rfl)
  rw[b,qz,t2,t1];exact h
theorem ur {rn:Option Nat}{id:Nat}{a:Act}{w:World}(h:gu P none L ops (λa w=>Q .normal a w) ops.toList a w):(Sz id ops false).wpIn (FW rn) 0 P Q a w:=
 wpIn_region_list (jA (λ_ _ h=>h) _ _ _ h)
end
end Go.Proofs.YtmkbhnholcaghaaGreatDoor
