/-
 Ground for all walks of this seat, over any program: what one operation does, said of the heap alone (the count of draws is left free), and the theorem that a region which draws its order may be walked in the order of the text where its operations commute.
-/
import Derived.Orders
import Derived.OrdersIn
import Derived.TacticsIn
import Derived.Tactics
import Derived.RangeFuncIn
import Derived.RangeFuncLeaves
open Array renaming getElem?_eq_some_iff->KA,getElem?_eq_getElem->Lb,replicate->LV,getElem?_toList->Pb
open Bool renaming and_eq_true->KD,or_eq_true->Lo,noConfusion->Oq
open Go.Calls renaming mono->SM
open Go.Code renaming region->OQ
open Go.Fence renaming wide->O4
open Go.Next.value renaming injEq->RM
open Go.Oper renaming apart->SN
open Go.Region renaming wanted->LX,binds->Mk
open Go.Result.ok renaming injEq->RQ
open Go.RoundIn renaming mono->Sh
open Go.Sem renaming run->Md
open Go.StepsIn renaming of_steps->T8
open Go.World renaming freeze->Sg
open List renaming mem_cons_self->Kw,mem_cons_of_mem->KO,mem_filter->KP,getD->KQ,getElem?_append_left->KT,length_cons->K1,mem_range->Lg,append_nil->Lu,filter_append->LI,all_eq_true->LO,range->L7,filter_congr->MT,cons_append->Ot,range'->QX
open List.Pairwise renaming filter->Pm
open Nat renaming le_refl->Kl,beq->K3,zero_add->LB,blt->L5
open Option.some renaming inj->Kq
namespace Go.Proofs.YtkehfflpbpdokaaGreatDoor
abbrev aa:=Array Obj
def bI (H:aa)(a:Addr):Option Value:=
 match H[a.block]? with
 |some (.cells c _ _)=>if a.spot.isSome then none else c[a.off]?
 |_=>none
def l8 (H:aa)(a:Addr):Bool:=
 match H[a.block]? with
 |some (.cells _ _ (lo,hi))=>lo<=a.off&&a.off<hi
 |_=>false
def Hn (H:aa)(r:Nat):Option (TypeId×Nat):=
 match H[r]? with
 |some (.cells c elem _)=>some (elem,c.size)
 |_=>none
def uA (H:aa)(a:Addr)(v:Value):aa:=
 H.modify a.block λ
  |.cells c elem frozen=>.cells (if a.spot.isSome then c else c.setIfInBounds a.off v) elem frozen
  |o=>o
def tg (H:aa)(a:Addr)(n:Nat):aa:=
 if n=0 then H else
 H.modify a.block λ
  |.cells c elem (lo,hi)=>.cells c elem (if lo==hi then (a.off,a.off+n) else (min lo a.off,max hi (a.off+n)))
  |o=>o
def ka:Value->Bool
 |.agg _=>false
 |.tuple _=>false
 |_=>true
def wC:Obj->Bool
 |.cells ..=>false
 |_=>true
def wpS {α:Type}(P:Program):Sem α->aa->(α->aa->Prop)->Prop
 |.pure a,H,K=>K a H
 |.load _ a k,H,K=>∃v,bI H a=some v/\wpS P (k v) H K
 |.store _ a v k,H,K=>ka v=true/\(∃u,bI H a=some u)/\l8 H a=false/\wpS P k (uA H a v) K
 |.new o k,H,K=>wpS P (k H.size) (H.push o) K
 |.shape r k,H,K=>wpS P (k (Hn H r)) H K
 |.freeze a n k,H,K=>wpS P k (tg H a n) K
 |.frozen a k,H,K=>wpS P (k (l8 H a)) H K
 |.getObj r k,H,K=>∃o,H[r]?=some o/\wC o=true/\wpS P (k o) H K
 |.setObj r o k,H,K=>(∃u,H[r]?=some u/\wC u=true)/\wpS P k (H.setIfInBounds r o) K
 |.choose q k,H,K=>if q.forced then wpS P (k 0) H K else ∀t,wpS P (k (q.cut t)) H K
 |.sys _ _,_,_=>False
 |.program k,H,K=>wpS P (k P) H K
 |.mark _ k,H,K=>wpS P k H K
 |.halt _,_,_=>False
structure Alike (w w':World):Prop where
 rest:w'={w with heap:=w'.heap,drawn:=w'.drawn}
 drawn:w.drawn<=w'.drawn
theorem Alike.of_le {w w':World}(h:w'={w with heap:=w'.heap,drawn:=w'.drawn})(d:w.drawn<=w'.drawn):Alike w w':=⟨h,d⟩
theorem Alike.refl (w:World):Alike w w:=.of_le rfl (Kl _)
theorem Alike.trans {a b c:World}(h:Alike a b)(k:Alike b c):Alike a c:=⟨by
 have h1:=h.rest
 have h2:=k.rest
 rw[h1] at h2
 exact h2,Nat.le_trans h.drawn k.drawn⟩
theorem Alike.os {w w':World}(h:Alike w w'):w'.os=w.os:=by rw[h.rest]
theorem Alike.output {w w':World}(h:Alike w w'):w'.output=w.output:=by rw[h.rest]
theorem lN {α β:Type}{P:Program}(s:Sem α)(f:α->Sem β):∀{H:aa} {K:β->aa->Prop},wpS P s H (λa H'=>wpS P (f a) H' K)->wpS P (s >>= f) H K:=by
 show ∀{H:aa} {K:β->aa->Prop},wpS P s H (λa H'=>wpS P (f a) H' K)->wpS P (s.bind f) H K
 induction s with
 |pure a=>intro H K hh;exact hh
 |load m a k ih=>intro H K ⟨v,h1,h2⟩;exact⟨v,h1,ih v h2⟩
 |store m a v k ih=>intro H K ⟨h1,h2,h3,h4⟩;exact⟨h1,h2,h3,ih h4⟩
 |new o k ih=>intro H K hh;exact ih _ hh
 |shape r k ih=>intro H K hh;exact ih _ hh
 |freeze a n k ih=>intro H K hh;exact ih hh
 |frozen a k ih=>intro H K hh;exact ih _ hh
 |getObj r k ih=>intro H K ⟨o,h1,h2,h3⟩;exact⟨o,h1,h2,ih o h3⟩
 |setObj r o k ih=>intro H K ⟨h1,h2⟩;exact⟨h1,ih h2⟩
 |choose q k ih=>
   intro H K hh
   simp only[wpS,Sem.bind] at hh ⊢
   split
   ·rename_i hq;rw[if_pos hq] at hh;exact ih _ hh
   ·rename_i hq;rw[if_neg hq] at hh;exact λt=>ih _ (hh t)
 |sys c k ih=>intro H K hh;exact hh
 |program k ih=>intro H K hh;exact ih _ hh
 |mark m k ih=>intro H K hh;exact ih hh
 |halt x=>intro H K hh;exact hh
theorem EC {α:Type}{P:Program}(s:Sem α):∀{w:World} {K:α->aa->Prop},wpS P s w.heap K->∃v w',s.run P w=.ok v w'/\K v w'.heap/\Alike w w':=by
 induction s with
 |pure a=>intro w K h;exact⟨a,w,rfl,h,.refl w⟩
 |load m a k ih=>
   intro w K ⟨v,h1,h2⟩
   obtain⟨u,w',r1,r2,r3⟩:=ih v h2
   have hc:w.cell? a=some v:=h1
   exact⟨u,w',by simp only[Md,hc];exact r1,r2,r3⟩
 |store m a v k ih=>
   intro w K ⟨h1,⟨u,h2⟩,h3,h4⟩
   obtain⟨x,w',r1,r2,r3⟩:=ih (w:=w.setCell a v) h4
   have hc:w.cell? a=some u:=h2
   have hf:w.frozen? a=false:=h3
   refine⟨x,w',?_,r2,(Alike.of_le rfl (Kl _):Alike w (w.setCell a v)).trans r3⟩
   cases v<;>first|exact Oq h1|(simp only[Md,hc,hf];exact r1)
 |new o k ih=>
   intro w K h
   obtain⟨x,w',r1,r2,r3⟩:=ih w.heap.size (w:={w with heap:=w.heap.push o}) h
   exact⟨x,w',r1,r2,(Alike.of_le rfl (Kl _):Alike w {w with heap:=w.heap.push o}).trans r3⟩
 |shape r k ih=>
   intro w K h
   obtain⟨x,w',r1,r2,r3⟩:=ih _ h
   exact⟨x,w',r1,r2,r3⟩
 |freeze a n k ih=>
   intro w K h
   have e:(w.freeze a n).heap=tg w.heap a n:=by unfold Sg tg;split<;>rfl
   obtain⟨x,w',r1,r2,r3⟩:=ih (w:=w.freeze a n) (by rw[e];exact h)
   have e2:Alike w (w.freeze a n):=by unfold Sg;split<;>exact .of_le rfl (Kl _)
   exact⟨x,w',r1,r2,e2.trans r3⟩
 |frozen a k ih=>
   intro w K h
   obtain⟨x,w',r1,r2,r3⟩:=ih _ h
   exact⟨x,w',r1,r2,r3⟩
 |getObj r k ih=>
   intro w K ⟨o,h1,h2,h3⟩
   obtain⟨x,w',r1,r2,r3⟩:=ih o h3
   refine⟨x,w',?_,r2,r3⟩
   simp only[Md,h1]
   cases o<;>first|exact Oq h2|exact r1
 |setObj r o k ih=>
   intro w K ⟨⟨u,h1,h2⟩,h3⟩
   obtain⟨x,w',r1,r2,r3⟩:=ih (w:={w with heap:=w.heap.setIfInBounds r o}) h3
   refine⟨x,w',?_,r2,(Alike.of_le rfl (Kl _):Alike w {w with heap:=w.heap.setIfInBounds r o}).trans r3⟩
   simp only[Md,h1]
   cases u<;>first|exact Oq h2|exact r1
 |choose q k ih=>
   intro w K h
   simp only[wpS] at h
   by_cases hq:q.forced=true
   ·rw[if_pos hq] at h
    obtain⟨x,w',r1,r2,r3⟩:=ih _ h
    exact⟨x,w',by simp only[Md,if_pos hq];exact r1,r2,r3⟩
   ·rw[if_neg hq] at h
    obtain⟨x,w',r1,r2,r3⟩:=ih _ (w:={w with drawn:=w.drawn+1}) (h (w.tape w.drawn q))
    exact⟨x,w',by simp only[Md,if_neg hq];exact r1,r2,(Alike.of_le rfl (Nat.le_succ _):Alike w {w with drawn:=w.drawn+1}).trans r3⟩
 |sys c k ih=>intro w K h;exact h.elim
 |program k ih=>
   intro w K h
   obtain⟨x,w',r1,r2,r3⟩:=ih P h
   exact⟨x,w',r1,r2,r3⟩
 |mark m k ih=>
   intro w K h
   obtain⟨x,w',r1,r2,r3⟩:=ih h
   exact⟨x,w',r1,r2,r3⟩
 |halt x=>intro w K h;exact h.elim
def vY:Operand->Bool
 |.const _=>true
 |_=>false
def gY (P:Program):Op->Nat
 |.move _=>0|.assign _=>0|.pick ..=>0|.unOp ..=>0|.nilCheck _=>0
 |.build ..=>0|.field ..=>0|.fieldAddr ..=>0|.indexAddr ..=>0|.index ..=>0|.slice ..=>0|.extract ..=>0
 |.makeFunc ..=>0|.makeInterface ..=>0|.sliceToArrayPointer ..=>0
 |.binOp _ t x y _=>
   match P.underlying t with
   |some (.int _)=>0|some .string=>0|some .bool=>0
   |_=>if vY x||vY y then 0 else 1
 |.convert src dst _=>
   match P.underlying src,P.underlying dst with
   |some (.int _),some (.int _)=>0
   |some .string,some .string=>0
   |some (.slice _),some (.slice _)=>2
   |some (.slice _),_=>1
   |_,_=>2
 |.load ..=>1|.lookup ..=>1
 |.call {callee:=.builtin .len,..}=>1
 |.call {callee:=.builtin .cap,..}=>0
 |.call {callee:=.builtin .min,..}=>0
 |.call {callee:=.builtin .max,..}=>0
 |_=>2
def II (M:Option (aa->Prop))(H H':aa):Prop:=match M with|none=>H'=H|some G=>G H'
def iS (M:Option (aa->Prop))(H':aa):Prop:=match M with|none=>True|some G=>G H'
def mO (P:Program)(r:Result Next)(K:Value->World->Prop):Prop:=
 match r with
 |.ok (.value v) w'=>K v w'
 |.ok .skip w'=>K undef w'
 |.ok (.enter f args) w'=>Calls P f args w' λe w''=>∃v,e=.returned v/\K v w''
 |.ok (.row row args) w'=>Rows P row args w' K
 |.ok (.round l f tmps assign body) w'=>RoundIn O4 0 P l f tmps assign body w' λe w''=>∃v,e=.returned v/\K v w''
 |_=>False
def FW (r:Option Nat):Fence:={O4 with round:=r}
def eO (P:Program)(M:Option (aa->Prop))(c:Nat)(r:World->Result Next)(K:Value->World->Prop)(w:World):Prop:=
 match c with
 |0=>∃v,(∀w',r w'=.ok (.value v) w')/\K v w
 |1=>∃v,(∀w',II M w.heap w'.heap->r w'=.ok (.value v) w')/\K v w
 |_=>mO P (r w) λv w'=>iS M w'.heap/\K v w'
def HT (L:List Nat)(o:Oper):Bool:=match o.dst with|some d=>L.any (K3 d)|none=>false
def dh (P:Program)(L:List Nat)(o:Oper):Nat:=bif K3 (gY P o.op) 1&&HT L o then 2 else gY P o.op
def eH (P:Program)(M:Option (aa->Prop))(L:List Nat)(ops:Array Oper)(o:Oper)(K:Act->World->Prop)(a:Act)(w:World):Prop:=
 if LX o (yielded ops a.tmps)=true then eO P M (dh P L o) (λw=>(execOp a.eval o).run P w) (λv w'=>K (a.put o.dst v) w') w
 else K (a.put o.dst undef) w
theorem fi {i k:Nat}:L5 i k=true↔i<k:=by simp[L5,Nat.lt_iff_add_one_le]
theorem vg {i k:Nat}(h:¬i<k):L5 i k=false:=by
 cases hq:L5 i k with
 |false=>rfl
 |true=>exact absurd (fi.1 hq) h
def mP (M:Option (aa->Prop))(k i:Nat):Option (aa->Prop):=bif L5 i k then M else none
def bS (P:Program)(M:Option (aa->Prop))(k:Nat)(L:List Nat)(ops:Array Oper)(i:Nat)(K:Act->World->Prop)(a:Act)(w:World):Prop:=
 match ops[i]? with
 |none=>K a w
 |some o=>eH P (mP M k i) L ops o K a w
def dO (P:Program)(M:Option (aa->Prop))(k:Nat)(L:List Nat)(ops:Array Oper)(K:Act->World->Prop):List Nat->Act->World->Prop
 |[]=>K
 |i::l=>bS P M k L ops i (dO P M k L ops K l)
def fI (P:Program)(M:Option (aa->Prop))(L:List Nat)(ops:Array Oper)(K:Act->World->Prop):List Oper->Act->World->Prop
 |[]=>K
 |o::l=>eH P M L ops o (fI P M L ops K l)
section
variable {P:Program}{M:Option (aa->Prop)}{L:List Nat}{ops:Array Oper}{Q:Exit->Act->World->Prop}
theorem fM {r:Result Next}{K K':Value->World->Prop}(h:∀v w,K v w->K' v w)(hh:mO P r K):mO P r K':=by
 unfold mO at*
 cases r with
 |ok n w'=>
   cases n<;>simp only at hh ⊢
   case value v=>exact h _ _ hh
   case skip=>exact h _ _ hh
   case enter f args=>exact SM hh λe w'' ⟨v,he,hk⟩=>⟨v,he,h _ _ hk⟩
   case row row args=>exact Rows.mono hh λv w'' hk=>h _ _ hk
   case round l f tmps assign body=>exact Sh hh λe w'' ⟨v,he,hk⟩=>⟨v,he,h _ _ hk⟩
 |halt x w'=>exact hh
theorem sf {r:Result Next}{C:Prop}(hh:mO P r (λ_ _=>C)):C:=by
 unfold mO at hh
 cases r with
 |ok n w'=>
   cases n<;>simp only at hh
   case value v=>exact hh
   case skip=>exact hh
   case enter f args=>
    obtain⟨e,w',fr,⟨v,_,hk⟩,_⟩:=hh []
    exact hk
   case row row args=>
    obtain⟨v,w',hk,_⟩:=hh default []
    exact hk
   case round l f tmps assign body=>
    obtain⟨e,w',⟨v,_,hk⟩,_⟩:=hh.2 default [] (room_wide _)
    exact hk
 |halt x w'=>exact hh.elim
theorem fP {c:Nat}{r:World->Result Next}{K K':Value->World->Prop}{w:World}(h:∀v w,K v w->K' v w)(hh:eO P M c r K w):eO P M c r K' w:=
 match c,hh with
 |0,⟨v,h1,h2⟩=>⟨v,h1,h _ _ h2⟩
 |1,⟨v,h1,h2⟩=>⟨v,h1,h _ _ h2⟩
 |_+2,hh=>fM (λv w ⟨h1,h2⟩=>⟨h1,h v w h2⟩) hh
theorem vj {c:Nat}{M':Option (aa->Prop)}{r:World->Result Next}{K:Value->World->Prop}{w:World}(hG:iS M w.heap)(hc:c=0\/c=1\/M'=M)(hh:eO P M' c r K w):eO P M' c r (λv w'=>iS M w'.heap/\K v w') w:=
 match c,hh with
 |0,⟨v,h1,h2⟩=>⟨v,h1,hG,h2⟩
 |1,⟨v,h1,h2⟩=>⟨v,h1,hG,h2⟩
 |n+2,hh=>by
   have e:M'=M:=by
    rcases hc with h|h|h
    ·omega
    ·omega
    ·exact h
   subst e
   exact fM (λv w ⟨h1,h2⟩=>⟨h1,h1,h2⟩) hh
theorem tJ {c:Nat}{r:World->Result Next}{C:Prop}{w:World}(hh:eO P M c r (λ_ _=>C) w):C:=
 match c,hh with
 |0,⟨_,_,h2⟩=>h2
 |1,⟨_,_,h2⟩=>h2
 |_+2,hh=>sf (fM (K':=λ_ _=>C) (λ_ _ ⟨_,h2⟩=>h2) hh)
theorem wh {M':Option (aa->Prop)}{c d:Nat}{r s:World->Result Next}{K:Value->Value->World->Prop}{w:World}
  (hc:c=0\/d=0\/(c=1/\d=1)\/(M'=M/\M.isSome=true/\(c=1\/d=1)))
  (h:eO P M c r (λv w'=>eO P M' d s (λu w''=>K v u w'') w') w):eO P M' d s (λu w'=>eO P M c r (λv w''=>K v u w'') w') w:=by
 rcases hc with rfl|rfl|⟨rfl,rfl⟩|⟨rfl,hM,rfl|rfl⟩
 ·obtain⟨v,h1,h2⟩:=h
  exact fP (λu w' hk=>⟨v,h1,hk⟩) h2
 ·have hy:∃u,∀w',s w'=.ok (.value u) w':=tJ (fP (K':=λ_ _=>∃u,∀w',s w'=.ok (.value u) w') (λv w' ⟨u,h1,_⟩=>⟨u,h1⟩) h)
  obtain⟨u,hu⟩:=hy
  refine⟨u,hu,fP (λv w' ⟨u',h1,h2⟩=>?_) h⟩
  have e:=(hu w').symm.trans (h1 w')
  simp only[RQ,RM,and_true] at e
  rw[e];exact h2
 ·obtain⟨v,h1,u,h2,h3⟩:=h
  exact⟨u,h2,v,h1,h3⟩
 ·cases M' with
  |none=>cases hM
  |some G=>
    obtain⟨v,h1,h2⟩:=h
    exact fP (λu w' hk=>⟨v,h1,hk⟩) h2
 ·cases M' with
  |none=>cases hM
  |some G=>
    match c,h with
    |0,⟨v,h1,u,h2,h3⟩=>exact⟨u,h2,v,h1,h3⟩
    |1,⟨v,h1,u,h2,h3⟩=>exact⟨u,h2,v,h1,h3⟩
    |c+2,h=>
      have hy:∃u,∀w',G w'.heap->s w'=.ok (.value u) w':=sf (fM (K':=λ_ _=>∃u,∀w',G w'.heap->s w'=.ok (.value u) w') (λv w' ⟨_,u,h1,_⟩=>⟨u,h1⟩) h)
      obtain⟨u,hu⟩:=hy
      refine⟨u,hu,fM (λv w' ⟨hg,u',h1,h2⟩=>⟨hg,?_⟩) h⟩
      have e:=(hu w' hg).symm.trans (h1 w' hg)
      simp only[RQ,RM,and_true] at e
      rw[e];exact h2
theorem pv {w:World}(hG:iS M w.heap):II M w.heap w.heap:=by
 cases M with
 |none=>rfl
 |some G=>exact hG
theorem u9 {row:String}{args:Array Value}{w:World}{R:Value->World->Prop}{r:Option Nat}(h:Rows P row args w R):RowsIn (FW r) 0 P row args w R:=
 λc cs _=>let ⟨v,w',h1,h2⟩:=h c cs;⟨v,w',h1,(T8 h2).mono λm _=>fenced_wide P m⟩
theorem mQ {o:Oper}{a:Act}{w:World}{K:Act->World->Prop}{rn:Option Nat}(hh:mO P ((execOp a.eval o).run P w) (λv w'=>K (a.put o.dst v) w')):o.wpIn (FW rn) 0 P a w K Q:=by
 refine⟨λ_ _=>trivial,?_⟩
 have he:o.semAt (FW rn).round a.eval=execOp a.eval o:=by
  refine Oper.semAt_eq _ _ _ λc hc=>?_
  unfold mO at hh
  simp only[execOp,hc,Sem.run_bind] at hh
  generalize (resolve a.eval c o.type).run P w=r at hh
  cases r with
  |ok d w'=>exact hh
  |halt x w'=>exact hh
 rw[he]
 unfold mO at hh
 generalize (execOp a.eval o).run P w=r at*
 have hd:(FW rn).depth.isSome=true->1<=0:=λh=>by cases h
 cases r with
 |ok n w'=>
   cases n<;>simp only at hh<;>simp only[Oper.uponIn]
   case value v=>exact hh
   case skip=>exact hh
   case enter f args=>
    refine⟨hd,?_⟩
    have h1:Calls P f args w' λ
      |.returned v,w''=>K (a.put o.dst v) w''
      |.panicked chain,w''=>Q (.panic chain) a w''
      |.outgrown,_=>LetsOut Q:=SM hh λe w'' ⟨v,he,hk⟩=>by subst he;exact hk
    exact callsIn_wide.2 h1
   case row row args=>exact⟨hd,u9 hh⟩
   case round l f tmps assign body=>
    refine⟨hd,?_⟩
    have h1:RoundIn O4 0 P l f tmps assign body w' λ
      |.returned v,w''=>K (a.put o.dst v) w''
      |.panicked chain,w''=>Q (.panic chain) a w''
      |.outgrown,_=>LetsOut Q:=Sh hh λe w'' ⟨v,he,hk⟩=>by subst he;exact hk
    exact h1
 |halt x w'=>exact hh.elim
theorem uo {c:Nat}{o:Oper}{a:Act}{w:World}{K:Act->World->Prop}{rn:Option Nat}(hG:c=1->iS M w.heap)
  (hh:eO P M c (λw=>(execOp a.eval o).run P w) (λv w'=>K (a.put o.dst v) w') w):o.wpIn (FW rn) 0 P a w K Q:=by
 match c,hG,hh with
 |0,_,⟨v,h1,h2⟩=>have h3:=h1 w;dsimp only at h3;exact mQ (by rw[h3];exact h2)
 |1,hG,⟨v,h1,h2⟩=>have h3:=h1 w (pv (hG rfl));dsimp only at h3;exact mQ (by rw[h3];exact h2)
 |_+2,_,hh=>exact mQ (fM (λv w' ⟨_,h2⟩=>h2) hh)
theorem sM {o:Oper}{a:Act}{w:World}{K K':Act->World->Prop}(h:∀a w,K a w->K' a w)(hh:eH P M L ops o K a w):eH P M L ops o K' a w:=by
 unfold eH at*
 split
 ·rename_i hw
  rw[if_pos hw] at hh
  exact fP (λv w hk=>h _ _ hk) hh
 ·rename_i hw
  rw[if_neg hw] at hh
  exact h _ _ hh
theorem mZ {M':Option (aa->Prop)}{o:Oper}{a:Act}{w:World}{K:Act->World->Prop}(hG:iS M w.heap)(hc:dh P L o=0\/dh P L o=1\/M'=M)(hh:eH P M' L ops o K a w):eH P M' L ops o (λa w=>iS M w.heap/\K a w) a w:=by
 unfold eH at*
 split
 ·rename_i hw
  rw[if_pos hw] at hh
  exact vj hG hc hh
 ·rename_i hw
  rw[if_neg hw] at hh
  exact⟨hG,hh⟩
theorem fK {k i:Nat}{a:Act}{w:World}{K K':Act->World->Prop}(h:∀a w,K a w->K' a w)(hh:bS P M k L ops i K a w):bS P M k L ops i K' a w:=by
 unfold bS at*
 split
 ·rename_i ho;rw[ho] at hh;exact h _ _ hh
 ·rename_i o ho;rw[ho] at hh;exact sM h hh
theorem yI {o:Oper}{a:Act}{w:World}{K:Act->World->Prop}{rn:Option Nat}(hG:dh P L o=1->iS M w.heap)(hh:eH P M L ops o K a w):
  if LX o (yielded ops a.tmps)=true then o.wpIn (FW rn) 0 P a w K Q else ((∀f,o.about P w a.eval=some f->(FW rn).fn f)/\K (a.put o.dst undef) w):=by
 unfold eH at hh
 split
 ·rename_i hw
  rw[if_pos hw] at hh
  exact uo hG hh
 ·rename_i hw
  rw[if_neg hw] at hh
  exact⟨λ_ _=>trivial,hh⟩
theorem jf {k i:Nat}{a:Act}{w:World}{K:Act->World->Prop}{rn:Option Nat}(hG:∀o,ops[i]?=some o->i<k->dh P L o=1->iS M w.heap)(hh:bS P M k L ops i K a w):wpOpIn (FW rn) 0 P ops Q i K a w:=by
 unfold bS at hh
 unfold wpOpIn
 split
 ·rename_i ho;rw[ho] at hh;exact hh
 ·rename_i o ho
  rw[ho] at hh
  refine yI (M:=mP M k i) (λhc=>?_) hh
  unfold mP
  cases hk:L5 i k with
  |true=>exact hG o ho (fi.1 hk) hc
  |false=>exact trivial
theorem iR {rn:Option Nat}{K:Act->World->Prop}(hK:∀a w,K a w->Q .normal a w):∀(l:List Oper) (a:Act) (w:World),fI P none L ops K l a w->wpListIn (FW rn) 0 P ops Q l a w
 |[],a,w,h=>hK _ _ h
 |o::l,a,w,h=>by
   have h1:eH P none L ops o (wpListIn (FW rn) 0 P ops Q l) a w:=sM (λa w hk=>iR hK l a w hk) h
   have h2:=yI (M:=none) (Q:=Q) (rn:=rn) (λ_=>trivial) h1
   unfold wpListIn
   split
   ·rename_i hw;rw[if_pos hw] at h2;exact h2
   ·rename_i hw;rw[if_neg hw] at h2;exact h2
def cV (P:Program)(L:List Nat)(m:Bool)(ops:Array Oper)(x y:Oper):Bool:=
 SN ops x y&&(dh P L x==0||dh P L y==0||(dh P L x==1&&dh P L y==1)||(m&&(dh P L x==1||dh P L y==1)))&&
 (match x.op with|.select ..=>false|_=>true)&&(match y.op with|.select ..=>false|_=>true)
theorem kX {m:Bool}{x y:Oper}(h:cV P L m ops x y=true):SN ops x y=true/\
  (dh P L x=0\/dh P L y=0\/(dh P L x=1/\dh P L y=1)\/(m=true/\(dh P L x=1\/dh P L y=1)))/\
  (∀cs b,x.op≠.select cs b)/\(∀cs b,y.op≠.select cs b):=by
 unfold cV at h
 simp only[KD,Lo,beq_iff_eq] at h
 obtain⟨⟨⟨h1,h2⟩,h3⟩,h4⟩:=h
 refine⟨h1,?_,?_,?_⟩
 ·rcases h2 with ((h2|h2)|h2)|h2
  ·exact .inl h2
  ·exact .inr (.inl h2)
  ·exact .inr (.inr (.inl h2))
  ·exact .inr (.inr (.inr h2))
 ·intro cs b e;rw[e] at h3;cases h3
 ·intro cs b e;rw[e] at h4;cases h4
theorem ni {M':Option (aa->Prop)}{m:Bool}{x y:Oper}(hc:cV P L m ops x y=true)(hm:m=true->M'=M/\M.isSome=true){K:Act->World->Prop}{a:Act}{w:World}
  (h:eH P M L ops x (eH P M' L ops y K) a w):eH P M' L ops y (eH P M L ops x K) a w:=by
 obtain⟨hap,hcls,hsx,hsy⟩:=kX hc
 have hcls:dh P L x=0\/dh P L y=0\/(dh P L x=1/\dh P L y=1)\/(M'=M/\M.isSome=true/\(dh P L x=1\/dh P L y=1)):=by
  rcases hcls with h|h|h|⟨h,k⟩
  ·exact .inl h
  ·exact .inr (.inl h)
  ·exact .inr (.inr (.inl h))
  ·exact .inr (.inr (.inr ⟨(hm h).1,(hm h).2,k⟩))
 obtain⟨a1,a2,a3⟩:=Oper.apart_spec hap
 have wy:∀v,LX y (yielded ops (a.put x.dst v).tmps)=LX y (yielded ops a.tmps):=λv=>wanted_put y a x.dst v a1
 have wx:∀v,LX x (yielded ops (a.put y.dst v).tmps)=LX x (yielded ops a.tmps):=λv=>wanted_put x a y.dst v a3
 have ey:∀v,execOp (a.put x.dst v).eval y=execOp a.eval y:=λv=>execOp_put (ops:=ops) y hsy a x.dst v a1
 have ex:∀v,execOp (a.put y.dst v).eval x=execOp a.eval x:=λv=>execOp_put (ops:=ops) x hsx a y.dst v a3
 have pc:∀v u,(a.put x.dst v).put y.dst u=(a.put y.dst u).put x.dst v:=λv u=>Act.put_comm a v u a2
 unfold eH at h ⊢
 simp only[wy,wx,ey,ex,pc] at h ⊢
 by_cases hx:LX x (yielded ops a.tmps)=true
 ·by_cases hy:LX y (yielded ops a.tmps)=true
  ·simp only[if_pos hx,if_pos hy] at h ⊢
   exact wh hcls h
  ·simp only[if_pos hx,if_neg hy] at h ⊢
   exact h
 ·by_cases hy:LX y (yielded ops a.tmps)=true
  ·simp only[if_neg hx,if_pos hy] at h ⊢
   exact h
  ·simp only[if_neg hx,if_neg hy] at h ⊢
   exact h
def aX (ops:Array Oper)(listed:Array Bool):List Nat:=(L7 ops.size).filter λi=>!listed.getD i true
def mM (acc:List Nat):List Edge->Nat
 |[]=>0
 |e::r=>bif Mk .any e then (mM acc r|||2^e.on)|||acc.getD e.on 0 else mM acc r
def fw:List Oper->List Nat->List Nat
 |[],acc=>acc
 |o::l,acc=>fw l (acc++[mM acc o.after.toList])
theorem lu {acc:List Nat}{i:Nat}:∀{l:List Edge},(mM acc l).testBit i=true->∃e∈l,Mk .any e=true/\(e.on=i\/(acc.getD e.on 0).testBit i=true)
 |[],h=>by simp[mM] at h
 |e::r,h=>by
   unfold mM at h
   cases hb:Mk .any e with
   |false=>
     rw[hb] at h
     obtain⟨e',h1,h2⟩:=lu (l:=r) (by simpa using h)
     exact⟨e',KO _ h1,h2⟩
   |true=>
     rw[hb] at h
     simp only[cond_true,Nat.testBit_or,Lo] at h
     rcases h with (h|h)|h
     ·obtain⟨e',h1,h2⟩:=lu h
      exact⟨e',KO _ h1,h2⟩
     ·exact⟨e,Kw,hb,.inl (by simpa[Nat.testBit_two_pow] using h)⟩
     ·exact⟨e,Kw,hb,.inr h⟩
theorem j9:∀(l:List Oper) (acc:List Nat) (j:Nat),j<acc.length->(fw l acc).getD j 0=acc.getD j 0
 |[],_,_,_=>rfl
 |o::l,acc,j,h=>by
   unfold fw
   rw[j9 l _ j (by simp;omega)]
   simp[KQ,KT h]
theorem yl:∀(l:List Oper) (acc:List Nat) (k:Nat) (o:Oper),l[k]?=some o->∃acc',(fw l acc).getD (acc.length+k) 0=mM acc' o.after.toList/\∀i,i<acc.length+k->acc'.getD i 0=(fw l acc).getD i 0
 |[],_,_,_,h=>by simp at h
 |o::l,acc,0,o',h=>by
   have e:o=o':=by simpa using h
   subst e
   refine⟨acc,?_,λi hi=>?_⟩
   ·unfold fw
    rw[j9 l _ _ (by simp)]
    simp[KQ]
   ·unfold fw
    rw[j9 l _ _ (by simp at hi ⊢;omega)]
    simp[KQ,KT (show i<acc.length by omega)]
 |o::l,acc,k+1,o',h=>by
   obtain⟨acc',h1,h2⟩:=yl l (acc++[mM acc o.after.toList]) k o' (by simpa using h)
   have e:(acc++[mM acc o.after.toList]).length+k=acc.length+(k+1):=by simp;omega
   rw[e] at h1 h2
   exact⟨acc',by unfold fw;exact h1,λi hi=>by unfold fw;exact h2 i hi⟩
def waits (B:List Nat)(j i:Nat):Bool:=(B.getD j 0).testBit i
def jh (P:Program)(L:List Nat)(k:Nat)(ops:Array Oper)(B:List Nat):Bool:=
 (L7 ops.size).all λj=>match ops[j]? with
  |some oj=>(oj.after.all λe=>!Mk .any e||decide (e.on<j))&&
    (L7 j).all λi=>match ops[i]? with
     |some oi=>cV P L (L5 j k) ops oi oj||waits B j i
     |none=>false
  |none=>false
def dj (P:Program)(L:List Nat)(k:Nat)(ops:Array Oper):Bool:=jh P L k ops (fw ops.toList [])
def ordered (B:List Nat)(i j:Nat):Bool:=waits B j i||waits B i j
def GB (P:Program):List Oper->Nat->List Nat
 |[],_=>[]
 |o::r,k=>bif Nat.ble 2 (gY P o.op) then k::GB P r (k+1) else GB P r (k+1)
def oF (P:Program)(B E:List Nat):List Oper->Nat->List Nat->List Nat
 |[],_,_=>[]
 |o::r,k,acc=>(match o.dst with
   |some d=>bif K3 (gY P o.op) 1&&(E.all (ordered B k)&&acc.all (ordered B k)) then d::oF P B E r (k+1) (k::acc) else oF P B E r (k+1) acc
   |none=>oF P B E r (k+1) acc)
def qp (P:Program)(ops:Array Oper):List Nat:=oF P (fw ops.toList []) (GB P ops.toList 0) ops.toList 0 []
def Bb (f:Nat->Bool):Nat->Nat->Nat
 |_,0=>0
 |k,n+1=>bif f k then k else Bb f (k+1) n
def ux (P:Program)(L:List Nat)(ops:Array Oper):Nat:=let B:=fw ops.toList [];Bb (λk=>jh P L k ops B) 0 (ops.size+1)
theorem lJ {k:Nat}(h:dj P L k ops=true){j:Nat}{oj:Oper}(hj:ops[j]?=some oj){e:Edge}(he:e∈oj.after)(hb:Mk .any e=true):e.on<j:=by
 unfold dj jh at h
 have hlt:j<ops.size:=(KA.1 hj).1
 have:=LO.1 h j (Lg.2 hlt)
 rw[hj] at this
 simp only[KD] at this
 have h2:=Array.all_eq_true_iff_forall_mem.1 this.1 e he
 simpa[hb] using h2
theorem j5 {k:Nat}(h:dj P L k ops=true){i j:Nat}{oi oj:Oper}(hi:ops[i]?=some oi)(hj:ops[j]?=some oj)(hij:i<j):cV P L (L5 j k) ops oi oj=true\/waits (fw ops.toList []) j i=true:=by
 unfold dj jh at h
 have hlt:j<ops.size:=(KA.1 hj).1
 have:=LO.1 h j (Lg.2 hlt)
 rw[hj] at this
 simp only[KD] at this
 have h2:=LO.1 this.2 i (Lg.2 hij)
 rw[hi] at h2
 simpa[Lo] using h2
def uu (ops:Array Oper)(listed:Array Bool):Prop:=
 ∀j oj,ops[j]?=some oj->listed.getD j false=true->∀e∈oj.after,Mk .any e=true->listed.getD e.on false=true
theorem mH {listed:Array Bool}(hc:uu ops listed)(hlt:∀j oj,ops[j]?=some oj->∀e∈oj.after,Mk .any e=true->e.on<j):∀(j i:Nat) (oj:Oper),ops[j]?=some oj->
  (∀e∈oj.after,Mk .any e=true->listed.getD e.on false=true)->waits (fw ops.toList []) j i=true->listed.getD i false=true:=by
 intro j
 induction j using Nat.strongRecOn with
 |_ j ih=>
   intro i oj hj hall h
   unfold waits at h
   obtain⟨acc',h1,h2⟩:=yl ops.toList [] j oj (by simpa using hj)
   simp only[List.length_nil,LB] at h1 h2
   rw[h1] at h
   obtain⟨e,he,hb,h3⟩:=lu h
   have he':e∈oj.after:=by simpa using he
   have hl:=hall e he' hb
   have hej:=hlt j oj hj e he' hb
   rcases h3 with h3|h3
   ·rw[<-h3];exact hl
   ·rw[h2 _ hej] at h3
    have hjl:j<ops.size:=(KA.1 hj).1
    have hoe:ops[e.on]?=some (ops[e.on]'(by omega)):=Lb (by omega)
    exact ih e.on hej i _ hoe (hc e.on _ hoe hl) h3
theorem qm {K:Act->World->Prop}{k j:Nat}(hMs:∀i,i<k->M.isSome=true):∀(l1 l2:List Nat),(∀i∈l1,i<j/\∃oi oj,ops[i]?=some oi/\ops[j]?=some oj/\cV P L (L5 j k) ops oi oj=true)->
  ∀a w,dO P M k L ops K (l1++j::l2) a w->bS P M k L ops j (dO P M k L ops K (l1++l2)) a w
 |[],l2,_,a,w,h=>h
 |i::l1,l2,hc,a,w,h=>by
   have h1:bS P M k L ops i (bS P M k L ops j (dO P M k L ops K (l1++l2))) a w:=fK (qm hMs l1 l2 (λk hk=>hc k (KO _ hk))) h
   obtain⟨hij,oi,oj,hi,hj,hcm⟩:=hc i Kw
   have e:∀K',bS P M k L ops i K'=eH P (mP M k i) L ops oi K':=λK'=>by funext a w;simp only[bS,hi]
   have e':∀K',bS P M k L ops j K'=eH P (mP M k j) L ops oj K':=λK'=>by funext a w;simp only[bS,hj]
   rw[e,e'] at h1
   have h2:=ni hcm (λhb=>by
    have hjk:j<k:=fi.1 hb
    have hbi:L5 i k=true:=fi.2 (by omega)
    unfold mP
    rw[hb,hbi]
    exact⟨rfl,hMs j hjk⟩) h1
   simp only[Ot,dO]
   rw[e,e']
   exact h2
theorem gp (p:Nat->Bool)(j:Nat)(hj:p j=true):∀(n:Nat),j<n->∃l1 l2,(L7 n).filter p=l1++j::l2/\(∀i∈l1,i<j/\p i=true)/\
  (L7 n).filter (λi=>p i&&decide (i≠j))=l1++l2
 |0,h=>by omega
 |n+1,h=>by
   rw[List.range_succ,LI,LI]
   by_cases hn:j=n
   ·subst hn
    refine⟨(L7 j).filter p,[],by simp[hj],?_,?_⟩
    ·intro i hi
     rw[KP,Lg] at hi
     exact hi
    ·simp only[ne_eq,Lu]
     rw[show List.filter (λi=>p i&&decide (¬i=j)) [j]=[] from by simp,Lu]
     exact MT λi hi=>by
      have:i≠j:=by have:=Lg.1 hi;omega
      simp[this]
   ·obtain⟨l1,l2,h1,h2,h3⟩:=gp p j hj n (by omega)
    refine⟨l1,l2++[n].filter p,by rw[h1];simp,h2,?_⟩
    rw[h3,List.append_assoc]
    congr 2
    have:n≠j:=λe=>hn e.symm
    simp[List.filter_cons,this]
def Ho (P:Program)(L:List Nat)(k:Nat)(ops:Array Oper)(listed:Array Bool):Prop:=∃i o,ops[i]?=some o/\listed.getD i true=false/\i<k/\dh P L o=1
theorem CY {rn:Option Nat}{k:Nat}(hMs:∀i,i<k->M.isSome=true)(hB:dj P L k ops=true):∀(fuel:Nat) (listed:Array Bool) (a:Act) (w:World),(Ho P L k ops listed->iS M w.heap)->listed.size=ops.size->uu ops listed->(aX ops listed).length=fuel->
  dO P M k L ops (λa w=>Q .normal a w) (aX ops listed) a w->wpAnyIn (FW rn) 0 P .any ops Q fuel listed a w:=by
 intro fuel
 induction fuel with
 |zero=>
   intro listed a w hG hs hc hl h
   have h0:aX ops listed=[]:=List.length_eq_zero_iff.1 hl
   refine⟨?_,by rw[h0] at h;exact h⟩
   rw[List.eq_nil_iff_forall_not_mem]
   intro j hj
   obtain⟨hu,o,ho,_⟩:=mem_ready.1 hj
   have hlt:j<ops.size:=(KA.1 ho).1
   have:j∈aX ops listed:=KP.2 ⟨Lg.2 hlt,by simp[hu]⟩
   rw[h0] at this
   cases this
 |succ fuel ih=>
   intro listed a w hG hs hc hl h
   refine⟨λh0=>?_,λj hj=>?_⟩
   ·-- the first that is not listed is ready
    exfalso
    cases hU:aX ops listed with
    |nil=>rw[hU] at hl;simp at hl
    |cons m rest=>
      have hm:m∈aX ops listed:=by rw[hU];exact Kw
      have hmin:∀i,i<m->listed.getD i false=true:=by
       intro i hi
       obtain⟨hm1,hm2⟩:=KP.1 hm
       have hmlt:=Lg.1 hm1
       cases hli:listed.getD i true with
       |true=>
         have:i<listed.size:=by omega
         simp[this] at hli ⊢;exact hli
       |false=>
         have hi2:i∈aX ops listed:=KP.2 ⟨Lg.2 (by omega),by simp[hli]⟩
         rw[hU] at hi2
         have hsorted:(aX ops listed).Pairwise (·<·):=Pm _ List.pairwise_lt_range
         rw[hU,List.pairwise_cons] at hsorted
         rcases List.mem_cons.1 hi2 with e|e
         ·omega
         ·have:=hsorted.1 i e;omega
      obtain⟨hm1,hm2⟩:=KP.1 hm
      have hmlt:=Lg.1 hm1
      have ho:ops[m]?=some ops[m]:=Lb hmlt
      have:m∈Region.ready .any ops listed:=mem_ready.2 ⟨by simpa using hm2,_,ho,λe he hb=>hmin _ (lJ hB ho he hb)⟩
      rw[h0] at this
      cases this
   ·obtain⟨hu,oj,hoj,hall⟩:=mem_ready.1 hj
    have hlt:j<ops.size:=(KA.1 hoj).1
    obtain⟨l1,l2,e1,e2,e3⟩:=gp (λi=>!listed.getD i true) j (by simp[hu]) ops.size hlt
    have e1':aX ops listed=l1++j::l2:=e1
    have e4:aX ops (listed.setIfInBounds j true)=l1++l2:=by
     rw[<-e3]
     unfold aX
     refine MT λi hi=>?_
     have hi':i<listed.size:=by rw[hs];exact Lg.1 hi
     by_cases hij:i=j
     ·subst hij;simp[hi']
     ·rw[getD_set_ne true (Ne.symm hij)];simp[hij]
    have hwait:∀i,listed.getD i true=false->i<ops.size->waits (fw ops.toList []) j i=false:=by
     intro i hiu hil
     cases h3:waits (fw ops.toList []) j i with
     |false=>rfl
     |true=>
       have h4:=mH hc (λj oj hj e he hb=>lJ hB hj he hb) j i oj hoj hall h3
       have:i<listed.size:=by omega
       simp[this] at hiu h4
       rw[hiu] at h4;cases h4
    rw[e1'] at h
    have h2:=qm hMs l1 l2 (λi hi=>by
     obtain⟨hij,hiu⟩:=e2 i hi
     have hil:i<ops.size:=by omega
     have hoi:ops[i]?=some ops[i]:=Lb hil
     refine⟨hij,ops[i],oj,hoi,hoj,?_⟩
     rcases j5 hB hoi hoj hij with h3|h3
     ·exact h3
     ·rw[hwait i (by simpa using hiu) hil] at h3;cases h3) a w h
    have hgj:∀o,ops[j]?=some o->j<k->dh P L o=1->iS M w.heap:=λo ho hk hc1=>hG ⟨j,o,ho,hu,hk,hc1⟩
    have go:∀a' w',(Ho P L k ops (listed.setIfInBounds j true)->iS M w'.heap)->dO P M k L ops (λa w=>Q .normal a w) (l1++l2) a' w'->wpAnyIn (FW rn) 0 P .any ops Q fuel (listed.setIfInBounds j true) a' w':=by
     intro a' w' hg hk
     refine ih (listed.setIfInBounds j true) a' w' hg (by simp[hs]) ?_ ?_ (by rw[e4];exact hk)
     ·intro q ok hq hql e he hb
      by_cases hqj:j=q
      ·subst hqj
       have:ok=oj:=Kq (hq.symm.trans hoj)
       subst this
       exact getD_set_true (hall e he hb)
      ·rw[getD_set_ne false hqj] at hql
       exact getD_set_true (hc q ok hq hql e he hb)
     ·rw[e4]
      rw[e1'] at hl
      simp only[List.length_append,K1] at hl ⊢
      omega
    by_cases hp:Ho P L k ops (listed.setIfInBounds j true)
    ·obtain⟨i,oi,hoi,hil,hik,hci⟩:=hp
     have hij:j≠i:=by
      intro e;subst e
      have:j<listed.size:=by omega
      simp[this] at hil
     rw[getD_set_ne true hij] at hil
     have hok:iS M w.heap:=hG ⟨i,oi,hoi,hil,hik,hci⟩
     have hisz:i<ops.size:=(KA.1 hoi).1
     have hclass:dh P L oj=0\/dh P L oj=1\/mP M k j=M:=by
      by_cases hjk:j<k
      ·right;right
       have:L5 j k=true:=fi.2 hjk
       unfold mP;rw[this];rfl
      ·have hlt2:i<j:=by omega
       have hb:L5 j k=false:=vg hjk
       rcases j5 hB hoi hoj hlt2 with h3|h3
       ·rw[hb] at h3
        obtain⟨_,h4,_,_⟩:=kX h3
        rcases h4 with h4|h4|⟨_,h4⟩|⟨h4,_⟩
        ·rw[hci] at h4;cases h4
        ·exact .inl h4
        ·exact .inr (.inl h4)
        ·cases h4
       ·rw[hwait i hil hisz] at h3;cases h3
     have h3:bS P M k L ops j (λa w=>iS M w.heap/\dO P M k L ops (λa w=>Q .normal a w) (l1++l2) a w) a w:=by
      unfold bS at h2 ⊢
      rw[hoj] at h2 ⊢
      exact mZ hok hclass h2
     exact jf hgj (fK (λa' w' h5=>go a' w' (λ_=>h5.1) h5.2) h3)
    ·exact jf hgj (fK (λa' w' h5=>go a' w' (λq=>absurd q hp) h5) h2)
theorem gN {K:Act->World->Prop}{k:Nat}{M':Option (aa->Prop)}:∀(l:List Oper) (s:Nat),(∀j,j<l.length->l[j]?=ops[s+j]?)->(∀j,j<l.length->mP M k (s+j)=M')->dO P M k L ops K (QX s l.length)=fI P M' L ops K l
 |[],s,_,_=>rfl
 |o::l,s,hl,hm=>by
   have h0:ops[s]?=some o:=by simpa using (hl 0 (by simp)).symm
   have ih:=gN (K:=K) (k:=k) (M':=M') l (s+1) (λj hj=>by have:=hl (j+1) (by simp;omega);simpa[Nat.add_assoc,Nat.add_comm 1 j] using this) (λj hj=>by have:=hm (j+1) (by simp;omega);rw[<-this];congr 1;omega)
   have hm0:mP M k s=M':=by simpa using hm 0 (by simp)
   funext a w
   simp only[K1,List.range'_succ,dO,fI,bS,h0,ih,hm0]
theorem oa {K:Act->World->Prop}{k:Nat}:∀(l1 l2:List Nat),dO P M k L ops K (l1++l2)=dO P M k L ops (dO P M k L ops K l2) l1
 |[],_=>rfl
 |i::l1,l2=>by
   funext a w
   simp only[Ot,dO]
   rw[oa l1 l2]
theorem gG {rn:Option Nat}{id:Nat}{a:Act}{w:World}{k:Nat}(hm:P.follows .mixedOrders=true)(hMs:∀i,i<k->M.isSome=true)(hB:dj P L k ops=true)(hG:iS M w.heap)
  (h:fI P M L ops (fI P none L ops (λa w=>Q .normal a w) (ops.toList.drop k)) (ops.toList.take k) a {w with drawn:=w.drawn+1}):(OQ id ops true).wpIn (FW rn) 0 P Q a w:=by
 have hu:aX ops (LV ops.size false)=L7 ops.size:=by
  unfold aX
  rw[List.filter_eq_self]
  intro i hi
  have:=Lg.1 hi
  simp[this]
 refine wpIn_region_any hm (CY hMs hB ops.size _ a _ (λ_=>hG) (by simp) ?_ (by rw[hu];simp) ?_)
 ·intro j oj _ hl
  have:∀j,(LV ops.size false).getD j false=false:=λj=>by
   rcases Nat.lt_or_ge j ops.size with h|h
   ·simp[h]
   ·simp[h]
  rw[this] at hl
  cases hl
 ·rw[hu,List.range_eq_range']
  have hsplit:QX 0 ops.size=QX 0 (ops.toList.take k).length++QX (ops.toList.take k).length (ops.toList.drop k).length:=by
   have h1:ops.size=(ops.toList.take k).length+(ops.toList.drop k).length:=by simp;omega
   rw[h1,<-List.range'_append_1]
   simp
  have t1:=gN (P:=P) (M:=M) (L:=L) (ops:=ops) (K:=fI P none L ops (λa w=>Q .normal a w) (ops.toList.drop k)) (k:=k) (M':=M) (ops.toList.take k) 0 (λj hj=>by
   have hj':j<k:=by simp at hj;omega
   rw[List.getElem?_take,if_pos hj',LB,Pb]) (λj hj=>by
   have:L5 (0+j) k=true:=fi.2 (by simp at hj;omega)
   unfold mP;rw[this];rfl)
  have t2:=gN (P:=P) (M:=M) (L:=L) (ops:=ops) (K:=λa w=>Q .normal a w) (k:=k) (M':=none) (ops.toList.drop k) (ops.toList.take k).length (λj hj=>by
   have e:(ops.toList.take k).length=k:=by simp at hj ⊢;omega
   rw[e,List.getElem?_drop,Pb]) (λj hj=>by
   have:L5 ((ops.toList.take k).length+j) k=false:=vg (by simp at hj ⊢;omega)
   unfold mP;rw[this];rfl)
  rw[hsplit,oa,t2,t1]
  exact h
theorem qV {rn:Option Nat}{id:Nat}{a:Act}{w:World}(h:fI P none L ops (λa w=>Q .normal a w) ops.toList a w):(OQ id ops false).wpIn (FW rn) 0 P Q a w:=
 wpIn_region_list (iR (λ_ _ h=>h) _ _ _ h)
end
end Go.Proofs.YtkehfflpbpdokaaGreatDoor
