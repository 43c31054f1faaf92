/-
 Ground for all walks of this seat, over any program: what one operation does, said of the heap alone (the count of draws is left free), and the theorem that a region which draws its order may be walked in the order of the text where its operations commute.
-/
import Derived.Orders
import Derived.OrdersIn
import Derived.TacticsIn
import Derived.Tactics
import Derived.RangeFuncIn
import Derived.RangeFuncLeaves
open Array renaming getElem?_eq_some_iff->KO,getElem?_eq_getElem->K2,replicate->Lz,getElem?_toList->MD
open Bool renaming and_eq_true->KR,or_eq_true->LL,noConfusion->OT
open Go.Calls renaming mono->Sg
open Go.Code renaming region->Na
open Go.Fence renaming wide->PY
open Go.Next.value renaming injEq->O6
open Go.Oper renaming apart->QJ
open Go.Region renaming wanted->Ls,binds->LY
open Go.Result.ok renaming injEq->Pe
open Go.RoundIn renaming mono->RP
open Go.Sem renaming run->L4
open Go.StepsIn renaming of_steps->TF
open Go.World renaming freeze->RO
open List renaming mem_range->KS,mem_cons_self->KV,mem_filter->K3,mem_cons_of_mem->K7,getElem?_append_left->K9,range->Lg,length_cons->Ln,getD->Lo,all_eq_true->Lv,filter_append->LH,filter_congr->LM,range'->MF,cons_append->M4,append_nil->Nd
open List.Pairwise renaming filter->NW
open Nat renaming le_refl->KN,beq->K6,blt->LS,zero_add->LV
open Option.some renaming inj->K1
namespace Go.Proofs.YtdpdmbceakdlmaaGreatDoor
abbrev Heap:=Array Obj
def de (H:Heap)(a:Addr):Option Value:=
 match H[a.block]? with
 |some (.cells c _ _)=>if a.spot.isSome then none else c[a.off]?
 |_=>none
def nJ (H:Heap)(a:Addr):Bool:=
 match H[a.block]? with
 |some (.cells _ _ (lo,hi))=>lo<=a.off&&a.off<hi
 |_=>false
def Il (H:Heap)(r:Nat):Option (TypeId×Nat):=
 match H[r]? with
 |some (.cells c elem _)=>some (elem,c.size)
 |_=>none
def uC (H:Heap)(a:Addr)(v:Value):Heap:=
 H.modify a.block λ
  |.cells c elem frozen=>.cells (if a.spot.isSome then c else c.setIfInBounds a.off v) elem frozen
  |o=>o
def uv (H:Heap)(a:Addr)(n:Nat):Heap:=
 if n=0 then H else
 H.modify a.block λ
  |.cells c elem (lo,hi)=>.cells c elem (if lo==hi then (a.off,a.off+n) else (min lo a.off,max hi (a.off+n)))
  |o=>o
def jN:Value->Bool
 |.agg _=>false
 |.tuple _=>false
 |_=>true
def wO:Obj->Bool
 |.cells ..=>false
 |_=>true
def wpS {α:Type}(P:Program):Sem α->Heap->(α->Heap->Prop)->Prop
 |.pure a,H,K=>K a H
 |.load _ a k,H,K=>∃v,de H a=some v/\wpS P (k v) H K
 |.store _ a v k,H,K=>jN v=true/\(∃u,de H a=some u)/\nJ H a=false/\wpS P k (uC H a v) K
 |.new o k,H,K=>wpS P (k H.size) (H.push o) K
 |.shape r k,H,K=>wpS P (k (Il H r)) H K
 |.freeze a n k,H,K=>wpS P k (uv H a n) K
 |.frozen a k,H,K=>wpS P (k (nJ H a)) H K
 |.getObj r k,H,K=>∃o,H[r]?=some o/\wO o=true/\wpS P (k o) H K
 |.setObj r o k,H,K=>(∃u,H[r]?=some u/\wO u=true)/\wpS P k (H.setIfInBounds r o) K
 |.choose q k,H,K=>if q.forced then wpS P (k 0) H K else ∀t,wpS P (k (q.cut t)) H K
 |.sys _ _,_,_=>False
 |.program k,H,K=>wpS P (k P) H K
 |.mark _ k,H,K=>wpS P k H K
 |.halt _,_,_=>False
structure Alike (w w':World):Prop where
 rest:w'={w with heap:=w'.heap,drawn:=w'.drawn}
 drawn:w.drawn<=w'.drawn
theorem Alike.of_le {w w':World}(h:w'={w with heap:=w'.heap,drawn:=w'.drawn})(d:w.drawn<=w'.drawn):Alike w w':=⟨h,d⟩
theorem Alike.refl (w:World):Alike w w:=.of_le rfl (KN _)
theorem Alike.trans {a b c:World}(h:Alike a b)(k:Alike b c):Alike a c:=⟨by
 have h1:=h.rest
 have h2:=k.rest
 rw[h1] at h2
 exact h2,Nat.le_trans h.drawn k.drawn⟩
theorem Alike.os {w w':World}(h:Alike w w'):w'.os=w.os:=by rw[h.rest]
theorem Alike.output {w w':World}(h:Alike w w'):w'.output=w.output:=by rw[h.rest]
theorem gv {α β:Type}{P:Program}(s:Sem α)(f:α->Sem β):∀{H:Heap} {K:β->Heap->Prop},wpS P s H (λa H'=>wpS P (f a) H' K)->wpS P (s >>= f) H K:=by
 show ∀{H:Heap} {K:β->Heap->Prop},wpS P s H (λa H'=>wpS P (f a) H' K)->wpS P (s.bind f) H K
 induction s with
 |pure a=>intro H K hh;exact hh
 |load m a k ih=>intro H K ⟨v,h1,h2⟩;exact⟨v,h1,ih v h2⟩
 |store m a v k ih=>intro H K ⟨h1,h2,h3,h4⟩;exact⟨h1,h2,h3,ih h4⟩
 |new o k ih=>intro H K hh;exact ih _ hh
 |shape r k ih=>intro H K hh;exact ih _ hh
 |freeze a n k ih=>intro H K hh;exact ih hh
 |frozen a k ih=>intro H K hh;exact ih _ hh
 |getObj r k ih=>intro H K ⟨o,h1,h2,h3⟩;exact⟨o,h1,h2,ih o h3⟩
 |setObj r o k ih=>intro H K ⟨h1,h2⟩;exact⟨h1,ih h2⟩
 |choose q k ih=>
   intro H K hh
   simp only[wpS,Sem.bind] at hh ⊢
   split
   ·rename_i hq;rw[if_pos hq] at hh;exact ih _ hh
   ·rename_i hq;rw[if_neg hq] at hh;exact λt=>ih _ (hh t)
 |sys c k ih=>intro H K hh;exact hh
 |program k ih=>intro H K hh;exact ih _ hh
 |mark m k ih=>intro H K hh;exact ih hh
 |halt x=>intro H K hh;exact hh
theorem Gj {α:Type}{P:Program}(s:Sem α):∀{w:World} {K:α->Heap->Prop},wpS P s w.heap K->∃v w',s.run P w=.ok v w'/\K v w'.heap/\Alike w w':=by
 induction s with
 |pure a=>intro w K h;exact⟨a,w,rfl,h,.refl w⟩
 |load m a k ih=>
   intro w K ⟨v,h1,h2⟩
   obtain⟨u,w',r1,r2,r3⟩:=ih v h2
   have hc:w.cell? a=some v:=h1
   exact⟨u,w',by simp only[L4,hc];exact r1,r2,r3⟩
 |store m a v k ih=>
   intro w K ⟨h1,⟨u,h2⟩,h3,h4⟩
   obtain⟨x,w',r1,r2,r3⟩:=ih (w:=w.setCell a v) h4
   have hc:w.cell? a=some u:=h2
   have hf:w.frozen? a=false:=h3
   refine⟨x,w',?_,r2,(Alike.of_le rfl (KN _):Alike w (w.setCell a v)).trans r3⟩
   cases v<;>first|exact OT h1|(simp only[L4,hc,hf];exact r1)
 |new o k ih=>
   intro w K h
   obtain⟨x,w',r1,r2,r3⟩:=ih w.heap.size (w:={w with heap:=w.heap.push o}) h
   exact⟨x,w',r1,r2,(Alike.of_le rfl (KN _):Alike w {w with heap:=w.heap.push o}).trans r3⟩
 |shape r k ih=>
   intro w K h
   obtain⟨x,w',r1,r2,r3⟩:=ih _ h
   exact⟨x,w',r1,r2,r3⟩
 |freeze a n k ih=>
   intro w K h
   have e:(w.freeze a n).heap=uv w.heap a n:=by unfold RO uv;split<;>rfl
   obtain⟨x,w',r1,r2,r3⟩:=ih (w:=w.freeze a n) (by rw[e];exact h)
   have e2:Alike w (w.freeze a n):=by unfold RO;split<;>exact .of_le rfl (KN _)
   exact⟨x,w',r1,r2,e2.trans r3⟩
 |frozen a k ih=>
   intro w K h
   obtain⟨x,w',r1,r2,r3⟩:=ih _ h
   exact⟨x,w',r1,r2,r3⟩
 |getObj r k ih=>
   intro w K ⟨o,h1,h2,h3⟩
   obtain⟨x,w',r1,r2,r3⟩:=ih o h3
   refine⟨x,w',?_,r2,r3⟩
   simp only[L4,h1]
   cases o<;>first|exact OT h2|exact r1
 |setObj r o k ih=>
   intro w K ⟨⟨u,h1,h2⟩,h3⟩
   obtain⟨x,w',r1,r2,r3⟩:=ih (w:={w with heap:=w.heap.setIfInBounds r o}) h3
   refine⟨x,w',?_,r2,(Alike.of_le rfl (KN _):Alike w {w with heap:=w.heap.setIfInBounds r o}).trans r3⟩
   simp only[L4,h1]
   cases u<;>first|exact OT h2|exact r1
 |choose q k ih=>
   intro w K h
   simp only[wpS] at h
   by_cases hq:q.forced=true
   ·rw[if_pos hq] at h
    obtain⟨x,w',r1,r2,r3⟩:=ih _ h
    exact⟨x,w',by simp only[L4,if_pos hq];exact r1,r2,r3⟩
   ·rw[if_neg hq] at h
    obtain⟨x,w',r1,r2,r3⟩:=ih _ (w:={w with drawn:=w.drawn+1}) (h (w.tape w.drawn q))
    exact⟨x,w',by simp only[L4,if_neg hq];exact r1,r2,(Alike.of_le rfl (Nat.le_succ _):Alike w {w with drawn:=w.drawn+1}).trans r3⟩
 |sys c k ih=>intro w K h;exact h.elim
 |program k ih=>
   intro w K h
   obtain⟨x,w',r1,r2,r3⟩:=ih P h
   exact⟨x,w',r1,r2,r3⟩
 |mark m k ih=>
   intro w K h
   obtain⟨x,w',r1,r2,r3⟩:=ih h
   exact⟨x,w',r1,r2,r3⟩
 |halt x=>intro w K h;exact h.elim
def wa:Operand->Bool
 |.const _=>true
 |_=>false
def ft (P:Program):Op->Nat
 |.move _=>0|.assign _=>0|.pick ..=>0|.unOp ..=>0|.nilCheck _=>0
 |.build ..=>0|.field ..=>0|.fieldAddr ..=>0|.indexAddr ..=>0|.index ..=>0|.slice ..=>0|.extract ..=>0
 |.makeFunc ..=>0|.makeInterface ..=>0|.sliceToArrayPointer ..=>0
 |.binOp _ t x y _=>
   match P.underlying t with
   |some (.int _)=>0|some .string=>0|some .bool=>0
   |_=>if wa x||wa y then 0 else 1
 |.convert src dst _=>
   match P.underlying src,P.underlying dst with
   |some (.int _),some (.int _)=>0
   |some .string,some .string=>0
   |some (.slice _),some (.slice _)=>2
   |some (.slice _),_=>1
   |_,_=>2
 |.load ..=>1|.lookup ..=>1
 |.call {callee:=.builtin .len,..}=>1
 |.call {callee:=.builtin .cap,..}=>0
 |.call {callee:=.builtin .min,..}=>0
 |.call {callee:=.builtin .max,..}=>0
 |_=>2
def Jl (M:Option (Heap->Prop))(H H':Heap):Prop:=match M with|none=>H'=H|some G=>G H'
def iC (M:Option (Heap->Prop))(H':Heap):Prop:=match M with|none=>True|some G=>G H'
def nX (P:Program)(r:Result Next)(K:Value->World->Prop):Prop:=
 match r with
 |.ok (.value v) w'=>K v w'
 |.ok .skip w'=>K undef w'
 |.ok (.enter f args) w'=>Calls P f args w' λe w''=>∃v,e=.returned v/\K v w''
 |.ok (.row row args) w'=>Rows P row args w' K
 |.ok (.round l f tmps assign body) w'=>RoundIn PY 0 P l f tmps assign body w' λe w''=>∃v,e=.returned v/\K v w''
 |_=>False
def FW (r:Option Nat):Fence:={PY with round:=r}
def fw (P:Program)(M:Option (Heap->Prop))(c:Nat)(r:World->Result Next)(K:Value->World->Prop)(w:World):Prop:=
 match c with
 |0=>∃v,(∀w',r w'=.ok (.value v) w')/\K v w
 |1=>∃v,(∀w',Jl M w.heap w'.heap->r w'=.ok (.value v) w')/\K v w
 |_=>nX P (r w) λv w'=>iC M w'.heap/\K v w'
def IE (L:List Nat)(o:Oper):Bool:=match o.dst with|some d=>L.any (K6 d)|none=>false
def cH (P:Program)(L:List Nat)(o:Oper):Nat:=bif K6 (ft P o.op) 1&&IE L o then 2 else ft P o.op
def dx (P:Program)(M:Option (Heap->Prop))(L:List Nat)(ops:Array Oper)(o:Oper)(K:Act->World->Prop)(a:Act)(w:World):Prop:=
 if Ls o (yielded ops a.tmps)=true then fw P M (cH P L o) (λw=>(execOp a.eval o).run P w) (λv w'=>K (a.put o.dst v) w') w
 else K (a.put o.dst undef) w
theorem eK {i k:Nat}:LS i k=true↔i<k:=by simp[LS,Nat.lt_iff_add_one_le]
theorem qW {i k:Nat}(h:¬i<k):LS i k=false:=by
 cases hq:LS i k with
 |false=>rfl
 |true=>exact absurd (eK.1 hq) h
def ks (M:Option (Heap->Prop))(k i:Nat):Option (Heap->Prop):=bif LS i k then M else none
def bF (P:Program)(M:Option (Heap->Prop))(k:Nat)(L:List Nat)(ops:Array Oper)(i:Nat)(K:Act->World->Prop)(a:Act)(w:World):Prop:=
 match ops[i]? with
 |none=>K a w
 |some o=>dx P (ks M k i) L ops o K a w
def cv (P:Program)(M:Option (Heap->Prop))(k:Nat)(L:List Nat)(ops:Array Oper)(K:Act->World->Prop):List Nat->Act->World->Prop
 |[]=>K
 |i::l=>bF P M k L ops i (cv P M k L ops K l)
def dw (P:Program)(M:Option (Heap->Prop))(L:List Nat)(ops:Array Oper)(K:Act->World->Prop):List Oper->Act->World->Prop
 |[]=>K
 |o::l=>dx P M L ops o (dw P M L ops K l)
section
variable {P:Program}{M:Option (Heap->Prop)}{L:List Nat}{ops:Array Oper}{Q:Exit->Act->World->Prop}
theorem gx {r:Result Next}{K K':Value->World->Prop}(h:∀v w,K v w->K' v w)(hh:nX P r K):nX P r K':=by
 unfold nX at*
 cases r with
 |ok n w'=>
   cases n<;>simp only at hh ⊢
   case value v=>exact h _ _ hh
   case skip=>exact h _ _ hh
   case enter f args=>exact Sg hh λe w'' ⟨v,he,hk⟩=>⟨v,he,h _ _ hk⟩
   case row row args=>exact Rows.mono hh λv w'' hk=>h _ _ hk
   case round l f tmps assign body=>exact RP hh λe w'' ⟨v,he,hk⟩=>⟨v,he,h _ _ hk⟩
 |halt x w'=>exact hh
theorem ss {r:Result Next}{C:Prop}(hh:nX P r (λ_ _=>C)):C:=by
 unfold nX at hh
 cases r with
 |ok n w'=>
   cases n<;>simp only at hh
   case value v=>exact hh
   case skip=>exact hh
   case enter f args=>
    obtain⟨e,w',fr,⟨v,_,hk⟩,_⟩:=hh []
    exact hk
   case row row args=>
    obtain⟨v,w',hk,_⟩:=hh default []
    exact hk
   case round l f tmps assign body=>
    obtain⟨e,w',⟨v,_,hk⟩,_⟩:=hh.2 default [] (room_wide _)
    exact hk
 |halt x w'=>exact hh.elim
theorem gE {c:Nat}{r:World->Result Next}{K K':Value->World->Prop}{w:World}(h:∀v w,K v w->K' v w)(hh:fw P M c r K w):fw P M c r K' w:=
 match c,hh with
 |0,⟨v,h1,h2⟩=>⟨v,h1,h _ _ h2⟩
 |1,⟨v,h1,h2⟩=>⟨v,h1,h _ _ h2⟩
 |_+2,hh=>gx (λv w ⟨h1,h2⟩=>⟨h1,h v w h2⟩) hh
theorem wo {c:Nat}{M':Option (Heap->Prop)}{r:World->Result Next}{K:Value->World->Prop}{w:World}(hG:iC M w.heap)(hc:c=0\/c=1\/M'=M)(hh:fw P M' c r K w):fw P M' c r (λv w'=>iC M w'.heap/\K v w') w:=
 match c,hh with
 |0,⟨v,h1,h2⟩=>⟨v,h1,hG,h2⟩
 |1,⟨v,h1,h2⟩=>⟨v,h1,hG,h2⟩
 |n+2,hh=>by
   have e:M'=M:=by
    rcases hc with h|h|h
    ·omega
    ·omega
    ·exact h
   subst e
   exact gx (λv w ⟨h1,h2⟩=>⟨h1,h1,h2⟩) hh
theorem tU {c:Nat}{r:World->Result Next}{C:Prop}{w:World}(hh:fw P M c r (λ_ _=>C) w):C:=
 match c,hh with
 |0,⟨_,_,h2⟩=>h2
 |1,⟨_,_,h2⟩=>h2
 |_+2,hh=>ss (gx (K':=λ_ _=>C) (λ_ _ ⟨_,h2⟩=>h2) hh)
theorem vr {M':Option (Heap->Prop)}{c d:Nat}{r s:World->Result Next}{K:Value->Value->World->Prop}{w:World}
  (hc:c=0\/d=0\/(c=1/\d=1)\/(M'=M/\M.isSome=true/\(c=1\/d=1)))
  (h:fw P M c r (λv w'=>fw P M' d s (λu w''=>K v u w'') w') w):fw P M' d s (λu w'=>fw P M c r (λv w''=>K v u w'') w') w:=by
 rcases hc with rfl|rfl|⟨rfl,rfl⟩|⟨rfl,hM,rfl|rfl⟩
 ·obtain⟨v,h1,h2⟩:=h
  exact gE (λu w' hk=>⟨v,h1,hk⟩) h2
 ·have hy:∃u,∀w',s w'=.ok (.value u) w':=tU (gE (K':=λ_ _=>∃u,∀w',s w'=.ok (.value u) w') (λv w' ⟨u,h1,_⟩=>⟨u,h1⟩) h)
  obtain⟨u,hu⟩:=hy
  refine⟨u,hu,gE (λv w' ⟨u',h1,h2⟩=>?_) h⟩
  have e:=(hu w').symm.trans (h1 w')
  simp only[Pe,O6,and_true] at e
  rw[e];exact h2
 ·obtain⟨v,h1,u,h2,h3⟩:=h
  exact⟨u,h2,v,h1,h3⟩
 ·cases M' with
  |none=>cases hM
  |some G=>
    obtain⟨v,h1,h2⟩:=h
    exact gE (λu w' hk=>⟨v,h1,hk⟩) h2
 ·cases M' with
  |none=>cases hM
  |some G=>
    match c,h with
    |0,⟨v,h1,u,h2,h3⟩=>exact⟨u,h2,v,h1,h3⟩
    |1,⟨v,h1,u,h2,h3⟩=>exact⟨u,h2,v,h1,h3⟩
    |c+2,h=>
      have hy:∃u,∀w',G w'.heap->s w'=.ok (.value u) w':=ss (gx (K':=λ_ _=>∃u,∀w',G w'.heap->s w'=.ok (.value u) w') (λv w' ⟨_,u,h1,_⟩=>⟨u,h1⟩) h)
      obtain⟨u,hu⟩:=hy
      refine⟨u,hu,gx (λv w' ⟨hg,u',h1,h2⟩=>⟨hg,?_⟩) h⟩
      have e:=(hu w' hg).symm.trans (h1 w' hg)
      simp only[Pe,O6,and_true] at e
      rw[e];exact h2
theorem qj {w:World}(hG:iC M w.heap):Jl M w.heap w.heap:=by
 cases M with
 |none=>rfl
 |some G=>exact hG
theorem wH {row:String}{args:Array Value}{w:World}{R:Value->World->Prop}{r:Option Nat}(h:Rows P row args w R):RowsIn (FW r) 0 P row args w R:=
 λc cs _=>let ⟨v,w',h1,h2⟩:=h c cs;⟨v,w',h1,(TF h2).mono λm _=>fenced_wide P m⟩
theorem je {o:Oper}{a:Act}{w:World}{K:Act->World->Prop}{rn:Option Nat}(hh:nX P ((execOp a.eval o).run P w) (λv w'=>K (a.put o.dst v) w')):o.wpIn (FW rn) 0 P a w K Q:=by
 refine⟨λ_ _=>trivial,?_⟩
 have he:o.semAt (FW rn).round a.eval=execOp a.eval o:=by
  refine Oper.semAt_eq _ _ _ λc hc=>?_
  unfold nX at hh
  simp only[execOp,hc,Sem.run_bind] at hh
  generalize (resolve a.eval c o.type).run P w=r at hh
  cases r with
  |ok d w'=>exact hh
  |halt x w'=>exact hh
 rw[he]
 unfold nX at hh
 generalize (execOp a.eval o).run P w=r at*
 have hd:(FW rn).depth.isSome=true->1<=0:=λh=>by cases h
 cases r with
 |ok n w'=>
   cases n<;>simp only at hh<;>simp only[Oper.uponIn]
   case value v=>exact hh
   case skip=>exact hh
   case enter f args=>
    refine⟨hd,?_⟩
    have h1:Calls P f args w' λ
      |.returned v,w''=>K (a.put o.dst v) w''
      |.panicked chain,w''=>Q (.panic chain) a w''
      |.outgrown,_=>LetsOut Q:=Sg hh λe w'' ⟨v,he,hk⟩=>by subst he;exact hk
    exact callsIn_wide.2 h1
   case row row args=>exact⟨hd,wH hh⟩
   case round l f tmps assign body=>
    refine⟨hd,?_⟩
    have h1:RoundIn PY 0 P l f tmps assign body w' λ
      |.returned v,w''=>K (a.put o.dst v) w''
      |.panicked chain,w''=>Q (.panic chain) a w''
      |.outgrown,_=>LetsOut Q:=RP hh λe w'' ⟨v,he,hk⟩=>by subst he;exact hk
    exact h1
 |halt x w'=>exact hh.elim
theorem uD {c:Nat}{o:Oper}{a:Act}{w:World}{K:Act->World->Prop}{rn:Option Nat}(hG:c=1->iC M w.heap)
  (hh:fw P M c (λw=>(execOp a.eval o).run P w) (λv w'=>K (a.put o.dst v) w') w):o.wpIn (FW rn) 0 P a w K Q:=by
 match c,hG,hh with
 |0,_,⟨v,h1,h2⟩=>have h3:=h1 w;dsimp only at h3;exact je (by rw[h3];exact h2)
 |1,hG,⟨v,h1,h2⟩=>have h3:=h1 w (qj (hG rfl));dsimp only at h3;exact je (by rw[h3];exact h2)
 |_+2,_,hh=>exact je (gx (λv w' ⟨_,h2⟩=>h2) hh)
theorem lN {o:Oper}{a:Act}{w:World}{K K':Act->World->Prop}(h:∀a w,K a w->K' a w)(hh:dx P M L ops o K a w):dx P M L ops o K' a w:=by
 unfold dx at*
 split
 ·rename_i hw
  rw[if_pos hw] at hh
  exact gE (λv w hk=>h _ _ hk) hh
 ·rename_i hw
  rw[if_neg hw] at hh
  exact h _ _ hh
theorem lv {M':Option (Heap->Prop)}{o:Oper}{a:Act}{w:World}{K:Act->World->Prop}(hG:iC M w.heap)(hc:cH P L o=0\/cH P L o=1\/M'=M)(hh:dx P M' L ops o K a w):dx P M' L ops o (λa w=>iC M w.heap/\K a w) a w:=by
 unfold dx at*
 split
 ·rename_i hw
  rw[if_pos hw] at hh
  exact wo hG hc hh
 ·rename_i hw
  rw[if_neg hw] at hh
  exact⟨hG,hh⟩
theorem bV {k i:Nat}{a:Act}{w:World}{K K':Act->World->Prop}(h:∀a w,K a w->K' a w)(hh:bF P M k L ops i K a w):bF P M k L ops i K' a w:=by
 unfold bF at*
 split
 ·rename_i ho;rw[ho] at hh;exact h _ _ hh
 ·rename_i o ho;rw[ho] at hh;exact lN h hh
theorem yO {o:Oper}{a:Act}{w:World}{K:Act->World->Prop}{rn:Option Nat}(hG:cH P L o=1->iC M w.heap)(hh:dx P M L ops o K a w):
  if Ls o (yielded ops a.tmps)=true then o.wpIn (FW rn) 0 P a w K Q else ((∀f,o.about P w a.eval=some f->(FW rn).fn f)/\K (a.put o.dst undef) w):=by
 unfold dx at hh
 split
 ·rename_i hw
  rw[if_pos hw] at hh
  exact uD hG hh
 ·rename_i hw
  rw[if_neg hw] at hh
  exact⟨λ_ _=>trivial,hh⟩
theorem fF {k i:Nat}{a:Act}{w:World}{K:Act->World->Prop}{rn:Option Nat}(hG:∀o,ops[i]?=some o->i<k->cH P L o=1->iC M w.heap)(hh:bF P M k L ops i K a w):wpOpIn (FW rn) 0 P ops Q i K a w:=by
 unfold bF at hh
 unfold wpOpIn
 split
 ·rename_i ho;rw[ho] at hh;exact hh
 ·rename_i o ho
  rw[ho] at hh
  refine yO (M:=ks M k i) (λhc=>?_) hh
  unfold ks
  cases hk:LS i k with
  |true=>exact hG o ho (eK.1 hk) hc
  |false=>exact trivial
theorem jd {rn:Option Nat}{K:Act->World->Prop}(hK:∀a w,K a w->Q .normal a w):∀(l:List Oper) (a:Act) (w:World),dw P none L ops K l a w->wpListIn (FW rn) 0 P ops Q l a w
 |[],a,w,h=>hK _ _ h
 |o::l,a,w,h=>by
   have h1:dx P none L ops o (wpListIn (FW rn) 0 P ops Q l) a w:=lN (λa w hk=>jd hK l a w hk) h
   have h2:=yO (M:=none) (Q:=Q) (rn:=rn) (λ_=>trivial) h1
   unfold wpListIn
   split
   ·rename_i hw;rw[if_pos hw] at h2;exact h2
   ·rename_i hw;rw[if_neg hw] at h2;exact h2
def b8 (P:Program)(L:List Nat)(m:Bool)(ops:Array Oper)(x y:Oper):Bool:=
 QJ ops x y&&(cH P L x==0||cH P L y==0||(cH P L x==1&&cH P L y==1)||(m&&(cH P L x==1||cH P L y==1)))&&
 (match x.op with|.select ..=>false|_=>true)&&(match y.op with|.select ..=>false|_=>true)
theorem mU {m:Bool}{x y:Oper}(h:b8 P L m ops x y=true):QJ ops x y=true/\
  (cH P L x=0\/cH P L y=0\/(cH P L x=1/\cH P L y=1)\/(m=true/\(cH P L x=1\/cH P L y=1)))/\
  (∀cs b,x.op≠.select cs b)/\(∀cs b,y.op≠.select cs b):=by
 unfold b8 at h
 simp only[KR,LL,beq_iff_eq] at h
 obtain⟨⟨⟨h1,h2⟩,h3⟩,h4⟩:=h
 refine⟨h1,?_,?_,?_⟩
 ·rcases h2 with ((h2|h2)|h2)|h2
  ·exact .inl h2
  ·exact .inr (.inl h2)
  ·exact .inr (.inr (.inl h2))
  ·exact .inr (.inr (.inr h2))
 ·intro cs b e;rw[e] at h3;cases h3
 ·intro cs b e;rw[e] at h4;cases h4
theorem ly {M':Option (Heap->Prop)}{m:Bool}{x y:Oper}(hc:b8 P L m ops x y=true)(hm:m=true->M'=M/\M.isSome=true){K:Act->World->Prop}{a:Act}{w:World}
  (h:dx P M L ops x (dx P M' L ops y K) a w):dx P M' L ops y (dx P M L ops x K) a w:=by
 obtain⟨hap,hcls,hsx,hsy⟩:=mU hc
 have hcls:cH P L x=0\/cH P L y=0\/(cH P L x=1/\cH P L y=1)\/(M'=M/\M.isSome=true/\(cH P L x=1\/cH P L y=1)):=by
  rcases hcls with h|h|h|⟨h,k⟩
  ·exact .inl h
  ·exact .inr (.inl h)
  ·exact .inr (.inr (.inl h))
  ·exact .inr (.inr (.inr ⟨(hm h).1,(hm h).2,k⟩))
 obtain⟨a1,a2,a3⟩:=Oper.apart_spec hap
 have wy:∀v,Ls y (yielded ops (a.put x.dst v).tmps)=Ls y (yielded ops a.tmps):=λv=>wanted_put y a x.dst v a1
 have wx:∀v,Ls x (yielded ops (a.put y.dst v).tmps)=Ls x (yielded ops a.tmps):=λv=>wanted_put x a y.dst v a3
 have ey:∀v,execOp (a.put x.dst v).eval y=execOp a.eval y:=λv=>execOp_put (ops:=ops) y hsy a x.dst v a1
 have ex:∀v,execOp (a.put y.dst v).eval x=execOp a.eval x:=λv=>execOp_put (ops:=ops) x hsx a y.dst v a3
 have pc:∀v u,(a.put x.dst v).put y.dst u=(a.put y.dst u).put x.dst v:=λv u=>Act.put_comm a v u a2
 unfold dx at h ⊢
 simp only[wy,wx,ey,ex,pc] at h ⊢
 by_cases hx:Ls x (yielded ops a.tmps)=true
 ·by_cases hy:Ls y (yielded ops a.tmps)=true
  ·simp only[if_pos hx,if_pos hy] at h ⊢
   exact vr hcls h
  ·simp only[if_pos hx,if_neg hy] at h ⊢
   exact h
 ·by_cases hy:Ls y (yielded ops a.tmps)=true
  ·simp only[if_neg hx,if_pos hy] at h ⊢
   exact h
  ·simp only[if_neg hx,if_neg hy] at h ⊢
   exact h
def ax (ops:Array Oper)(listed:Array Bool):List Nat:=(Lg ops.size).filter λi=>!listed.getD i true
def nb (acc:List Nat):List Edge->Nat
 |[]=>0
 |e::r=>bif LY .any e then (nb acc r|||2^e.on)|||acc.getD e.on 0 else nb acc r
def cE:List Oper->List Nat->List Nat
 |[],acc=>acc
 |o::l,acc=>cE l (acc++[nb acc o.after.toList])
theorem mu {acc:List Nat}{i:Nat}:∀{l:List Edge},(nb acc l).testBit i=true->∃e∈l,LY .any e=true/\(e.on=i\/(acc.getD e.on 0).testBit i=true)
 |[],h=>by simp[nb] at h
 |e::r,h=>by
   unfold nb at h
   cases hb:LY .any e with
   |false=>
     rw[hb] at h
     obtain⟨e',h1,h2⟩:=mu (l:=r) (by simpa using h)
     exact⟨e',K7 _ h1,h2⟩
   |true=>
     rw[hb] at h
     simp only[cond_true,Nat.testBit_or,LL] at h
     rcases h with (h|h)|h
     ·obtain⟨e',h1,h2⟩:=mu h
      exact⟨e',K7 _ h1,h2⟩
     ·exact⟨e,KV,hb,.inl (by simpa[Nat.testBit_two_pow] using h)⟩
     ·exact⟨e,KV,hb,.inr h⟩
theorem kU:∀(l:List Oper) (acc:List Nat) (j:Nat),j<acc.length->(cE l acc).getD j 0=acc.getD j 0
 |[],_,_,_=>rfl
 |o::l,acc,j,h=>by
   unfold cE
   rw[kU l _ j (by simp;omega)]
   simp[Lo,K9 h]
theorem zC:∀(l:List Oper) (acc:List Nat) (k:Nat) (o:Oper),l[k]?=some o->∃acc',(cE l acc).getD (acc.length+k) 0=nb acc' o.after.toList/\∀i,i<acc.length+k->acc'.getD i 0=(cE l acc).getD i 0
 |[],_,_,_,h=>by simp at h
 |o::l,acc,0,o',h=>by
   have e:o=o':=by simpa using h
   subst e
   refine⟨acc,?_,λi hi=>?_⟩
   ·unfold cE
    rw[kU l _ _ (by simp)]
    simp[Lo]
   ·unfold cE
    rw[kU l _ _ (by simp at hi ⊢;omega)]
    simp[Lo,K9 (show i<acc.length by omega)]
 |o::l,acc,k+1,o',h=>by
   obtain⟨acc',h1,h2⟩:=zC l (acc++[nb acc o.after.toList]) k o' (by simpa using h)
   have e:(acc++[nb acc o.after.toList]).length+k=acc.length+(k+1):=by simp;omega
   rw[e] at h1 h2
   exact⟨acc',by unfold cE;exact h1,λi hi=>by unfold cE;exact h2 i hi⟩
def waits (B:List Nat)(j i:Nat):Bool:=(B.getD j 0).testBit i
def iB (P:Program)(L:List Nat)(k:Nat)(ops:Array Oper)(B:List Nat):Bool:=
 (Lg ops.size).all λj=>match ops[j]? with
  |some oj=>(oj.after.all λe=>!LY .any e||decide (e.on<j))&&
    (Lg j).all λi=>match ops[i]? with
     |some oi=>b8 P L (LS j k) ops oi oj||waits B j i
     |none=>false
  |none=>false
def dh (P:Program)(L:List Nat)(k:Nat)(ops:Array Oper):Bool:=iB P L k ops (cE ops.toList [])
def ordered (B:List Nat)(i j:Nat):Bool:=waits B j i||waits B i j
def HI (P:Program):List Oper->Nat->List Nat
 |[],_=>[]
 |o::r,k=>bif Nat.ble 2 (ft P o.op) then k::HI P r (k+1) else HI P r (k+1)
def qh (P:Program)(B E:List Nat):List Oper->Nat->List Nat->List Nat
 |[],_,_=>[]
 |o::r,k,acc=>(match o.dst with
   |some d=>bif K6 (ft P o.op) 1&&(E.all (ordered B k)&&acc.all (ordered B k)) then d::qh P B E r (k+1) (k::acc) else qh P B E r (k+1) acc
   |none=>qh P B E r (k+1) acc)
def kI (P:Program)(ops:Array Oper):List Nat:=qh P (cE ops.toList []) (HI P ops.toList 0) ops.toList 0 []
def Dw (f:Nat->Bool):Nat->Nat->Nat
 |_,0=>0
 |k,n+1=>bif f k then k else Dw f (k+1) n
def nQ (P:Program)(L:List Nat)(ops:Array Oper):Nat:=let B:=cE ops.toList [];Dw (λk=>iB P L k ops B) 0 (ops.size+1)
theorem gU {k:Nat}(h:dh P L k ops=true){j:Nat}{oj:Oper}(hj:ops[j]?=some oj){e:Edge}(he:e∈oj.after)(hb:LY .any e=true):e.on<j:=by
 unfold dh iB at h
 have hlt:j<ops.size:=(KO.1 hj).1
 have:=Lv.1 h j (KS.2 hlt)
 rw[hj] at this
 simp only[KR] at this
 have h2:=Array.all_eq_true_iff_forall_mem.1 this.1 e he
 simpa[hb] using h2
theorem ib {k:Nat}(h:dh P L k ops=true){i j:Nat}{oi oj:Oper}(hi:ops[i]?=some oi)(hj:ops[j]?=some oj)(hij:i<j):b8 P L (LS j k) ops oi oj=true\/waits (cE ops.toList []) j i=true:=by
 unfold dh iB at h
 have hlt:j<ops.size:=(KO.1 hj).1
 have:=Lv.1 h j (KS.2 hlt)
 rw[hj] at this
 simp only[KR] at this
 have h2:=Lv.1 this.2 i (KS.2 hij)
 rw[hi] at h2
 simpa[LL] using h2
def jx (ops:Array Oper)(listed:Array Bool):Prop:=
 ∀j oj,ops[j]?=some oj->listed.getD j false=true->∀e∈oj.after,LY .any e=true->listed.getD e.on false=true
theorem fD {listed:Array Bool}(hc:jx ops listed)(hlt:∀j oj,ops[j]?=some oj->∀e∈oj.after,LY .any e=true->e.on<j):∀(j i:Nat) (oj:Oper),ops[j]?=some oj->
  (∀e∈oj.after,LY .any e=true->listed.getD e.on false=true)->waits (cE ops.toList []) j i=true->listed.getD i false=true:=by
 intro j
 induction j using Nat.strongRecOn with
 |_ j ih=>
   intro i oj hj hall h
   unfold waits at h
   obtain⟨acc',h1,h2⟩:=zC ops.toList [] j oj (by simpa using hj)
   simp only[List.length_nil,LV] at h1 h2
   rw[h1] at h
   obtain⟨e,he,hb,h3⟩:=mu h
   have he':e∈oj.after:=by simpa using he
   have hl:=hall e he' hb
   have hej:=hlt j oj hj e he' hb
   rcases h3 with h3|h3
   ·rw[<-h3];exact hl
   ·rw[h2 _ hej] at h3
    have hjl:j<ops.size:=(KO.1 hj).1
    have hoe:ops[e.on]?=some (ops[e.on]'(by omega)):=K2 (by omega)
    exact ih e.on hej i _ hoe (hc e.on _ hoe hl) h3
theorem mT {K:Act->World->Prop}{k j:Nat}(hMs:∀i,i<k->M.isSome=true):∀(l1 l2:List Nat),(∀i∈l1,i<j/\∃oi oj,ops[i]?=some oi/\ops[j]?=some oj/\b8 P L (LS j k) ops oi oj=true)->
  ∀a w,cv P M k L ops K (l1++j::l2) a w->bF P M k L ops j (cv P M k L ops K (l1++l2)) a w
 |[],l2,_,a,w,h=>h
 |i::l1,l2,hc,a,w,h=>by
   have h1:bF P M k L ops i (bF P M k L ops j (cv P M k L ops K (l1++l2))) a w:=bV (mT hMs l1 l2 (λk hk=>hc k (K7 _ hk))) h
   obtain⟨hij,oi,oj,hi,hj,hcm⟩:=hc i KV
   have e:∀K',bF P M k L ops i K'=dx P (ks M k i) L ops oi K':=λK'=>by funext a w;simp only[bF,hi]
   have e':∀K',bF P M k L ops j K'=dx P (ks M k j) L ops oj K':=λK'=>by funext a w;simp only[bF,hj]
   rw[e,e'] at h1
   have h2:=ly hcm (λhb=>by
    have hjk:j<k:=eK.1 hb
    have hbi:LS i k=true:=eK.2 (by omega)
    unfold ks
    rw[hb,hbi]
    exact⟨rfl,hMs j hjk⟩) h1
   simp only[M4,cv]
   rw[e,e']
   exact h2
theorem cZ (p:Nat->Bool)(j:Nat)(hj:p j=true):∀(n:Nat),j<n->∃l1 l2,(Lg n).filter p=l1++j::l2/\(∀i∈l1,i<j/\p i=true)/\
  (Lg n).filter (λi=>p i&&decide (i≠j))=l1++l2
 |0,h=>by omega
 |n+1,h=>by
   rw[List.range_succ,LH,LH]
   by_cases hn:j=n
   ·subst hn
    refine⟨(Lg j).filter p,[],by simp[hj],?_,?_⟩
    ·intro i hi
     rw[K3,KS] at hi
     exact hi
    ·simp only[ne_eq,Nd]
     rw[show List.filter (λi=>p i&&decide (¬i=j)) [j]=[] from by simp,Nd]
     exact LM λi hi=>by
      have:i≠j:=by have:=KS.1 hi;omega
      simp[this]
   ·obtain⟨l1,l2,h1,h2,h3⟩:=cZ p j hj n (by omega)
    refine⟨l1,l2++[n].filter p,by rw[h1];simp,h2,?_⟩
    rw[h3,List.append_assoc]
    congr 2
    have:n≠j:=λe=>hn e.symm
    simp[List.filter_cons,this]
def Ie (P:Program)(L:List Nat)(k:Nat)(ops:Array Oper)(listed:Array Bool):Prop:=∃i o,ops[i]?=some o/\listed.getD i true=false/\i<k/\cH P L o=1
theorem qz {rn:Option Nat}{k:Nat}(hMs:∀i,i<k->M.isSome=true)(hB:dh P L k ops=true):∀(fuel:Nat) (listed:Array Bool) (a:Act) (w:World),(Ie P L k ops listed->iC M w.heap)->listed.size=ops.size->jx ops listed->(ax ops listed).length=fuel->
  cv P M k L ops (λa w=>Q .normal a w) (ax ops listed) a w->wpAnyIn (FW rn) 0 P .any ops Q fuel listed a w:=by
 intro fuel
 induction fuel with
 |zero=>
   intro listed a w hG hs hc hl h
   have h0:ax ops listed=[]:=List.length_eq_zero_iff.1 hl
   refine⟨?_,by rw[h0] at h;exact h⟩
   rw[List.eq_nil_iff_forall_not_mem]
   intro j hj
   obtain⟨hu,o,ho,_⟩:=mem_ready.1 hj
   have hlt:j<ops.size:=(KO.1 ho).1
   have:j∈ax ops listed:=K3.2 ⟨KS.2 hlt,by simp[hu]⟩
   rw[h0] at this
   cases this
 |succ fuel ih=>
   intro listed a w hG hs hc hl h
   refine⟨λh0=>?_,λj hj=>?_⟩
   ·-- the first that is not listed is ready
    exfalso
    cases hU:ax ops listed with
    |nil=>rw[hU] at hl;simp at hl
    |cons m rest=>
      have hm:m∈ax ops listed:=by rw[hU];exact KV
      have hmin:∀i,i<m->listed.getD i false=true:=by
       intro i hi
       obtain⟨hm1,hm2⟩:=K3.1 hm
       have hmlt:=KS.1 hm1
       cases hli:listed.getD i true with
       |true=>
         have:i<listed.size:=by omega
         simp[this] at hli ⊢;exact hli
       |false=>
         have hi2:i∈ax ops listed:=K3.2 ⟨KS.2 (by omega),by simp[hli]⟩
         rw[hU] at hi2
         have hsorted:(ax ops listed).Pairwise (·<·):=NW _ List.pairwise_lt_range
         rw[hU,List.pairwise_cons] at hsorted
         rcases List.mem_cons.1 hi2 with e|e
         ·omega
         ·have:=hsorted.1 i e;omega
      obtain⟨hm1,hm2⟩:=K3.1 hm
      have hmlt:=KS.1 hm1
      have ho:ops[m]?=some ops[m]:=K2 hmlt
      have:m∈Region.ready .any ops listed:=mem_ready.2 ⟨by simpa using hm2,_,ho,λe he hb=>hmin _ (gU hB ho he hb)⟩
      rw[h0] at this
      cases this
   ·obtain⟨hu,oj,hoj,hall⟩:=mem_ready.1 hj
    have hlt:j<ops.size:=(KO.1 hoj).1
    obtain⟨l1,l2,e1,e2,e3⟩:=cZ (λi=>!listed.getD i true) j (by simp[hu]) ops.size hlt
    have e1':ax ops listed=l1++j::l2:=e1
    have e4:ax ops (listed.setIfInBounds j true)=l1++l2:=by
     rw[<-e3]
     unfold ax
     refine LM λi hi=>?_
     have hi':i<listed.size:=by rw[hs];exact KS.1 hi
     by_cases hij:i=j
     ·subst hij;simp[hi']
     ·rw[getD_set_ne true (Ne.symm hij)];simp[hij]
    have hwait:∀i,listed.getD i true=false->i<ops.size->waits (cE ops.toList []) j i=false:=by
     intro i hiu hil
     cases h3:waits (cE ops.toList []) j i with
     |false=>rfl
     |true=>
       have h4:=fD hc (λj oj hj e he hb=>gU hB hj he hb) j i oj hoj hall h3
       have:i<listed.size:=by omega
       simp[this] at hiu h4
       rw[hiu] at h4;cases h4
    rw[e1'] at h
    have h2:=mT hMs l1 l2 (λi hi=>by
     obtain⟨hij,hiu⟩:=e2 i hi
     have hil:i<ops.size:=by omega
     have hoi:ops[i]?=some ops[i]:=K2 hil
     refine⟨hij,ops[i],oj,hoi,hoj,?_⟩
     rcases ib hB hoi hoj hij with h3|h3
     ·exact h3
     ·rw[hwait i (by simpa using hiu) hil] at h3;cases h3) a w h
    have hgj:∀o,ops[j]?=some o->j<k->cH P L o=1->iC M w.heap:=λo ho hk hc1=>hG ⟨j,o,ho,hu,hk,hc1⟩
    have go:∀a' w',(Ie P L k ops (listed.setIfInBounds j true)->iC M w'.heap)->cv P M k L ops (λa w=>Q .normal a w) (l1++l2) a' w'->wpAnyIn (FW rn) 0 P .any ops Q fuel (listed.setIfInBounds j true) a' w':=by
     intro a' w' hg hk
     refine ih (listed.setIfInBounds j true) a' w' hg (by simp[hs]) ?_ ?_ (by rw[e4];exact hk)
     ·intro q ok hq hql e he hb
      by_cases hqj:j=q
      ·subst hqj
       have:ok=oj:=K1 (hq.symm.trans hoj)
       subst this
       exact getD_set_true (hall e he hb)
      ·rw[getD_set_ne false hqj] at hql
       exact getD_set_true (hc q ok hq hql e he hb)
     ·rw[e4]
      rw[e1'] at hl
      simp only[List.length_append,Ln] at hl ⊢
      omega
    by_cases hp:Ie P L k ops (listed.setIfInBounds j true)
    ·obtain⟨i,oi,hoi,hil,hik,hci⟩:=hp
     have hij:j≠i:=by
      intro e;subst e
      have:j<listed.size:=by omega
      simp[this] at hil
     rw[getD_set_ne true hij] at hil
     have hok:iC M w.heap:=hG ⟨i,oi,hoi,hil,hik,hci⟩
     have hisz:i<ops.size:=(KO.1 hoi).1
     have hclass:cH P L oj=0\/cH P L oj=1\/ks M k j=M:=by
      by_cases hjk:j<k
      ·right;right
       have:LS j k=true:=eK.2 hjk
       unfold ks;rw[this];rfl
      ·have hlt2:i<j:=by omega
       have hb:LS j k=false:=qW hjk
       rcases ib hB hoi hoj hlt2 with h3|h3
       ·rw[hb] at h3
        obtain⟨_,h4,_,_⟩:=mU h3
        rcases h4 with h4|h4|⟨_,h4⟩|⟨h4,_⟩
        ·rw[hci] at h4;cases h4
        ·exact .inl h4
        ·exact .inr (.inl h4)
        ·cases h4
       ·rw[hwait i hil hisz] at h3;cases h3
     have h3:bF P M k L ops j (λa w=>iC M w.heap/\cv P M k L ops (λa w=>Q .normal a w) (l1++l2) a w) a w:=by
      unfold bF at h2 ⊢
      rw[hoj] at h2 ⊢
      exact lv hok hclass h2
     exact fF hgj (bV (λa' w' h5=>go a' w' (λ_=>h5.1) h5.2) h3)
    ·exact fF hgj (bV (λa' w' h5=>go a' w' (λq=>absurd q hp) h5) h2)
theorem di {K:Act->World->Prop}{k:Nat}{M':Option (Heap->Prop)}:∀(l:List Oper) (s:Nat),(∀j,j<l.length->l[j]?=ops[s+j]?)->(∀j,j<l.length->ks M k (s+j)=M')->cv P M k L ops K (MF s l.length)=dw P M' L ops K l
 |[],s,_,_=>rfl
 |o::l,s,hl,hm=>by
   have h0:ops[s]?=some o:=by simpa using (hl 0 (by simp)).symm
   have ih:=di (K:=K) (k:=k) (M':=M') l (s+1) (λj hj=>by have:=hl (j+1) (by simp;omega);simpa[Nat.add_assoc,Nat.add_comm 1 j] using this) (λj hj=>by have:=hm (j+1) (by simp;omega);rw[<-this];congr 1;omega)
   have hm0:ks M k s=M':=by simpa using hm 0 (by simp)
   funext a w
   simp only[Ln,List.range'_succ,cv,dw,bF,h0,ih,hm0]
theorem iS {K:Act->World->Prop}{k:Nat}:∀(l1 l2:List Nat),cv P M k L ops K (l1++l2)=cv P M k L ops (cv P M k L ops K l2) l1
 |[],_=>rfl
 |i::l1,l2=>by
   funext a w
   simp only[M4,cv]
   rw[iS l1 l2]
theorem iw {rn:Option Nat}{id:Nat}{a:Act}{w:World}{k:Nat}(hm:P.follows .mixedOrders=true)(hMs:∀i,i<k->M.isSome=true)(hB:dh P L k ops=true)(hG:iC M w.heap)
  (h:dw P M L ops (dw P none L ops (λa w=>Q .normal a w) (ops.toList.drop k)) (ops.toList.take k) a {w with drawn:=w.drawn+1}):(Na id ops true).wpIn (FW rn) 0 P Q a w:=by
 have hu:ax ops (Lz ops.size false)=Lg ops.size:=by
  unfold ax
  rw[List.filter_eq_self]
  intro i hi
  have:=KS.1 hi
  simp[this]
 refine wpIn_region_any hm (qz hMs hB ops.size _ a _ (λ_=>hG) (by simp) ?_ (by rw[hu];simp) ?_)
 ·intro j oj _ hl
  have:∀j,(Lz ops.size false).getD j false=false:=λj=>by
   rcases Nat.lt_or_ge j ops.size with h|h
   ·simp[h]
   ·simp[h]
  rw[this] at hl
  cases hl
 ·rw[hu,List.range_eq_range']
  have hsplit:MF 0 ops.size=MF 0 (ops.toList.take k).length++MF (ops.toList.take k).length (ops.toList.drop k).length:=by
   have h1:ops.size=(ops.toList.take k).length+(ops.toList.drop k).length:=by simp;omega
   rw[h1,<-List.range'_append_1]
   simp
  have t1:=di (P:=P) (M:=M) (L:=L) (ops:=ops) (K:=dw P none L ops (λa w=>Q .normal a w) (ops.toList.drop k)) (k:=k) (M':=M) (ops.toList.take k) 0 (λj hj=>by
   have hj':j<k:=by simp at hj;omega
   rw[List.getElem?_take,if_pos hj',LV,MD]) (λj hj=>by
   have:LS (0+j) k=true:=eK.2 (by simp at hj;omega)
   unfold ks;rw[this];rfl)
  have t2:=di (P:=P) (M:=M) (L:=L) (ops:=ops) (K:=λa w=>Q .normal a w) (k:=k) (M':=none) (ops.toList.drop k) (ops.toList.take k).length (λj hj=>by
   have e:(ops.toList.take k).length=k:=by simp at hj ⊢;omega
   rw[e,List.getElem?_drop,MD]) (λj hj=>by
   have:LS ((ops.toList.take k).length+j) k=false:=qW (by simp at hj ⊢;omega)
   unfold ks;rw[this];rfl)
  rw[hsplit,iS,t2,t1]
  exact h
theorem rS {rn:Option Nat}{id:Nat}{a:Act}{w:World}(h:dw P none L ops (λa w=>Q .normal a w) ops.toList a w):(Na id ops false).wpIn (FW rn) 0 P Q a w:=
 wpIn_region_list (jd (λ_ _ h=>h) _ _ _ h)
end
end Go.Proofs.YtdpdmbceakdlmaaGreatDoor
