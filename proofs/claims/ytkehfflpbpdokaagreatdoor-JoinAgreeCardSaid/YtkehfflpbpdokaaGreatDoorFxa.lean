/-
 Ground for all walks of this seat, over any program: what one operation does, said of the heap alone (the count of draws is left free), and the theorem that a region which draws its order may be walked in the order of the text where its operations commute.
-/
import Derived.Orders
import Derived.OrdersIn
import Derived.TacticsIn
import Derived.Tactics
import Derived.RangeFuncIn
import Derived.RangeFuncLeaves
open Array renaming getElem?_eq_some_iff->Qv,getElem?_eq_getElem->Q8,replicate->RJ,getElem?_toList->VI
open Bool renaming and_eq_true->Qz,or_eq_true->Rm,noConfusion->UY
open Go.Calls renaming mono->Za
open Go.Code renaming region->Uh
open Go.Fence renaming wide->VA
open Go.Next.value renaming injEq->Yl
open Go.Oper renaming apart->Zb
open Go.Region renaming binds->RY,wanted->RZ
open Go.Result.ok renaming injEq->Yp
open Go.RoundIn renaming mono->YL
open Go.Sem renaming run->Sg
open Go.StepsIn renaming of_steps->Z6
open Go.World renaming freeze->YK
open List renaming mem_cons_self->Qp,mem_cons_of_mem->Qu,length_cons->QJ,mem_filter->QL,getD->QM,getElem?_append_left->QR,mem_range->Q7,all_eq_true->Rk,append_nil->RA,range->RI,filter_append->RU,filter_congr->Sp,cons_append->UZ,range'->Xw
open List.Pairwise renaming filter->VQ
open Nat renaming le_refl->Qm,beq->QQ,zero_add->Ry,blt->R3
open Option.some renaming inj->Qq
namespace Go.Proofs.YtkehfflpbpdokaaGreatDoor
abbrev aa:=Array Obj
def cg (H:aa)(a:Addr):Option Value:=
 match H[a.block]? with
 |some (.cells c _ _)=>if a.spot.isSome then none else c[a.off]?
 |_=>none
def pN (H:aa)(a:Addr):Bool:=
 match H[a.block]? with
 |some (.cells _ _ (lo,hi))=>lo<=a.off&&a.off<hi
 |_=>false
def Md (H:aa)(r:Nat):Option (TypeId×Nat):=
 match H[r]? with
 |some (.cells c elem _)=>some (elem,c.size)
 |_=>none
def yA (H:aa)(a:Addr)(v:Value):aa:=
 H.modify a.block λ
  |.cells c elem frozen=>.cells (if a.spot.isSome then c else c.setIfInBounds a.off v) elem frozen
  |o=>o
def xd (H:aa)(a:Addr)(n:Nat):aa:=
 if n=0 then H else
 H.modify a.block λ
  |.cells c elem (lo,hi)=>.cells c elem (if lo==hi then (a.off,a.off+n) else (min lo a.off,max hi (a.off+n)))
  |o=>o
def mU:Value->Bool
 |.agg _=>false
 |.tuple _=>false
 |_=>true
def AH:Obj->Bool
 |.cells ..=>false
 |_=>true
def wpS {α:Type}(P:Program):Sem α->aa->(α->aa->Prop)->Prop
 |.pure a,H,K=>K a H
 |.load _ a k,H,K=>∃v,cg H a=some v/\wpS P (k v) H K
 |.store _ a v k,H,K=>mU v=true/\(∃u,cg H a=some u)/\pN H a=false/\wpS P k (yA H a v) K
 |.new o k,H,K=>wpS P (k H.size) (H.push o) K
 |.shape r k,H,K=>wpS P (k (Md H r)) H K
 |.freeze a n k,H,K=>wpS P k (xd H a n) K
 |.frozen a k,H,K=>wpS P (k (pN H a)) H K
 |.getObj r k,H,K=>∃o,H[r]?=some o/\AH o=true/\wpS P (k o) H K
 |.setObj r o k,H,K=>(∃u,H[r]?=some u/\AH u=true)/\wpS P k (H.setIfInBounds r o) K
 |.choose q k,H,K=>if q.forced then wpS P (k 0) H K else ∀t,wpS P (k (q.cut t)) H K
 |.sys _ _,_,_=>False
 |.program k,H,K=>wpS P (k P) H K
 |.mark _ k,H,K=>wpS P k H K
 |.halt _,_,_=>False
structure Alike (w w':World):Prop where
 rest:w'={w with heap:=w'.heap,drawn:=w'.drawn}
 drawn:w.drawn<=w'.drawn
theorem Alike.of_le {w w':World}(h:w'={w with heap:=w'.heap,drawn:=w'.drawn})(d:w.drawn<=w'.drawn):Alike w w':=⟨h,d⟩
theorem Alike.refl (w:World):Alike w w:=.of_le rfl (Qm _)
theorem Alike.trans {a b c:World}(h:Alike a b)(k:Alike b c):Alike a c:=⟨by
 have h1:=h.rest;have d:=k.rest;rw[h1] at d;exact d,Nat.le_trans h.drawn k.drawn⟩
theorem Alike.os {w w':World}(h:Alike w w'):w'.os=w.os:=by rw[h.rest]
theorem Alike.output {w w':World}(h:Alike w w'):w'.output=w.output:=by rw[h.rest]
theorem pM {α β:Type}{P:Program}(s:Sem α)(f:α->Sem β):∀{H:aa} {K:β->aa->Prop},wpS P s H (λa H'=>wpS P (f a) H' K)->wpS P (s >>= f) H K:=by
 show ∀{H:aa} {K:β->aa->Prop},wpS P s H (λa H'=>wpS P (f a) H' K)->wpS P (s.bind f) H K
 induction s with
 |pure a=>intro H K b;exact b
 |load m a k d=>intro H K ⟨v,h1,e⟩;exact⟨v,h1,d v e⟩
 |store m a v k d=>intro H K ⟨h1,e,g,i⟩;exact⟨h1,e,g,d i⟩
 |new o k d=>intro H K b;exact d _ b
 |shape r k d=>intro H K b;exact d _ b
 |freeze a n k d=>intro H K b;exact d b
 |frozen a k d=>intro H K b;exact d _ b
 |getObj r k d=>intro H K ⟨o,h1,e,g⟩;exact⟨o,h1,e,d o g⟩
 |setObj r o k d=>intro H K ⟨h1,e⟩;exact⟨h1,d e⟩
 |choose q k d=>
   intro H K b;simp only[wpS,Sem.bind] at b ⊢;split
   ·rename_i h;rw[if_pos h] at b;exact d _ b
   ·rename_i h;rw[if_neg h] at b;exact λt=>d _ (b t)
 |sys c k d=>intro H K b;exact b
 |program k d=>intro H K b;exact d _ b
 |mark m k d=>intro H K b;exact d b
 |halt x=>intro H K b;exact b
theorem KP {α:Type}{P:Program}(s:Sem α):∀{w:World} {K:α->aa->Prop},wpS P s w.heap K->∃v w',s.run P w=.ok v w'/\K v w'.heap/\Alike w w':=by
 induction s with
 |pure a=>intro w K h;exact⟨a,w,rfl,h,.refl w⟩
 |load m a k b=>
   intro w K ⟨v,h1,g⟩;obtain⟨u,w',d,r2,f⟩:=b v g;have l:w.cell? a=some v:=h1;exact⟨u,w',by simp only[Sg,l];exact d,r2,f⟩
 |store m a v k b=>
   intro w K ⟨h1,⟨u,g⟩,i,p⟩;obtain⟨x,w',d,r2,f⟩:=b (w:=w.setCell a v) p;have l:w.cell? a=some u:=g;have t:w.frozen? a=false:=i;refine⟨x,w',?_,r2,(Alike.of_le rfl (Qm _):Alike w (w.setCell a v)).trans f⟩;cases v<;>first|exact UY h1|(simp only[Sg,l,t];exact d)
 |new o k b=>
   intro w K h;obtain⟨x,w',d,r2,f⟩:=b w.heap.size (w:={w with heap:=w.heap.push o}) h;exact⟨x,w',d,r2,(Alike.of_le rfl (Qm _):Alike w {w with heap:=w.heap.push o}).trans f⟩
 |shape r k b=>
   intro w K h;obtain⟨x,w',d,r2,f⟩:=b _ h;exact⟨x,w',d,r2,f⟩
 |freeze a n k b=>
   intro w K h;have e:(w.freeze a n).heap=xd w.heap a n:=by unfold YK xd;split<;>rfl
   obtain⟨x,w',d,r2,f⟩:=b (w:=w.freeze a n) (by rw[e];exact h);have e2:Alike w (w.freeze a n):=by unfold YK;split<;>exact .of_le rfl (Qm _)
   exact⟨x,w',d,r2,e2.trans f⟩
 |frozen a k b=>
   intro w K h;obtain⟨x,w',d,r2,f⟩:=b _ h;exact⟨x,w',d,r2,f⟩
 |getObj r k b=>
   intro w K ⟨o,h1,g,i⟩;obtain⟨x,w',d,r2,f⟩:=b o i;refine⟨x,w',?_,r2,f⟩;simp only[Sg,h1];cases o<;>first|exact UY g|exact d
 |setObj r o k b=>
   intro w K ⟨⟨u,h1,g⟩,i⟩;obtain⟨x,w',d,r2,f⟩:=b (w:={w with heap:=w.heap.setIfInBounds r o}) i;refine⟨x,w',?_,r2,(Alike.of_le rfl (Qm _):Alike w {w with heap:=w.heap.setIfInBounds r o}).trans f⟩;simp only[Sg,h1];cases u<;>first|exact UY g|exact d
 |choose q k b=>
   intro w K h;simp only[wpS] at h;by_cases j:q.forced=true
   ·rw[if_pos j] at h;obtain⟨x,w',d,r2,f⟩:=b _ h;exact⟨x,w',by simp only[Sg,if_pos j];exact d,r2,f⟩
   ·rw[if_neg j] at h;obtain⟨x,w',d,r2,f⟩:=b _ (w:={w with drawn:=w.drawn+1}) (h (w.tape w.drawn q));exact⟨x,w',by simp only[Sg,if_neg j];exact d,r2,(Alike.of_le rfl (Nat.le_succ _):Alike w {w with drawn:=w.drawn+1}).trans f⟩
 |sys c k b=>intro w K h;exact h.elim
 |program k b=>
   intro w K h;obtain⟨x,w',d,r2,f⟩:=b P h;exact⟨x,w',d,r2,f⟩
 |mark m k b=>
   intro w K h;obtain⟨x,w',d,r2,f⟩:=b h;exact⟨x,w',d,r2,f⟩
 |halt x=>intro w K h;exact h.elim
def zN:Operand->Bool
 |.const _=>true
 |_=>false
def jP (P:Program):Op->Nat
 |.move _=>0|.assign _=>0|.pick ..=>0|.unOp ..=>0|.nilCheck _=>0
 |.build ..=>0|.field ..=>0|.fieldAddr ..=>0|.indexAddr ..=>0|.index ..=>0|.slice ..=>0|.extract ..=>0
 |.makeFunc ..=>0|.makeInterface ..=>0|.sliceToArrayPointer ..=>0
 |.binOp _ t x y _=>
   match P.underlying t with
   |some (.int _)=>0|some .string=>0|some .bool=>0
   |_=>if zN x||zN y then 0 else 1
 |.convert src dst _=>
   match P.underlying src,P.underlying dst with
   |some (.int _),some (.int _)=>0
   |some .string,some .string=>0
   |some (.slice _),some (.slice _)=>2
   |some (.slice _),_=>1
   |_,_=>2
 |.load ..=>1|.lookup ..=>1
 |.call {callee:=.builtin .len,..}=>1
 |.call {callee:=.builtin .cap,..}=>0
 |.call {callee:=.builtin .min,..}=>0
 |.call {callee:=.builtin .max,..}=>0
 |_=>2
def OJ (M:Option (aa->Prop))(H H':aa):Prop:=match M with|none=>H'=H|some G=>G H'
def jK (M:Option (aa->Prop))(H':aa):Prop:=match M with|none=>True|some G=>G H'
def p9 (P:Program)(r:Result Next)(K:Value->World->Prop):Prop:=
 match r with
 |.ok (.value v) w'=>K v w'
 |.ok .skip w'=>K undef w'
 |.ok (.enter f args) w'=>Calls P f args w' λe a=>∃v,e=.returned v/\K v a
 |.ok (.row row args) w'=>Rows P row args w' K
 |.ok (.round l f tmps assign body) w'=>RoundIn VA 0 P l f tmps assign body w' λe a=>∃v,e=.returned v/\K v a
 |_=>False
def FW (r:Option Nat):Fence:={VA with round:=r}
def gE (P:Program)(M:Option (aa->Prop))(c:Nat)(r:World->Result Next)(K:Value->World->Prop)(w:World):Prop:=
 match c with
 |0=>∃v,(∀w',r w'=.ok (.value v) w')/\K v w
 |1=>∃v,(∀w',OJ M w.heap w'.heap->r w'=.ok (.value v) w')/\K v w
 |_=>p9 P (r w) λv w'=>jK M w'.heap/\K v w'
def On (L:List Nat)(o:Oper):Bool:=match o.dst with|some d=>L.any (QQ d)|none=>false
def dY (P:Program)(L:List Nat)(o:Oper):Nat:=bif QQ (jP P o.op) 1&&On L o then 2 else jP P o.op
def gA (P:Program)(M:Option (aa->Prop))(L:List Nat)(ops:Array Oper)(o:Oper)(K:Act->World->Prop)(a:Act)(w:World):Prop:=
 if RZ o (yielded ops a.tmps)=true then gE P M (dY P L o) (λw=>(execOp a.eval o).run P w) (λv w'=>K (a.put o.dst v) w') w
 else K (a.put o.dst undef) w
theorem gR {i k:Nat}:R3 i k=true↔i<k:=by simp[R3,Nat.lt_iff_add_one_le]
theorem Af {i k:Nat}(h:¬i<k):R3 i k=false:=by
 cases a:R3 i k with
 |false=>rfl
 |true=>exact absurd (gR.1 a) h
def qb (M:Option (aa->Prop))(k i:Nat):Option (aa->Prop):=bif R3 i k then M else none
def ct (P:Program)(M:Option (aa->Prop))(k:Nat)(L:List Nat)(ops:Array Oper)(i:Nat)(K:Act->World->Prop)(a:Act)(w:World):Prop:=
 match ops[i]? with
 |none=>K a w
 |some o=>gA P (qb M k i) L ops o K a w
def fW (P:Program)(M:Option (aa->Prop))(k:Nat)(L:List Nat)(ops:Array Oper)(K:Act->World->Prop):List Nat->Act->World->Prop
 |[]=>K
 |i::l=>ct P M k L ops i (fW P M k L ops K l)
def ij (P:Program)(M:Option (aa->Prop))(L:List Nat)(ops:Array Oper)(K:Act->World->Prop):List Oper->Act->World->Prop
 |[]=>K
 |o::l=>gA P M L ops o (ij P M L ops K l)
section
variable {P:Program}{M:Option (aa->Prop)}{L:List Nat}{ops:Array Oper}{Q:Exit->Act->World->Prop}
theorem iz {r:Result Next}{K K':Value->World->Prop}(h:∀v w,K v w->K' v w)(a:p9 P r K):p9 P r K':=by
 unfold p9 at*;cases r with
 |ok n w'=>
   cases n<;>simp only at a ⊢
   case value v=>exact h _ _ a
   case skip=>exact h _ _ a
   case enter f args=>exact Za a λe b ⟨v,he,hk⟩=>⟨v,he,h _ _ hk⟩
   case row row args=>exact Rows.mono a λv b hk=>h _ _ hk
   case round l f tmps assign body=>exact YL a λe b ⟨v,he,hk⟩=>⟨v,he,h _ _ hk⟩
 |halt x w'=>exact a
theorem wX {r:Result Next}{C:Prop}(a:p9 P r (λ_ _=>C)):C:=by
 unfold p9 at a;cases r with
 |ok n w'=>
   cases n<;>simp only at a
   case value v=>exact a
   case skip=>exact a
   case enter f args=>
    obtain⟨e,w',fr,⟨v,_,hk⟩,_⟩:=a [];exact hk
   case row row args=>
    obtain⟨v,w',hk,_⟩:=a default [];exact hk
   case round l f tmps assign body=>
    obtain⟨e,w',⟨v,_,hk⟩,_⟩:=a.2 default [] (room_wide _);exact hk
 |halt x w'=>exact a.elim
theorem iG {c:Nat}{r:World->Result Next}{K K':Value->World->Prop}{w:World}(h:∀v w,K v w->K' v w)(b:gE P M c r K w):gE P M c r K' w:=
 match c,b with
 |0,⟨v,h1,a⟩=>⟨v,h1,h _ _ a⟩
 |1,⟨v,h1,a⟩=>⟨v,h1,h _ _ a⟩
 |_+2,b=>iz (λv w ⟨h1,a⟩=>⟨h1,h v w a⟩) b
theorem Ai {c:Nat}{M':Option (aa->Prop)}{r:World->Result Next}{K:Value->World->Prop}{w:World}(d:jK M w.heap)(f:c=0\/c=1\/M'=M)(b:gE P M' c r K w):gE P M' c r (λv w'=>jK M w'.heap/\K v w') w:=
 match c,b with
 |0,⟨v,h1,a⟩=>⟨v,h1,d,a⟩
 |1,⟨v,h1,a⟩=>⟨v,h1,d,a⟩
 |n+2,b=>by
   have e:M'=M:=by
    rcases f with h|h|h
    ·omega
    ·omega
    ·exact h
   subst e;exact iz (λv w ⟨h1,a⟩=>⟨h1,h1,a⟩) b
theorem xX {c:Nat}{r:World->Result Next}{C:Prop}{w:World}(b:gE P M c r (λ_ _=>C) w):C:=
 match c,b with
 |0,⟨_,_,a⟩=>a
 |1,⟨_,_,a⟩=>a
 |_+2,b=>wX (iz (K':=λ_ _=>C) (λ_ _ ⟨_,a⟩=>a) b)
theorem zZ {M':Option (aa->Prop)}{c d:Nat}{r s:World->Result Next}{K:Value->Value->World->Prop}{w:World}
  (k:c=0\/d=0\/(c=1/\d=1)\/(M'=M/\M.isSome=true/\(c=1\/d=1)))
  (h:gE P M c r (λv w'=>gE P M' d s (λu b=>K v u b) w') w):gE P M' d s (λu w'=>gE P M c r (λv b=>K v u b) w') w:=by
 rcases k with rfl|rfl|⟨rfl,rfl⟩|⟨rfl,j,rfl|rfl⟩
 ·obtain⟨v,h1,a⟩:=h;exact iG (λu w' hk=>⟨v,h1,hk⟩) a
 ·have g:∃u,∀w',s w'=.ok (.value u) w':=xX (iG (K':=λ_ _=>∃u,∀w',s w'=.ok (.value u) w') (λv w' ⟨u,h1,_⟩=>⟨u,h1⟩) h);obtain⟨u,hu⟩:=g;refine⟨u,hu,iG (λv w' ⟨l,h1,a⟩=>?_) h⟩;have e:=(hu w').symm.trans (h1 w');simp only[Yp,Yl,and_true] at e;rw[e];exact a
 ·obtain⟨v,h1,u,a,f⟩:=h;exact⟨u,a,v,h1,f⟩
 ·cases M' with
  |none=>cases j
  |some G=>
    obtain⟨v,h1,a⟩:=h;exact iG (λu w' hk=>⟨v,h1,hk⟩) a
 ·cases M' with
  |none=>cases j
  |some G=>
    match c,h with
    |0,⟨v,h1,u,a,f⟩=>exact⟨u,a,v,h1,f⟩
    |1,⟨v,h1,u,a,f⟩=>exact⟨u,a,v,h1,f⟩
    |c+2,h=>
      have g:∃u,∀w',G w'.heap->s w'=.ok (.value u) w':=wX (iz (K':=λ_ _=>∃u,∀w',G w'.heap->s w'=.ok (.value u) w') (λv w' ⟨_,u,h1,_⟩=>⟨u,h1⟩) h);obtain⟨u,hu⟩:=g;refine⟨u,hu,iz (λv w' ⟨i,l,h1,a⟩=>⟨i,?_⟩) h⟩;have e:=(hu w' i).symm.trans (h1 w' i);simp only[Yp,Yl,and_true] at e;rw[e];exact a
theorem sK {w:World}(a:jK M w.heap):OJ M w.heap w.heap:=by
 cases M with
 |none=>rfl
 |some G=>exact a
theorem Ah {row:String}{args:Array Value}{w:World}{R:Value->World->Prop}{r:Option Nat}(h:Rows P row args w R):RowsIn (FW r) 0 P row args w R:=
 λc cs _=>let ⟨v,w',h1,a⟩:=h c cs;⟨v,w',h1,(Z6 a).mono λm _=>fenced_wide P m⟩
theorem qH {o:Oper}{a:Act}{w:World}{K:Act->World->Prop}{rn:Option Nat}(g:p9 P ((execOp a.eval o).run P w) (λv w'=>K (a.put o.dst v) w')):o.wpIn (FW rn) 0 P a w K Q:=by
 refine⟨λ_ _=>trivial,?_⟩;have he:o.semAt (FW rn).round a.eval=execOp a.eval o:=by
  refine Oper.semAt_eq _ _ _ λc i=>?_;unfold p9 at g;simp only[execOp,i,Sem.run_bind] at g;generalize (resolve a.eval c o.type).run P w=r at g;cases r with
  |ok d w'=>exact g
  |halt x w'=>exact g
 rw[he];unfold p9 at g;generalize (execOp a.eval o).run P w=r at*;have hd:(FW rn).depth.isSome=true->1<=0:=λh=>by cases h
 cases r with
 |ok n w'=>
   cases n<;>simp only at g<;>simp only[Oper.uponIn]
   case value v=>exact g
   case skip=>exact g
   case enter f args=>
    refine⟨hd,?_⟩;have h1:Calls P f args w' λ
      |.returned v,b=>K (a.put o.dst v) b
      |.panicked chain,b=>Q (.panic chain) a b
      |.outgrown,_=>LetsOut Q:=Za g λe b ⟨v,he,hk⟩=>by subst he;exact hk
    exact callsIn_wide.2 h1
   case row row args=>exact⟨hd,Ah g⟩
   case round l f tmps assign body=>
    refine⟨hd,?_⟩;have h1:RoundIn VA 0 P l f tmps assign body w' λ
      |.returned v,b=>K (a.put o.dst v) b
      |.panicked chain,b=>Q (.panic chain) a b
      |.outgrown,_=>LetsOut Q:=YL g λe b ⟨v,he,hk⟩=>by subst he;exact hk
    exact h1
 |halt x w'=>exact g.elim
theorem xH {c:Nat}{o:Oper}{a:Act}{w:World}{K:Act->World->Prop}{rn:Option Nat}(e:c=1->jK M w.heap)
  (f:gE P M c (λw=>(execOp a.eval o).run P w) (λv w'=>K (a.put o.dst v) w') w):o.wpIn (FW rn) 0 P a w K Q:=by
 match c,e,f with
 |0,_,⟨v,h1,b⟩=>have d:=h1 w;dsimp only at d;exact qH (by rw[d];exact b)
 |1,e,⟨v,h1,b⟩=>have d:=h1 w (sK (e rfl));dsimp only at d;exact qH (by rw[d];exact b)
 |_+2,_,f=>exact qH (iz (λv w' ⟨_,b⟩=>b) f)
theorem wg {o:Oper}{a:Act}{w:World}{K K':Act->World->Prop}(h:∀a w,K a w->K' a w)(b:gA P M L ops o K a w):gA P M L ops o K' a w:=by
 unfold gA at*;split
 ·rename_i hw;rw[if_pos hw] at b;exact iG (λv w hk=>h _ _ hk) b
 ·rename_i hw;rw[if_neg hw] at b;exact h _ _ b
theorem qx {M':Option (aa->Prop)}{o:Oper}{a:Act}{w:World}{K:Act->World->Prop}(c:jK M w.heap)(d:dY P L o=0\/dY P L o=1\/M'=M)(b:gA P M' L ops o K a w):gA P M' L ops o (λa w=>jK M w.heap/\K a w) a w:=by
 unfold gA at*;split
 ·rename_i hw;rw[if_pos hw] at b;exact Ai c d b
 ·rename_i hw;rw[if_neg hw] at b;exact⟨c,b⟩
theorem dL {k i:Nat}{a:Act}{w:World}{K K':Act->World->Prop}(h:∀a w,K a w->K' a w)(b:ct P M k L ops i K a w):ct P M k L ops i K' a w:=by
 unfold ct at*;split
 ·rename_i c;rw[c] at b;exact h _ _ b
 ·rename_i o c;rw[c] at b;exact wg h b
theorem CI {o:Oper}{a:Act}{w:World}{K:Act->World->Prop}{rn:Option Nat}(c:dY P L o=1->jK M w.heap)(b:gA P M L ops o K a w):
  if RZ o (yielded ops a.tmps)=true then o.wpIn (FW rn) 0 P a w K Q else ((∀f,o.about P w a.eval=some f->(FW rn).fn f)/\K (a.put o.dst undef) w):=by
 unfold gA at b;split
 ·rename_i hw;rw[if_pos hw] at b;exact xH c b
 ·rename_i hw;rw[if_neg hw] at b;exact⟨λ_ _=>trivial,b⟩
theorem lF {k i:Nat}{a:Act}{w:World}{K:Act->World->Prop}{rn:Option Nat}(d:∀o,ops[i]?=some o->i<k->dY P L o=1->jK M w.heap)(b:ct P M k L ops i K a w):wpOpIn (FW rn) 0 P ops Q i K a w:=by
 unfold ct at b;unfold wpOpIn;split
 ·rename_i c;rw[c] at b;exact b
 ·rename_i o c;rw[c] at b;refine CI (M:=qb M k i) (λe=>?_) b;unfold qb;cases hk:R3 i k with
  |true=>exact d o c (gR.1 hk) e
  |false=>exact trivial
theorem kB {rn:Option Nat}{K:Act->World->Prop}(c:∀a w,K a w->Q .normal a w):∀(l:List Oper) (a:Act) (w:World),ij P none L ops K l a w->wpListIn (FW rn) 0 P ops Q l a w
 |[],a,w,h=>c _ _ h
 |o::l,a,w,h=>by
   have h1:gA P none L ops o (wpListIn (FW rn) 0 P ops Q l) a w:=wg (λa w hk=>kB c l a w hk) h;have b:=CI (M:=none) (Q:=Q) (rn:=rn) (λ_=>trivial) h1;unfold wpListIn;split
   ·rename_i hw;rw[if_pos hw] at b;exact b
   ·rename_i hw;rw[if_neg hw] at b;exact b
def df (P:Program)(L:List Nat)(m:Bool)(ops:Array Oper)(x y:Oper):Bool:=
 Zb ops x y&&(dY P L x==0||dY P L y==0||(dY P L x==1&&dY P L y==1)||(m&&(dY P L x==1||dY P L y==1)))&&
 (match x.op with|.select ..=>false|_=>true)&&(match y.op with|.select ..=>false|_=>true)
theorem nT {m:Bool}{x y:Oper}(h:df P L m ops x y=true):Zb ops x y=true/\
  (dY P L x=0\/dY P L y=0\/(dY P L x=1/\dY P L y=1)\/(m=true/\(dY P L x=1\/dY P L y=1)))/\
  (∀cs b,x.op≠.select cs b)/\(∀cs b,y.op≠.select cs b):=by
 unfold df at h;simp only[Qz,Rm,beq_iff_eq] at h;obtain⟨⟨⟨h1,a⟩,c⟩,d⟩:=h;refine⟨h1,?_,?_,?_⟩
 ·rcases a with ((a|a)|a)|a
  ·exact .inl a
  ·exact .inr (.inl a)
  ·exact .inr (.inr (.inl a))
  ·exact .inr (.inr (.inr a))
 ·intro cs b e;rw[e] at c;cases c
 ·intro cs b e;rw[e] at d;cases d
theorem qN {M':Option (aa->Prop)}{m:Bool}{x y:Oper}(j:df P L m ops x y=true)(hm:m=true->M'=M/\M.isSome=true){K:Act->World->Prop}{a:Act}{w:World}
  (h:gA P M L ops x (gA P M' L ops y K) a w):gA P M' L ops y (gA P M L ops x K) a w:=by
 obtain⟨e,b,f,g⟩:=nT j;have b:dY P L x=0\/dY P L y=0\/(dY P L x=1/\dY P L y=1)\/(M'=M/\M.isSome=true/\(dY P L x=1\/dY P L y=1)):=by
  rcases b with h|h|h|⟨h,k⟩
  ·exact .inl h
  ·exact .inr (.inl h)
  ·exact .inr (.inr (.inl h))
  ·exact .inr (.inr (.inr ⟨(hm h).1,(hm h).2,k⟩))
 obtain⟨i,a2,a3⟩:=Oper.apart_spec e;have l:∀v,RZ y (yielded ops (a.put x.dst v).tmps)=RZ y (yielded ops a.tmps):=λv=>wanted_put y a x.dst v i;have n:∀v,RZ x (yielded ops (a.put y.dst v).tmps)=RZ x (yielded ops a.tmps):=λv=>wanted_put x a y.dst v a3;have o:∀v,execOp (a.put x.dst v).eval y=execOp a.eval y:=λv=>execOp_put (ops:=ops) y g a x.dst v i;have ex:∀v,execOp (a.put y.dst v).eval x=execOp a.eval x:=λv=>execOp_put (ops:=ops) x f a y.dst v a3;have pc:∀v u,(a.put x.dst v).put y.dst u=(a.put y.dst u).put x.dst v:=λv u=>Act.put_comm a v u a2;unfold gA at h ⊢;simp only[l,n,o,ex,pc] at h ⊢;by_cases d:RZ x (yielded ops a.tmps)=true
 ·by_cases c:RZ y (yielded ops a.tmps)=true
  ·simp only[if_pos d,if_pos c] at h ⊢;exact zZ b h
  ·simp only[if_pos d,if_neg c] at h ⊢;exact h
 ·by_cases c:RZ y (yielded ops a.tmps)=true
  ·simp only[if_neg d,if_pos c] at h ⊢;exact h
  ·simp only[if_neg d,if_neg c] at h ⊢;exact h
def aN (ops:Array Oper)(listed:Array Bool):List Nat:=(RI ops.size).filter λi=>!listed.getD i true
def oZ (acc:List Nat):List Edge->Nat
 |[]=>0
 |e::r=>bif RY .any e then (oZ acc r|||2^e.on)|||acc.getD e.on 0 else oZ acc r
def dS:List Oper->List Nat->List Nat
 |[],acc=>acc
 |o::l,acc=>dS l (acc++[oZ acc o.after.toList])
theorem ou {acc:List Nat}{i:Nat}:∀{l:List Edge},(oZ acc l).testBit i=true->∃e∈l,RY .any e=true/\(e.on=i\/(acc.getD e.on 0).testBit i=true)
 |[],h=>by simp[oZ] at h
 |e::r,h=>by
   unfold oZ at h;cases a:RY .any e with
   |false=>
     rw[a] at h;obtain⟨b,h1,c⟩:=ou (l:=r) (by simpa using h);exact⟨b,Qu _ h1,c⟩
   |true=>
     rw[a] at h;simp only[cond_true,Nat.testBit_or,Rm] at h;rcases h with (h|h)|h
     ·obtain⟨b,h1,c⟩:=ou h;exact⟨b,Qu _ h1,c⟩
     ·exact⟨e,Qp,a,.inl (by simpa[Nat.testBit_two_pow] using h)⟩
     ·exact⟨e,Qp,a,.inr h⟩
theorem mI:∀(l:List Oper) (acc:List Nat) (j:Nat),j<acc.length->(dS l acc).getD j 0=acc.getD j 0
 |[],_,_,_=>rfl
 |o::l,acc,j,h=>by
   unfold dS;rw[mI l _ j (by simp;omega)];simp[QM,QR h]
theorem CF:∀(l:List Oper) (acc:List Nat) (k:Nat) (o:Oper),l[k]?=some o->∃a,(dS l acc).getD (acc.length+k) 0=oZ a o.after.toList/\∀i,i<acc.length+k->a.getD i 0=(dS l acc).getD i 0
 |[],_,_,_,h=>by simp at h
 |o::l,acc,0,b,h=>by
   have e:o=b:=by simpa using h
   subst e;refine⟨acc,?_,λi hi=>?_⟩
   ·unfold dS;rw[mI l _ _ (by simp)];simp[QM]
   ·unfold dS;rw[mI l _ _ (by simp at hi ⊢;omega)];simp[QM,QR (show i<acc.length by omega)]
 |o::l,acc,k+1,b,h=>by
   obtain⟨a,h1,c⟩:=CF l (acc++[oZ acc o.after.toList]) k b (by simpa using h);have e:(acc++[oZ acc o.after.toList]).length+k=acc.length+(k+1):=by simp;omega
   rw[e] at h1 c;exact⟨a,by unfold dS;exact h1,λi hi=>by unfold dS;exact c i hi⟩
def waits (B:List Nat)(j i:Nat):Bool:=(B.getD j 0).testBit i
def kU (P:Program)(L:List Nat)(k:Nat)(ops:Array Oper)(B:List Nat):Bool:=
 (RI ops.size).all λj=>match ops[j]? with
  |some oj=>(oj.after.all λe=>!RY .any e||decide (e.on<j))&&
    (RI j).all λi=>match ops[i]? with
     |some oi=>df P L (R3 j k) ops oi oj||waits B j i
     |none=>false
  |none=>false
def eK (P:Program)(L:List Nat)(k:Nat)(ops:Array Oper):Bool:=kU P L k ops (dS ops.toList [])
def ordered (B:List Nat)(i j:Nat):Bool:=waits B j i||waits B i j
def MW (P:Program):List Oper->Nat->List Nat
 |[],_=>[]
 |o::r,k=>bif Nat.ble 2 (jP P o.op) then k::MW P r (k+1) else MW P r (k+1)
def sw (P:Program)(B E:List Nat):List Oper->Nat->List Nat->List Nat
 |[],_,_=>[]
 |o::r,k,acc=>(match o.dst with
   |some d=>bif QQ (jP P o.op) 1&&(E.all (ordered B k)&&acc.all (ordered B k)) then d::sw P B E r (k+1) (k::acc) else sw P B E r (k+1) acc
   |none=>sw P B E r (k+1) acc)
def qV (P:Program)(ops:Array Oper):List Nat:=sw P (dS ops.toList []) (MW P ops.toList 0) ops.toList 0 []
def FM (f:Nat->Bool):Nat->Nat->Nat
 |_,0=>0
 |k,n+1=>bif f k then k else FM f (k+1) n
def xL (P:Program)(L:List Nat)(ops:Array Oper):Nat:=let B:=dS ops.toList [];FM (λk=>kU P L k ops B) 0 (ops.size+1)
theorem oY {k:Nat}(h:eK P L k ops=true){j:Nat}{oj:Oper}(b:ops[j]?=some oj){e:Edge}(he:e∈oj.after)(c:RY .any e=true):e.on<j:=by
 unfold eK kU at h;have a:j<ops.size:=(Qv.1 b).1;have:=Rk.1 h j (Q7.2 a);rw[b] at this;simp only[Qz] at this;have d:=Array.all_eq_true_iff_forall_mem.1 this.1 e he;simpa[c] using d
theorem mZ {k:Nat}(h:eK P L k ops=true){i j:Nat}{oi oj:Oper}(hi:ops[i]?=some oi)(c:ops[j]?=some oj)(a:i<j):df P L (R3 j k) ops oi oj=true\/waits (dS ops.toList []) j i=true:=by
 unfold eK kU at h;have b:j<ops.size:=(Qv.1 c).1;have:=Rk.1 h j (Q7.2 b);rw[c] at this;simp only[Qz] at this;have d:=Rk.1 this.2 i (Q7.2 a);rw[hi] at d;simpa[Rm] using d
def qF (ops:Array Oper)(listed:Array Bool):Prop:=
 ∀j oj,ops[j]?=some oj->listed.getD j false=true->∀e∈oj.after,RY .any e=true->listed.getD e.on false=true
theorem kY {listed:Array Bool}(p:qF ops listed)(g:∀j oj,ops[j]?=some oj->∀e∈oj.after,RY .any e=true->e.on<j):∀(j i:Nat) (oj:Oper),ops[j]?=some oj->
  (∀e∈oj.after,RY .any e=true->listed.getD e.on false=true)->waits (dS ops.toList []) j i=true->listed.getD i false=true:=by
 intro j
 induction j using Nat.strongRecOn with
 |_ j q=>
   intro i oj k b h;unfold waits at h;obtain⟨l,h1,m⟩:=CF ops.toList [] j oj (by simpa using k);simp only[List.length_nil,Ry] at h1 m;rw[h1] at h;obtain⟨e,he,n,a⟩:=ou h;have c:e∈oj.after:=by simpa using he
   have o:=b e c n;have d:=g j oj k e c n;rcases a with a|a
   ·rw[<-a];exact o
   ·rw[m _ d] at a;have r:j<ops.size:=(Qv.1 k).1;have f:ops[e.on]?=some (ops[e.on]'(by omega)):=Q8 (by omega);exact q e.on d i _ f (p e.on _ f o) a
theorem uK {K:Act->World->Prop}{k j:Nat}(c:∀i,i<k->M.isSome=true):∀(b l2:List Nat),(∀i∈b,i<j/\∃oi oj,ops[i]?=some oi/\ops[j]?=some oj/\df P L (R3 j k) ops oi oj=true)->
  ∀a w,fW P M k L ops K (b++j::l2) a w->ct P M k L ops j (fW P M k L ops K (b++l2)) a w
 |[],l2,_,a,w,h=>h
 |i::b,l2,l,a,w,h=>by
   have h1:ct P M k L ops i (ct P M k L ops j (fW P M k L ops K (b++l2))) a w:=dL (uK c b l2 (λk hk=>l k (Qu _ hk))) h;obtain⟨o,oi,oj,hi,p,d⟩:=l i Qp;have e:∀K',ct P M k L ops i K'=gA P (qb M k i) L ops oi K':=λK'=>by funext a w;simp only[ct,hi]
   have m:∀K',ct P M k L ops j K'=gA P (qb M k j) L ops oj K':=λK'=>by funext a w;simp only[ct,p]
   rw[e,m] at h1;have q:=qN d (λn=>by
    have f:j<k:=gR.1 n;have g:R3 i k=true:=gR.2 (by omega);unfold qb;rw[n,g];exact⟨rfl,c j f⟩) h1
   simp only[UZ,fW];rw[e,m];exact q
theorem jd (p:Nat->Bool)(j:Nat)(b:p j=true):∀(n:Nat),j<n->∃a l2,(RI n).filter p=a++j::l2/\(∀i∈a,i<j/\p i=true)/\
  (RI n).filter (λi=>p i&&decide (i≠j))=a++l2
 |0,h=>by omega
 |n+1,h=>by
   rw[List.range_succ,RU,RU];by_cases c:j=n
   ·subst c;refine⟨(RI j).filter p,[],by simp[b],?_,?_⟩
    ·intro i hi;rw[QL,Q7] at hi;exact hi
    ·simp only[ne_eq,RA];rw[show List.filter (λi=>p i&&decide (¬i=j)) [j]=[] from by simp,RA];exact Sp λi hi=>by
      have:i≠j:=by have:=Q7.1 hi;omega
      simp[this]
   ·obtain⟨a,l2,h1,d,f⟩:=jd p j b n (by omega);refine⟨a,l2++[n].filter p,by rw[h1];simp,d,?_⟩;rw[f,List.append_assoc];congr 2;have:n≠j:=λe=>c e.symm;simp[List.filter_cons,this]
def Mi (P:Program)(L:List Nat)(k:Nat)(ops:Array Oper)(listed:Array Bool):Prop:=∃i o,ops[i]?=some o/\listed.getD i true=false/\i<k/\dY P L o=1
theorem HM {rn:Option Nat}{k:Nat}(Z:∀i,i<k->M.isSome=true)(U:eK P L k ops=true):∀(fuel:Nat) (listed:Array Bool) (a:Act) (w:World),(Mi P L k ops listed->jK M w.heap)->listed.size=ops.size->qF ops listed->(aN ops listed).length=fuel->
  fW P M k L ops (λa w=>Q .normal a w) (aN ops listed) a w->wpAnyIn (FW rn) 0 P .any ops Q fuel listed a w:=by
 intro fuel
 induction fuel with
 |zero=>
   intro listed a w hG hs hc B h;have V:aN ops listed=[]:=List.length_eq_zero_iff.1 B;refine⟨?_,by rw[V] at h;exact h⟩;rw[List.eq_nil_iff_forall_not_mem];intro j D;obtain⟨hu,o,C,_⟩:=mem_ready.1 D;have y:j<ops.size:=(Qv.1 C).1;have:j∈aN ops listed:=QL.2 ⟨Q7.2 y,by simp[hu]⟩;rw[V] at this;cases this
 |succ fuel ih=>
   intro listed a w hG hs hc B h;refine⟨λV=>?_,λj D=>?_⟩
   ·-- the first that is not listed is ready
    exfalso;cases W:aN ops listed with
    |nil=>rw[W] at B;simp at B
    |cons m rest=>
      have hm:m∈aN ops listed:=by rw[W];exact Qp
      have E:∀i,i<m->listed.getD i false=true:=by
       intro i hi;obtain⟨z,F⟩:=QL.1 hm;have t:=Q7.1 z;cases A:listed.getD i true with
       |true=>
         have:i<listed.size:=by omega
         simp[this] at A ⊢;exact A
       |false=>
         have G:i∈aN ops listed:=QL.2 ⟨Q7.2 (by omega),by simp[A]⟩;rw[W] at G;have b:(aN ops listed).Pairwise (·<·):=VQ _ List.pairwise_lt_range;rw[W,List.pairwise_cons] at b;rcases List.mem_cons.1 G with e|e
         ·omega
         ·have:=b.1 i e;omega
      obtain⟨z,F⟩:=QL.1 hm;have t:=Q7.1 z;have C:ops[m]?=some ops[m]:=Q8 t;have:m∈Region.ready .any ops listed:=mem_ready.2 ⟨by simpa using F,_,C,λe he u=>E _ (oY U C he u)⟩;rw[V] at this;cases this
   ·obtain⟨hu,oj,f,v⟩:=mem_ready.1 D;have y:j<ops.size:=(Qv.1 f).1;obtain⟨H,l2,e1,e2,e3⟩:=jd (λi=>!listed.getD i true) j (by simp[hu]) ops.size y;have I:aN ops listed=H++j::l2:=e1;have e4:aN ops (listed.setIfInBounds j true)=H++l2:=by
     rw[<-e3];unfold aN;refine Sp λi hi=>?_;have ae:i<listed.size:=by rw[hs];exact Q7.1 hi
     by_cases c:i=j
     ·subst c;simp[ae]
     ·rw[getD_set_ne true (Ne.symm c)];simp[c]
    have p:∀i,listed.getD i true=false->i<ops.size->waits (dS ops.toList []) j i=false:=by
     intro i r d;cases g:waits (dS ops.toList []) j i with
     |false=>rfl
     |true=>
       have l:=kY hc (λj oj D e he u=>oY U D he u) j i oj f v g;have:i<listed.size:=by omega
       simp[this] at r l;rw[r] at l;cases l
    rw[I] at h;have X:=uK Z H l2 (λi hi=>by
     obtain⟨c,r⟩:=e2 i hi;have d:i<ops.size:=by omega
     have n:ops[i]?=some ops[i]:=Q8 d;refine⟨c,ops[i],oj,n,f,?_⟩;rcases mZ U n f c with g|g
     ·exact g
     ·rw[p i (by simpa using r) d] at g;cases g) a w h
    have J:∀o,ops[j]?=some o->j<k->dY P L o=1->jK M w.heap:=λo C hk af=>hG ⟨j,o,C,hu,hk,af⟩;have go:∀x w',(Mi P L k ops (listed.setIfInBounds j true)->jK M w'.heap)->fW P M k L ops (λa w=>Q .normal a w) (H++l2) x w'->wpAnyIn (FW rn) 0 P .any ops Q fuel (listed.setIfInBounds j true) x w':=by
     intro x w' hg hk;refine ih (listed.setIfInBounds j true) x w' hg (by simp[hs]) ?_ ?_ (by rw[e4];exact hk)
     ·intro q ok hq K e he u;by_cases N:j=q
      ·subst N;have:ok=oj:=Qq (hq.symm.trans f);subst this;exact getD_set_true (v e he u)
      ·rw[getD_set_ne false N] at K;exact getD_set_true (hc q ok hq K e he u)
     ·rw[e4];rw[I] at B;simp only[List.length_append,QJ] at B ⊢;omega
    by_cases hp:Mi P L k ops (listed.setIfInBounds j true)
    ·obtain⟨i,oi,n,d,a1,O⟩:=hp;have c:j≠i:=by
      intro e;subst e;have:j<listed.size:=by omega
      simp[this] at d
     rw[getD_set_ne true c] at d;have a6:jK M w.heap:=hG ⟨i,oi,n,d,a1,O⟩;have R:i<ops.size:=(Qv.1 n).1;have s:dY P L oj=0\/dY P L oj=1\/qb M k j=M:=by
      by_cases S:j<k
      ·right;right;have:R3 j k=true:=gR.2 S;unfold qb;rw[this];rfl
      ·have T:i<j:=by omega
       have u:R3 j k=false:=Af S;rcases mZ U n f T with g|g
       ·rw[u] at g;obtain⟨_,l,_,_⟩:=nT g;rcases l with l|l|⟨_,l⟩|⟨l,_⟩
        ·rw[O] at l;cases l
        ·exact .inl l
        ·exact .inr (.inl l)
        ·cases l
       ·rw[p i d R] at g;cases g
     have g:ct P M k L ops j (λa w=>jK M w.heap/\fW P M k L ops (λa w=>Q .normal a w) (H++l2) a w) a w:=by
      unfold ct at X ⊢;rw[f] at X ⊢;exact qx a6 s X
     exact lF J (dL (λx w' Y=>go x w' (λ_=>Y.1) Y.2) g)
    ·exact lF J (dL (λx w' Y=>go x w' (λq=>absurd q hp) Y) X)
theorem jA {K:Act->World->Prop}{k:Nat}{M':Option (aa->Prop)}:∀(l:List Oper) (s:Nat),(∀j,j<l.length->l[j]?=ops[s+j]?)->(∀j,j<l.length->qb M k (s+j)=M')->fW P M k L ops K (Xw s l.length)=ij P M' L ops K l
 |[],s,_,_=>rfl
 |o::l,s,c,hm=>by
   have d:ops[s]?=some o:=by simpa using (c 0 (by simp)).symm
   have e:=jA (K:=K) (k:=k) (M':=M') l (s+1) (λj f=>by have:=c (j+1) (by simp;omega);simpa[Nat.add_assoc,Nat.add_comm 1 j] using this) (λj f=>by have:=hm (j+1) (by simp;omega);rw[<-this];congr 1;omega);have b:qb M k s=M':=by simpa using hm 0 (by simp)
   funext a w;simp only[QJ,List.range'_succ,fW,ij,ct,d,e,b]
theorem rQ {K:Act->World->Prop}{k:Nat}:∀(b l2:List Nat),fW P M k L ops K (b++l2)=fW P M k L ops (fW P M k L ops K l2) b
 |[],_=>rfl
 |i::b,l2=>by
   funext a w;simp only[UZ,fW];rw[rQ b l2]
theorem ju {rn:Option Nat}{id:Nat}{a:Act}{w:World}{k:Nat}(hm:P.follows .mixedOrders=true)(d:∀i,i<k->M.isSome=true)(l:eK P L k ops=true)(m:jK M w.heap)
  (h:ij P M L ops (ij P none L ops (λa w=>Q .normal a w) (ops.toList.drop k)) (ops.toList.take k) a {w with drawn:=w.drawn+1}):(Uh id ops true).wpIn (FW rn) 0 P Q a w:=by
 have hu:aN ops (RJ ops.size false)=RI ops.size:=by
  unfold aN;rw[List.filter_eq_self];intro i hi;have:=Q7.1 hi;simp[this]
 refine wpIn_region_any hm (HM d l ops.size _ a _ (λ_=>m) (by simp) ?_ (by rw[hu];simp) ?_)
 ·intro j oj _ g;have:∀j,(RJ ops.size false).getD j false=false:=λj=>by
   rcases Nat.lt_or_ge j ops.size with h|h
   ·simp[h]
   ·simp[h]
  rw[this] at g;cases g
 ·rw[hu,List.range_eq_range'];have b:Xw 0 ops.size=Xw 0 (ops.toList.take k).length++Xw (ops.toList.take k).length (ops.toList.drop k).length:=by
   have h1:ops.size=(ops.toList.take k).length+(ops.toList.drop k).length:=by simp;omega
   rw[h1,<-List.range'_append_1];simp
  have t1:=jA (P:=P) (M:=M) (L:=L) (ops:=ops) (K:=ij P none L ops (λa w=>Q .normal a w) (ops.toList.drop k)) (k:=k) (M':=M) (ops.toList.take k) 0 (λj c=>by
   have f:j<k:=by simp at c;omega
   rw[List.getElem?_take,if_pos f,Ry,VI]) (λj c=>by
   have:R3 (0+j) k=true:=gR.2 (by simp at c;omega);unfold qb;rw[this];rfl)
  have t2:=jA (P:=P) (M:=M) (L:=L) (ops:=ops) (K:=λa w=>Q .normal a w) (k:=k) (M':=none) (ops.toList.drop k) (ops.toList.take k).length (λj c=>by
   have e:(ops.toList.take k).length=k:=by simp at c ⊢;omega
   rw[e,List.getElem?_drop,VI]) (λj c=>by
   have:R3 ((ops.toList.take k).length+j) k=false:=Af (by simp at c ⊢;omega);unfold qb;rw[this];rfl)
  rw[b,rQ,t2,t1];exact h
theorem ve {rn:Option Nat}{id:Nat}{a:Act}{w:World}(h:ij P none L ops (λa w=>Q .normal a w) ops.toList a w):(Uh id ops false).wpIn (FW rn) 0 P Q a w:=
 wpIn_region_list (kB (λ_ _ h=>h) _ _ _ h)
end
end Go.Proofs.YtkehfflpbpdokaaGreatDoor
