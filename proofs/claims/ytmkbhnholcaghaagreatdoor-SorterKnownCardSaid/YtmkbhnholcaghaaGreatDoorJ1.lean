/-
 Ground for all walks of this seat, over any program: what one operation does, said of the heap alone (the count of draws is left free), and the theorem that a region which draws its order may be walked in the order of the text where its operations commute.
-/
import Derived.Orders
import Derived.OrdersIn
import Derived.RangeFuncIn
import Derived.RangeFuncLeaves
import Derived.Tactics
import Derived.TacticsIn
import Derived.WalkKit
open Array renaming getElem?_eq_some_iff->QR,getElem?_eq_getElem->Rn,getElem?_setIfInBounds_ne->Sa,replicate->Tm,ext'->U0,getElem?_toList->V0,all_eq_true_iff_forall_mem->WK,getD_eq_getD_getElem?->Xq,range->Y3
open BitVec renaming ofInt->SX
open Bool renaming and_eq_true->QY,not_eq_true'->R7,or_eq_true->Sc,or_eq_false_iff->Sp,noConfusion->Wd
open ByteArray renaming empty->Tn
open Go.Act renaming put->XR
open Go.Builtin renaming append_->QM,delete_->Sj,clear_->VY,copy_->Wf,len_->Zm
open Go.Calls renaming mono->ZQ
open Go.Code renaming wpIn_mono->RX,region->U7
open Go.Deferred renaming ofValue->Ud
open Go.Exit renaming inBlock->Zn
open Go.Fence renaming wide->WG
open Go.Frame renaming atR->Z5
open Go.Instr renaming storeAt->Q3,buildSlice->R2,lookup->Sd,mapUpdate->SZ,sureAddr->Te,fill->TF,sliceBounds->TH,sliceBound->Vm,sliceAt->We,getLoop->WM,index->Xk,slice->Xl,makeMap->XS,loadAt->Ya,yield->Yj,enterLoop->YE,endRound->YW,indexAt->Y7,endLoop->Y8,alloc->Zw,box->Z4
open Go.LoopState renaming busy->YV
open Go.Made renaming depth->XA
open Go.Next.value renaming injEq->Yx
open Go.Op renaming maxDepth->SN,equalIn->Tv,equal->Tw,intDiv->Z3,shift->aai
open Go.Oper renaming apart->ZR
open Go.Region renaming binds->Sq,wanted->Sv,ready->Zl
open Go.Result renaming andThen_ok->Rl
open Go.Result.ok renaming injEq->YD
open Go.RoundIn renaming mono->Zk
open Go.Sem renaming run_bind->Rk,run_pure->RN,run->Sn
open Go.World renaming freeze->Zj
open Go.stepG renaming exec->ZS
open Int renaming eq_ofNat_of_zero_le->Ts
open List renaming getElem?_eq_some_iff->QJ,mem_append->QQ,mem_cons->QX,mem_singleton->Q1,mem_cons_of_mem->Q8,mem_cons_self->Q9,getElem?_append_left->Rf,length_append->Ri,mem_filter->Rp,length_cons->Rr,mem_range->Rs,range->RI,mem_of_mem_take->RU,getD->RY,pairwise_cons->R0,all_eq_true->R6,filter_append->Sh,mem_flatMap->Sm,filter_eq_self->Su,filter_congr->Sx,nil_append->SY,filter_cons->S0,any_eq_true->S9,append_nil->Tl,foldl_cons->Tx,mem_of_mem_drop->TI,cons_append->TU,filter_filter->TW,any_append->T9,contains_iff_mem->UL,length_eq_zero_iff->Vq,eq_nil_iff_forall_not_mem->VE,drop_zero->V1,zip_cons_cons->Wv,pairwise_lt_range->WD,length_pos_iff_exists_mem->W3,takeWhile_cons->Xg,dropWhile_cons->Xh,take_zero->Xm,mem_filterMap->Xr,range'->Yf,mapM_cons->Yl
open List.Pairwise renaming filter->WV
open Nat renaming le_refl->QN,le_trans->QZ,eq_of_beq_eq_true->Q0,beq->Rh,lt_or_ge->RA,le_succ->RB,zero_add->R3,blt->SF,le_of_ble_eq_true->UK,ble->VD,lt_trans->WY,strongRecOn->X9,ble_eq_true_of_le->Yk,beq_refl->Z6
open Ne renaming symm->Sg
open Option renaming isSome_iff_exists->TC,map_some->UJ,map_none->WX
open Option.some renaming inj->Rc,injEq->RH
open Prod.mk renaming inj->Y4
open Go renaming World->gb,Value->gp,Act->gx,Program->hQ,Oper->hV,Addr->hY,TypeId->ic,Sem->ik,Operand->ka,Code->kb,FuncId->kc,Exit->kl,Next->km,Result->l0,IntKind->mi,Deferred->mj,ResultVar->nd,TypeDesc->nH
namespace Go.Proofs.YtmkbhnholcaghaaGreatDoor
abbrev aa:=Array Obj
def dh (H:aa)(a:hY):Option gp:=
 match H[a.block]? with
 |some (.cells c _ _)=>if a.spot.isSome then none else c[a.off]?
 |_=>none
def qe (H:aa)(a:hY):Bool:=
 match H[a.block]? with
 |some (.cells _ _ (lo,hi))=>lo<=a.off&&a.off<hi
 |_=>false
def MU (H:aa)(r:Nat):Option (ic×Nat):=
 match H[r]? with
 |some (.cells c elem _)=>some (elem,c.size)
 |_=>none
def xR (H:aa)(a:hY)(v:gp):aa:=
 H.modify a.block λ
  |.cells c elem frozen=>.cells (if a.spot.isSome then c else c.setIfInBounds a.off v) elem frozen
  |o=>o
def xr (H:aa)(a:hY)(n:Nat):aa:=
 if n=0 then H else
 H.modify a.block λ
  |.cells c elem (lo,hi)=>.cells c elem (if lo==hi then (a.off,a.off+n) else (min lo a.off,max hi (a.off+n)))
  |o=>o
def jJ:gp->Bool
 |.agg _=>false
 |.tuple _=>false
 |_=>true
def Ao:Obj->Bool
 |.cells ..=>false
 |_=>true
def wpS {α:Type}(P:hQ):ik α->aa->(α->aa->Prop)->Prop
 |.pure a,H,K=>K a H
 |.load _ a k,H,K=>∃v,dh H a=some v/\wpS P (k v) H K
 |.store _ a v k,H,K=>jJ v=true/\(∃u,dh H a=some u)/\qe H a=false/\wpS P k (xR H a v) K
 |.new o k,H,K=>wpS P (k H.size) (H.push o) K
 |.shape r k,H,K=>wpS P (k (MU H r)) H K
 |.freeze a n k,H,K=>wpS P k (xr H a n) K
 |.frozen a k,H,K=>wpS P (k (qe H a)) H K
 |.getObj r k,H,K=>∃o,H[r]?=some o/\Ao o=true/\wpS P (k o) H K
 |.setObj r o k,H,K=>(∃u,H[r]?=some u/\Ao u=true)/\wpS P k (H.setIfInBounds r o) K
 |.choose q k,H,K=>if q.forced then wpS P (k 0) H K else ∀t,wpS P (k (q.cut t)) H K
 |.sys _ _,_,_=>False
 |.program k,H,K=>wpS P (k P) H K
 |.mark _ k,H,K=>wpS P k H K
 |.halt _,_,_=>False
structure Alike (w w':gb):Prop where
 rest:w'={w with heap:=w'.heap,drawn:=w'.drawn}
 drawn:w.drawn<=w'.drawn
theorem Alike.of_le {w w':gb}(h:w'={w with heap:=w'.heap,drawn:=w'.drawn})(d:w.drawn<=w'.drawn):Alike w w':=⟨h,d⟩
theorem Alike.refl (w:gb):Alike w w:=.of_le rfl (QN _)
theorem Alike.trans {a b c:gb}(h:Alike a b)(k:Alike b c):Alike a c:=⟨by
 have h1:=h.rest;have d:=k.rest;rw[h1] at d;exact d,QZ h.drawn k.drawn⟩
theorem Alike.os {w w':gb}(h:Alike w w'):w'.os=w.os:=by rw[h.rest]
theorem Alike.output {w w':gb}(h:Alike w w'):w'.output=w.output:=by rw[h.rest]
theorem im {α β:Type}{P:hQ}(s:ik α)(f:α->ik β):∀{H:aa} {K:β->aa->Prop},wpS P s H (λa H'=>wpS P (f a) H' K)->wpS P (s >>= f) H K:=by
 show ∀{H:aa} {K:β->aa->Prop},wpS P s H (λa H'=>wpS P (f a) H' K)->wpS P (s.bind f) H K
 induction s with
 |pure a=>intro H K b;exact b
 |load m a k d=>intro H K ⟨v,h1,e⟩;exact⟨v,h1,d v e⟩
 |store m a v k d=>intro H K ⟨h1,e,g,i⟩;exact⟨h1,e,g,d i⟩
 |new o k d=>intro H K b;exact d _ b
 |shape r k d=>intro H K b;exact d _ b
 |freeze a n k d=>intro H K b;exact d b
 |frozen a k d=>intro H K b;exact d _ b
 |getObj r k d=>intro H K ⟨o,h1,e,g⟩;exact⟨o,h1,e,d o g⟩
 |setObj r o k d=>intro H K ⟨h1,e⟩;exact⟨h1,d e⟩
 |choose q k d=>
   intro H K b;simp only[wpS,Sem.bind] at b ⊢;split
   ·rename_i h;rw[if_pos h] at b;exact d _ b
   ·rename_i h;rw[if_neg h] at b;exact λt=>d _ (b t)
 |sys c k d=>intro H K b;exact b
 |program k d=>intro H K b;exact d _ b
 |mark m k d=>intro H K b;exact d b
 |halt x=>intro H K b;exact b
theorem KU {α:Type}{P:hQ}(s:ik α):∀{w:gb} {K:α->aa->Prop},wpS P s w.heap K->∃v w',s.run P w=.ok v w'/\K v w'.heap/\Alike w w':=by
 induction s with
 |pure a=>intro w K h;exact⟨a,w,rfl,h,.refl w⟩
 |load m a k b=>
   intro w K ⟨v,h1,g⟩;obtain⟨u,w',d,r2,f⟩:=b v g;have l:w.cell? a=some v:=h1;exact⟨u,w',by simp only[Sn,l];exact d,r2,f⟩
 |store m a v k b=>
   intro w K ⟨h1,⟨u,g⟩,i,p⟩;obtain⟨x,w',d,r2,f⟩:=b (w:=w.setCell a v) p;have l:w.cell? a=some u:=g;have t:w.frozen? a=false:=i;refine⟨x,w',?_,r2,(Alike.of_le rfl (QN _):Alike w (w.setCell a v)).trans f⟩;cases v<;>first|exact Wd h1|(simp only[Sn,l,t];exact d)
 |new o k b=>
   intro w K h;obtain⟨x,w',d,r2,f⟩:=b w.heap.size (w:={w with heap:=w.heap.push o}) h;exact⟨x,w',d,r2,(Alike.of_le rfl (QN _):Alike w {w with heap:=w.heap.push o}).trans f⟩
 |shape r k b=>
   intro w K h;obtain⟨x,w',d,r2,f⟩:=b _ h;exact⟨x,w',d,r2,f⟩
 |freeze a n k b=>
   intro w K h;have e:(w.freeze a n).heap=xr w.heap a n:=by unfold Zj xr;split<;>rfl
   obtain⟨x,w',d,r2,f⟩:=b (w:=w.freeze a n) (by rw[e];exact h);have y:Alike w (w.freeze a n):=by unfold Zj;split<;>exact .of_le rfl (QN _)
   exact⟨x,w',d,r2,y.trans f⟩
 |frozen a k b=>
   intro w K h;obtain⟨x,w',d,r2,f⟩:=b _ h;exact⟨x,w',d,r2,f⟩
 |getObj r k b=>
   intro w K ⟨o,h1,g,i⟩;obtain⟨x,w',d,r2,f⟩:=b o i;refine⟨x,w',?_,r2,f⟩;simp only[Sn,h1];cases o<;>first|exact Wd g|exact d
 |setObj r o k b=>
   intro w K ⟨⟨u,h1,g⟩,i⟩;obtain⟨x,w',d,r2,f⟩:=b (w:={w with heap:=w.heap.setIfInBounds r o}) i;refine⟨x,w',?_,r2,(Alike.of_le rfl (QN _):Alike w {w with heap:=w.heap.setIfInBounds r o}).trans f⟩;simp only[Sn,h1];cases u<;>first|exact Wd g|exact d
 |choose q k b=>
   intro w K h;simp only[wpS] at h;by_cases j:q.forced=true
   ·rw[if_pos j] at h;obtain⟨x,w',d,r2,f⟩:=b _ h;exact⟨x,w',by simp only[Sn,if_pos j];exact d,r2,f⟩
   ·rw[if_neg j] at h;obtain⟨x,w',d,r2,f⟩:=b _ (w:={w with drawn:=w.drawn+1}) (h (w.tape w.drawn q));exact⟨x,w',by simp only[Sn,if_neg j];exact d,r2,(Alike.of_le rfl (RB _):Alike w {w with drawn:=w.drawn+1}).trans f⟩
 |sys c k b=>intro w K h;exact h.elim
 |program k b=>
   intro w K h;obtain⟨x,w',d,r2,f⟩:=b P h;exact⟨x,w',d,r2,f⟩
 |mark m k b=>
   intro w K h;obtain⟨x,w',d,r2,f⟩:=b h;exact⟨x,w',d,r2,f⟩
 |halt x=>intro w K h;exact h.elim
def AH:ka->Bool
 |.const _=>true
 |_=>false
def ju (P:hQ):Op->Nat
 |.move _=>0|.assign _=>0|.pick ..=>0|.unOp ..=>0|.nilCheck _=>0
 |.build ..=>0|.field ..=>0|.fieldAddr ..=>0|.indexAddr ..=>0|.index ..=>0|.slice ..=>0|.extract ..=>0
 |.makeFunc ..=>0|.makeInterface ..=>0|.sliceToArrayPointer ..=>0
 |.binOp _ t x y _=>
   match P.underlying t with
   |some (.int _)=>0|some .string=>0|some .bool=>0
   |_=>if AH x||AH y then 0 else 1
 |.convert src dst _=>
   match P.underlying src,P.underlying dst with
   |some (.int _),some (.int _)=>0
   |some .string,some .string=>0
   |some (.slice _),some (.slice _)=>2
   |some (.slice _),_=>1
   |_,_=>2
 |.load ..=>1|.lookup ..=>1
 |.call {callee:=.builtin .len,..}=>1
 |.call {callee:=.builtin .cap,..}=>0
 |.call {callee:=.builtin .min,..}=>0
 |.call {callee:=.builtin .max,..}=>0
 |_=>2
def O6 (M:Option (aa->Prop))(H H':aa):Prop:=match M with|none=>H'=H|some G=>G H'
def jn (M:Option (aa->Prop))(H':aa):Prop:=match M with|none=>True|some G=>G H'
def qv (P:hQ)(r:l0 km)(K:gp->gb->Prop):Prop:=
 match r with
 |.ok (.value v) w'=>K v w'
 |.ok .skip w'=>K undef w'
 |.ok (.enter f args) w'=>Calls P f args w' λe a=>∃v,e=.returned v/\K v a
 |.ok (.row row args) w'=>Rows P row args w' K
 |.ok (.round l f tmps assign body) w'=>RoundIn WG 0 P l f tmps assign body w' λe a=>∃v,e=.returned v/\K v a
 |_=>False
def FW (r:Option Nat):Fence:={WG with round:=r}
def gk (P:hQ)(M:Option (aa->Prop))(c:Nat)(r:gb->l0 km)(K:gp->gb->Prop)(w:gb):Prop:=
 match c with
 |0=>∃v,(∀w',r w'=.ok (.value v) w')/\K v w
 |1=>∃v,(∀w',O6 M w.heap w'.heap->r w'=.ok (.value v) w')/\K v w
 |_=>qv P (r w) λv w'=>jn M w'.heap/\K v w'
def NN (L:List Nat)(o:hV):Bool:=match o.dst with|some d=>L.any (Rh d)|none=>false
def dL (P:hQ)(L:List Nat)(o:hV):Nat:=bif Rh (ju P o.op) 1&&NN L o then 2 else ju P o.op
def fW (P:hQ)(M:Option (aa->Prop))(L:List Nat)(ops:Array hV)(o:hV)(K:gx->gb->Prop)(a:gx)(w:gb):Prop:=
 if Sv o (yielded ops a.tmps)=true then gk P M (dL P L o) (λw=>(execOp a.eval o).run P w) (λv w'=>K (a.put o.dst v) w') w
 else K (a.put o.dst undef) w
theorem gK {i k:Nat}:SF i k=true↔i<k:=by simp[SF,Nat.lt_iff_add_one_le]
theorem zo {i k:Nat}(h:¬i<k):SF i k=false:=by
 cases a:SF i k with
 |false=>rfl
 |true=>exact absurd (gK.1 a) h
def qt (M:Option (aa->Prop))(k i:Nat):Option (aa->Prop):=bif SF i k then M else none
def ca (P:hQ)(M:Option (aa->Prop))(k:Nat)(L:List Nat)(ops:Array hV)(i:Nat)(K:gx->gb->Prop)(a:gx)(w:gb):Prop:=
 match ops[i]? with
 |none=>K a w
 |some o=>fW P (qt M k i) L ops o K a w
def fG (P:hQ)(M:Option (aa->Prop))(k:Nat)(L:List Nat)(ops:Array hV)(K:gx->gb->Prop):List Nat->gx->gb->Prop
 |[]=>K
 |i::l=>ca P M k L ops i (fG P M k L ops K l)
def gT (P:hQ)(M:Option (aa->Prop))(L:List Nat)(ops:Array hV)(K:gx->gb->Prop):List hV->gx->gb->Prop
 |[]=>K
 |o::l=>fW P M L ops o (gT P M L ops K l)
section
variable {P:hQ}{M:Option (aa->Prop)}{L:List Nat}{ops:Array hV}{Q:kl->gx->gb->Prop}
theorem iv {r:l0 km}{K K':gp->gb->Prop}(h:∀v w,K v w->K' v w)(a:qv P r K):qv P r K':=by
 unfold qv at*;cases r with
 |ok n w'=>
   cases n<;>simp only at a ⊢
   case value v=>exact h _ _ a
   case skip=>exact h _ _ a
   case enter f args=>exact ZQ a λe b ⟨v,he,hk⟩=>⟨v,he,h _ _ hk⟩
   case row row args=>exact Rows.mono a λv b hk=>h _ _ hk
   case round l f tmps assign body=>exact Zk a λe b ⟨v,he,hk⟩=>⟨v,he,h _ _ hk⟩
 |halt x w'=>exact a
theorem wo {r:l0 km}{C:Prop}(a:qv P r (λ_ _=>C)):C:=by
 unfold qv at a;cases r with
 |ok n w'=>
   cases n<;>simp only at a
   case value v=>exact a
   case skip=>exact a
   case enter f args=>
    obtain⟨e,w',fr,⟨v,_,hk⟩,_⟩:=a [];exact hk
   case row row args=>
    obtain⟨v,w',hk,_⟩:=a default [];exact hk
   case round l f tmps assign body=>
    obtain⟨e,w',⟨v,_,hk⟩,_⟩:=a.2 default [] (room_wide _);exact hk
 |halt x w'=>exact a.elim
theorem ij {c:Nat}{r:gb->l0 km}{K K':gp->gb->Prop}{w:gb}(h:∀v w,K v w->K' v w)(b:gk P M c r K w):gk P M c r K' w:=
 match c,b with
 |0,⟨v,h1,a⟩=>⟨v,h1,h _ _ a⟩
 |1,⟨v,h1,a⟩=>⟨v,h1,h _ _ a⟩
 |_+2,b=>iv (λv w ⟨h1,a⟩=>⟨h1,h v w a⟩) b
theorem yZ {c:Nat}{M':Option (aa->Prop)}{r:gb->l0 km}{K:gp->gb->Prop}{w:gb}(d:jn M w.heap)(f:c=0\/c=1\/M'=M)(b:gk P M' c r K w):gk P M' c r (λv w'=>jn M w'.heap/\K v w') w:=
 match c,b with
 |0,⟨v,h1,a⟩=>⟨v,h1,d,a⟩
 |1,⟨v,h1,a⟩=>⟨v,h1,d,a⟩
 |n+2,b=>by
   have e:M'=M:=by
    rcases f with h|h|h
    ·omega
    ·omega
    ·exact h
   subst e;exact iv (λv w ⟨h1,a⟩=>⟨h1,h1,a⟩) b
theorem yf {c:Nat}{r:gb->l0 km}{C:Prop}{w:gb}(b:gk P M c r (λ_ _=>C) w):C:=
 match c,b with
 |0,⟨_,_,a⟩=>a
 |1,⟨_,_,a⟩=>a
 |_+2,b=>wo (iv (K':=λ_ _=>C) (λ_ _ ⟨_,a⟩=>a) b)
theorem zn {M':Option (aa->Prop)}{c d:Nat}{r s:gb->l0 km}{K:gp->gp->gb->Prop}{w:gb}
  (k:c=0\/d=0\/(c=1/\d=1)\/(M'=M/\M.isSome=true/\(c=1\/d=1)))
  (h:gk P M c r (λv w'=>gk P M' d s (λu b=>K v u b) w') w):gk P M' d s (λu w'=>gk P M c r (λv b=>K v u b) w') w:=by
 rcases k with rfl|rfl|⟨rfl,rfl⟩|⟨rfl,j,rfl|rfl⟩
 ·obtain⟨v,h1,a⟩:=h;exact ij (λu w' hk=>⟨v,h1,hk⟩) a
 ·have g:∃u,∀w',s w'=.ok (.value u) w':=yf (ij (K':=λ_ _=>∃u,∀w',s w'=.ok (.value u) w') (λv w' ⟨u,h1,_⟩=>⟨u,h1⟩) h);obtain⟨u,hu⟩:=g;refine⟨u,hu,ij (λv w' ⟨l,h1,a⟩=>?_) h⟩;have e:=(hu w').symm.trans (h1 w');simp only[YD,Yx,and_true] at e;rw[e];exact a
 ·obtain⟨v,h1,u,a,f⟩:=h;exact⟨u,a,v,h1,f⟩
 ·cases M' with
  |none=>cases j
  |some G=>
    obtain⟨v,h1,a⟩:=h;exact ij (λu w' hk=>⟨v,h1,hk⟩) a
 ·cases M' with
  |none=>cases j
  |some G=>
    match c,h with
    |0,⟨v,h1,u,a,f⟩=>exact⟨u,a,v,h1,f⟩
    |1,⟨v,h1,u,a,f⟩=>exact⟨u,a,v,h1,f⟩
    |c+2,h=>
      have g:∃u,∀w',G w'.heap->s w'=.ok (.value u) w':=wo (iv (K':=λ_ _=>∃u,∀w',G w'.heap->s w'=.ok (.value u) w') (λv w' ⟨_,u,h1,_⟩=>⟨u,h1⟩) h);obtain⟨u,hu⟩:=g;refine⟨u,hu,iv (λv w' ⟨i,l,h1,a⟩=>⟨i,?_⟩) h⟩;have e:=(hu w' i).symm.trans (h1 w' i);simp only[YD,Yx,and_true] at e;rw[e];exact a
theorem tU {w:gb}(a:jn M w.heap):O6 M w.heap w.heap:=by
 cases M with
 |none=>rfl
 |some G=>exact a
theorem yw {row:String}{args:Array gp}{w:gb}{R:gp->gb->Prop}{r:Option Nat}(h:Rows P row args w R):RowsIn (FW r) 0 P row args w R:=
 λc cs _=>let ⟨v,w',h1,a⟩:=h c cs;⟨v,w',h1,(StepsIn.of_steps a).mono λm _=>fenced_wide P m⟩
theorem qz {o:hV}{a:gx}{w:gb}{K:gx->gb->Prop}{rn:Option Nat}(g:qv P ((execOp a.eval o).run P w) (λv w'=>K (a.put o.dst v) w')):o.wpIn (FW rn) 0 P a w K Q:=by
 refine⟨λ_ _=>trivial,?_⟩;have he:o.semAt (FW rn).round a.eval=execOp a.eval o:=by
  refine Oper.semAt_eq _ _ _ λc i=>?_;unfold qv at g;simp only[execOp,i,Rk] at g;generalize (resolve a.eval c o.type).run P w=r at g;cases r with
  |ok d w'=>exact g
  |halt x w'=>exact g
 rw[he];unfold qv at g;generalize (execOp a.eval o).run P w=r at*;have hd:(FW rn).depth.isSome=true->1<=0:=λh=>by cases h
 cases r with
 |ok n w'=>
   cases n<;>simp only at g<;>simp only[Oper.uponIn]
   case value v=>exact g
   case skip=>exact g
   case enter f args=>
    refine⟨hd,?_⟩;have h1:Calls P f args w' λ
      |.returned v,b=>K (a.put o.dst v) b
      |.panicked chain,b=>Q (.panic chain) a b
      |.outgrown,_=>LetsOut Q:=ZQ g λe b ⟨v,he,hk⟩=>by subst he;exact hk
    exact callsIn_wide.2 h1
   case row row args=>exact⟨hd,yw g⟩
   case round l f tmps assign body=>
    refine⟨hd,?_⟩;have h1:RoundIn WG 0 P l f tmps assign body w' λ
      |.returned v,b=>K (a.put o.dst v) b
      |.panicked chain,b=>Q (.panic chain) a b
      |.outgrown,_=>LetsOut Q:=Zk g λe b ⟨v,he,hk⟩=>by subst he;exact hk
    exact h1
 |halt x w'=>exact g.elim
theorem xY {c:Nat}{o:hV}{a:gx}{w:gb}{K:gx->gb->Prop}{rn:Option Nat}(e:c=1->jn M w.heap)
  (f:gk P M c (λw=>(execOp a.eval o).run P w) (λv w'=>K (a.put o.dst v) w') w):o.wpIn (FW rn) 0 P a w K Q:=by
 match c,e,f with
 |0,_,⟨v,h1,b⟩=>have d:=h1 w;dsimp only at d;exact qz (by rw[d];exact b)
 |1,e,⟨v,h1,b⟩=>have d:=h1 w (tU (e rfl));dsimp only at d;exact qz (by rw[d];exact b)
 |_+2,_,f=>exact qz (iv (λv w' ⟨_,b⟩=>b) f)
theorem vP {o:hV}{a:gx}{w:gb}{K K':gx->gb->Prop}(h:∀a w,K a w->K' a w)(b:fW P M L ops o K a w):fW P M L ops o K' a w:=by
 unfold fW at*;split
 ·rename_i hw;rw[if_pos hw] at b;exact ij (λv w hk=>h _ _ hk) b
 ·rename_i hw;rw[if_neg hw] at b;exact h _ _ b
theorem qL {M':Option (aa->Prop)}{o:hV}{a:gx}{w:gb}{K:gx->gb->Prop}(c:jn M w.heap)(d:dL P L o=0\/dL P L o=1\/M'=M)(b:fW P M' L ops o K a w):fW P M' L ops o (λa w=>jn M w.heap/\K a w) a w:=by
 unfold fW at*;split
 ·rename_i hw;rw[if_pos hw] at b;exact yZ c d b
 ·rename_i hw;rw[if_neg hw] at b;exact⟨c,b⟩
theorem dx {k i:Nat}{a:gx}{w:gb}{K K':gx->gb->Prop}(h:∀a w,K a w->K' a w)(b:ca P M k L ops i K a w):ca P M k L ops i K' a w:=by
 unfold ca at*;split
 ·rename_i c;rw[c] at b;exact h _ _ b
 ·rename_i o c;rw[c] at b;exact vP h b
theorem Dr {o:hV}{a:gx}{w:gb}{K:gx->gb->Prop}{rn:Option Nat}(c:dL P L o=1->jn M w.heap)(b:fW P M L ops o K a w):
  if Sv o (yielded ops a.tmps)=true then o.wpIn (FW rn) 0 P a w K Q else ((∀f,o.about P w a.eval=some f->(FW rn).fn f)/\K (a.put o.dst undef) w):=by
 unfold fW at b;split
 ·rename_i hw;rw[if_pos hw] at b;exact xY c b
 ·rename_i hw;rw[if_neg hw] at b;exact⟨λ_ _=>trivial,b⟩
theorem kF {k i:Nat}{a:gx}{w:gb}{K:gx->gb->Prop}{rn:Option Nat}(d:∀o,ops[i]?=some o->i<k->dL P L o=1->jn M w.heap)(b:ca P M k L ops i K a w):wpOpIn (FW rn) 0 P ops Q i K a w:=by
 unfold ca at b;unfold wpOpIn;split
 ·rename_i c;rw[c] at b;exact b
 ·rename_i o c;rw[c] at b;refine Dr (M:=qt M k i) (λe=>?_) b;unfold qt;cases hk:SF i k with
  |true=>exact d o c (gK.1 hk) e
  |false=>exact trivial
theorem jT {rn:Option Nat}{K:gx->gb->Prop}(c:∀a w,K a w->Q .normal a w):∀(l:List hV) (a:gx) (w:gb),gT P none L ops K l a w->wpListIn (FW rn) 0 P ops Q l a w
 |[],a,w,h=>c _ _ h
 |o::l,a,w,h=>by
   have h1:fW P none L ops o (wpListIn (FW rn) 0 P ops Q l) a w:=vP (λa w hk=>jT c l a w hk) h;have b:=Dr (M:=none) (Q:=Q) (rn:=rn) (λ_=>trivial) h1;unfold wpListIn;split
   ·rename_i hw;rw[if_pos hw] at b;exact b
   ·rename_i hw;rw[if_neg hw] at b;exact b
def c7 (P:hQ)(L:List Nat)(m:Bool)(ops:Array hV)(x y:hV):Bool:=
 ZR ops x y&&(dL P L x==0||dL P L y==0||(dL P L x==1&&dL P L y==1)||(m&&(dL P L x==1||dL P L y==1)))&&
 (match x.op with|.select ..=>false|_=>true)&&(match y.op with|.select ..=>false|_=>true)
theorem oO {m:Bool}{x y:hV}(h:c7 P L m ops x y=true):ZR ops x y=true/\
  (dL P L x=0\/dL P L y=0\/(dL P L x=1/\dL P L y=1)\/(m=true/\(dL P L x=1\/dL P L y=1)))/\
  (∀cs b,x.op≠.select cs b)/\(∀cs b,y.op≠.select cs b):=by
 unfold c7 at h;simp only[QY,Sc,beq_iff_eq] at h;obtain⟨⟨⟨h1,a⟩,c⟩,d⟩:=h;refine⟨h1,?_,?_,?_⟩
 ·rcases a with ((a|a)|a)|a
  ·exact .inl a
  ·exact .inr (.inl a)
  ·exact .inr (.inr (.inl a))
  ·exact .inr (.inr (.inr a))
 ·intro cs b e;rw[e] at c;cases c
 ·intro cs b e;rw[e] at d;cases d
theorem qN {M':Option (aa->Prop)}{m:Bool}{x y:hV}(j:c7 P L m ops x y=true)(hm:m=true->M'=M/\M.isSome=true){K:gx->gb->Prop}{a:gx}{w:gb}
  (h:fW P M L ops x (fW P M' L ops y K) a w):fW P M' L ops y (fW P M L ops x K) a w:=by
 obtain⟨e,b,f,g⟩:=oO j;have b:dL P L x=0\/dL P L y=0\/(dL P L x=1/\dL P L y=1)\/(M'=M/\M.isSome=true/\(dL P L x=1\/dL P L y=1)):=by
  rcases b with h|h|h|⟨h,k⟩
  ·exact .inl h
  ·exact .inr (.inl h)
  ·exact .inr (.inr (.inl h))
  ·exact .inr (.inr (.inr ⟨(hm h).1,(hm h).2,k⟩))
 obtain⟨i,a2,a3⟩:=Oper.apart_spec e;have l:∀v,Sv y (yielded ops (a.put x.dst v).tmps)=Sv y (yielded ops a.tmps):=λv=>wanted_put y a x.dst v i;have n:∀v,Sv x (yielded ops (a.put y.dst v).tmps)=Sv x (yielded ops a.tmps):=λv=>wanted_put x a y.dst v a3;have o:∀v,execOp (a.put x.dst v).eval y=execOp a.eval y:=λv=>execOp_put (ops:=ops) y g a x.dst v i;have ex:∀v,execOp (a.put y.dst v).eval x=execOp a.eval x:=λv=>execOp_put (ops:=ops) x f a y.dst v a3;have p:∀v u,(a.put x.dst v).put y.dst u=(a.put y.dst u).put x.dst v:=λv u=>Act.put_comm a v u a2;unfold fW at h ⊢;simp only[l,n,o,ex,p] at h ⊢;by_cases d:Sv x (yielded ops a.tmps)=true
 ·by_cases c:Sv y (yielded ops a.tmps)=true
  ·simp only[if_pos d,if_pos c] at h ⊢;exact zn b h
  ·simp only[if_pos d,if_neg c] at h ⊢;exact h
 ·by_cases c:Sv y (yielded ops a.tmps)=true
  ·simp only[if_neg d,if_pos c] at h ⊢;exact h
  ·simp only[if_neg d,if_neg c] at h ⊢;exact h
def aT (ops:Array hV)(listed:Array Bool):List Nat:=(RI ops.size).filter λi=>!listed.getD i true
def qo (acc:List Nat):List Edge->Nat
 |[]=>0
 |e::r=>bif Sq .any e then (qo acc r|||2^e.on)|||acc.getD e.on 0 else qo acc r
def dF:List hV->List Nat->List Nat
 |[],acc=>acc
 |o::l,acc=>dF l (acc++[qo acc o.after.toList])
theorem oU {acc:List Nat}{i:Nat}:∀{l:List Edge},(qo acc l).testBit i=true->∃e∈l,Sq .any e=true/\(e.on=i\/(acc.getD e.on 0).testBit i=true)
 |[],h=>by simp[qo] at h
 |e::r,h=>by
   unfold qo at h;cases a:Sq .any e with
   |false=>
     rw[a] at h;obtain⟨b,h1,c⟩:=oU (l:=r) (by simpa using h);exact⟨b,Q8 _ h1,c⟩
   |true=>
     rw[a] at h;simp only[cond_true,Nat.testBit_or,Sc] at h;rcases h with (h|h)|h
     ·obtain⟨b,h1,c⟩:=oU h;exact⟨b,Q8 _ h1,c⟩
     ·exact⟨e,Q9,a,.inl (by simpa[Nat.testBit_two_pow] using h)⟩
     ·exact⟨e,Q9,a,.inr h⟩
theorem mL:∀(l:List hV) (acc:List Nat) (j:Nat),j<acc.length->(dF l acc).getD j 0=acc.getD j 0
 |[],_,_,_=>rfl
 |o::l,acc,j,h=>by
   unfold dF;rw[mL l _ j (by simp;omega)];simp[RY,Rf h]
theorem CG:∀(l:List hV) (acc:List Nat) (k:Nat) (o:hV),l[k]?=some o->∃a,(dF l acc).getD (acc.length+k) 0=qo a o.after.toList/\∀i,i<acc.length+k->a.getD i 0=(dF l acc).getD i 0
 |[],_,_,_,h=>by simp at h
 |o::l,acc,0,b,h=>by
   have e:o=b:=by simpa using h
   subst e;refine⟨acc,?_,λi hi=>?_⟩
   ·unfold dF;rw[mL l _ _ (by simp)];simp[RY]
   ·unfold dF;rw[mL l _ _ (by simp at hi ⊢;omega)];simp[RY,Rf (show i<acc.length by omega)]
 |o::l,acc,k+1,b,h=>by
   obtain⟨a,h1,c⟩:=CG l (acc++[qo acc o.after.toList]) k b (by simpa using h);have e:(acc++[qo acc o.after.toList]).length+k=acc.length+(k+1):=by simp;omega
   rw[e] at h1 c;exact⟨a,by unfold dF;exact h1,λi hi=>by unfold dF;exact c i hi⟩
def waits (B:List Nat)(j i:Nat):Bool:=(B.getD j 0).testBit i
def lh (P:hQ)(L:List Nat)(k:Nat)(ops:Array hV)(B:List Nat):Bool:=
 (RI ops.size).all λj=>match ops[j]? with
  |some oj=>(oj.after.all λe=>!Sq .any e||decide (e.on<j))&&
    (RI j).all λi=>match ops[i]? with
     |some oi=>c7 P L (SF j k) ops oi oj||waits B j i
     |none=>false
  |none=>false
def dO (P:hQ)(L:List Nat)(k:Nat)(ops:Array hV):Bool:=lh P L k ops (dF ops.toList [])
def ordered (B:List Nat)(i j:Nat):Bool:=waits B j i||waits B i j
def Nx (P:hQ):List hV->Nat->List Nat
 |[],_=>[]
 |o::r,k=>bif VD 2 (ju P o.op) then k::Nx P r (k+1) else Nx P r (k+1)
def tg (P:hQ)(B E:List Nat):List hV->Nat->List Nat->List Nat
 |[],_,_=>[]
 |o::r,k,acc=>(match o.dst with
   |some d=>bif Rh (ju P o.op) 1&&(E.all (ordered B k)&&acc.all (ordered B k)) then d::tg P B E r (k+1) (k::acc) else tg P B E r (k+1) acc
   |none=>tg P B E r (k+1) acc)
def rP (P:hQ)(ops:Array hV):List Nat:=tg P (dF ops.toList []) (Nx P ops.toList 0) ops.toList 0 []
def HK (f:Nat->Bool):Nat->Nat->Nat
 |_,0=>0
 |k,n+1=>bif f k then k else HK f (k+1) n
def xg (P:hQ)(L:List Nat)(ops:Array hV):Nat:=let B:=dF ops.toList [];HK (λk=>lh P L k ops B) 0 (ops.size+1)
theorem pY {k:Nat}(h:dO P L k ops=true){j:Nat}{oj:hV}(b:ops[j]?=some oj){e:Edge}(he:e∈oj.after)(c:Sq .any e=true):e.on<j:=by
 unfold dO lh at h;have a:j<ops.size:=(QR.1 b).1;have:=R6.1 h j (Rs.2 a);rw[b] at this;simp only[QY] at this;have d:=WK.1 this.1 e he;simpa[c] using d
theorem mZ {k:Nat}(h:dO P L k ops=true){i j:Nat}{oi oj:hV}(hi:ops[i]?=some oi)(c:ops[j]?=some oj)(a:i<j):c7 P L (SF j k) ops oi oj=true\/waits (dF ops.toList []) j i=true:=by
 unfold dO lh at h;have b:j<ops.size:=(QR.1 c).1;have:=R6.1 h j (Rs.2 b);rw[c] at this;simp only[QY] at this;have d:=R6.1 this.2 i (Rs.2 a);rw[hi] at d;simpa[Sc] using d
def rz (ops:Array hV)(listed:Array Bool):Prop:=
 ∀j oj,ops[j]?=some oj->listed.getD j false=true->∀e∈oj.after,Sq .any e=true->listed.getD e.on false=true
theorem kX {listed:Array Bool}(o:rz ops listed)(g:∀j oj,ops[j]?=some oj->∀e∈oj.after,Sq .any e=true->e.on<j):∀(j i:Nat) (oj:hV),ops[j]?=some oj->
  (∀e∈oj.after,Sq .any e=true->listed.getD e.on false=true)->waits (dF ops.toList []) j i=true->listed.getD i false=true:=by
 intro j
 induction j using X9 with
 |_ j p=>
   intro i oj k b h;unfold waits at h;obtain⟨l,h1,m⟩:=CG ops.toList [] j oj (by simpa using k);simp only[List.length_nil,R3] at h1 m;rw[h1] at h;obtain⟨e,he,n,a⟩:=oU h;have c:e∈oj.after:=by simpa using he
   have hl:=b e c n;have d:=g j oj k e c n;rcases a with a|a
   ·rw[<-a];exact hl
   ·rw[m _ d] at a;have q:j<ops.size:=(QR.1 k).1;have f:ops[e.on]?=some (ops[e.on]'(by omega)):=Rn (by omega);exact p e.on d i _ f (o e.on _ f hl) a
theorem tX {K:gx->gb->Prop}{k j:Nat}(d:∀i,i<k->M.isSome=true):∀(b c:List Nat),(∀i∈b,i<j/\∃oi oj,ops[i]?=some oi/\ops[j]?=some oj/\c7 P L (SF j k) ops oi oj=true)->
  ∀a w,fG P M k L ops K (b++j::c) a w->ca P M k L ops j (fG P M k L ops K (b++c)) a w
 |[],c,_,a,w,h=>h
 |i::b,c,m,a,w,h=>by
   have h1:ca P M k L ops i (ca P M k L ops j (fG P M k L ops K (b++c))) a w:=dx (tX d b c (λk hk=>m k (Q8 _ hk))) h;obtain⟨p,oi,oj,hi,q,f⟩:=m i Q9;have e:∀K',ca P M k L ops i K'=fW P (qt M k i) L ops oi K':=λK'=>by funext a w;simp only[ca,hi]
   have n:∀K',ca P M k L ops j K'=fW P (qt M k j) L ops oj K':=λK'=>by funext a w;simp only[ca,q]
   rw[e,n] at h1;have r:=qN f (λo=>by
    have g:j<k:=gK.1 o;have l:SF i k=true:=gK.2 (by omega);unfold qt;rw[o,l];exact⟨rfl,d j g⟩) h1
   simp only[TU,fG];rw[e,n];exact r
theorem iN (p:Nat->Bool)(j:Nat)(c:p j=true):∀(n:Nat),j<n->∃a b,(RI n).filter p=a++j::b/\(∀i∈a,i<j/\p i=true)/\
  (RI n).filter (λi=>p i&&decide (i≠j))=a++b
 |0,h=>by omega
 |n+1,h=>by
   rw[List.range_succ,Sh,Sh];by_cases d:j=n
   ·subst d;refine⟨(RI j).filter p,[],by simp[c],?_,?_⟩
    ·intro i hi;rw[Rp,Rs] at hi;exact hi
    ·simp only[ne_eq,Tl];rw[show List.filter (λi=>p i&&decide (¬i=j)) [j]=[] from by simp,Tl];exact Sx λi hi=>by
      have:i≠j:=by have:=Rs.1 hi;omega
      simp[this]
   ·obtain⟨a,b,h1,f,g⟩:=iN p j c n (by omega);refine⟨a,b++[n].filter p,by rw[h1];simp,f,?_⟩;rw[g,List.append_assoc];congr 2;have:n≠j:=λe=>d e.symm;simp[S0,this]
def Ng (P:hQ)(L:List Nat)(k:Nat)(ops:Array hV)(listed:Array Bool):Prop:=∃i o,ops[i]?=some o/\listed.getD i true=false/\i<k/\dL P L o=1
theorem FQ {rn:Option Nat}{k:Nat}(Z:∀i,i<k->M.isSome=true)(U:dO P L k ops=true):∀(fuel:Nat) (listed:Array Bool) (a:gx) (w:gb),(Ng P L k ops listed->jn M w.heap)->listed.size=ops.size->rz ops listed->(aT ops listed).length=fuel->
  fG P M k L ops (λa w=>Q .normal a w) (aT ops listed) a w->wpAnyIn (FW rn) 0 P .any ops Q fuel listed a w:=by
 intro fuel
 induction fuel with
 |zero=>
   intro listed a w hG hs hc hl h;have V:aT ops listed=[]:=Vq.1 hl;refine⟨?_,by rw[V] at h;exact h⟩;rw[VE];intro j C;obtain⟨hu,o,B,_⟩:=mem_ready.1 C;have y:j<ops.size:=(QR.1 B).1;have:j∈aT ops listed:=Rp.2 ⟨Rs.2 y,by simp[hu]⟩;rw[V] at this;cases this
 |succ fuel ih=>
   intro listed a w hG hs hc hl h;refine⟨λV=>?_,λj C=>?_⟩
   ·-- the first that is not listed is ready
    exfalso;cases W:aT ops listed with
    |nil=>rw[W] at hl;simp at hl
    |cons m rest=>
      have hm:m∈aT ops listed:=by rw[W];exact Q9
      have D:∀i,i<m->listed.getD i false=true:=by
       intro i hi;obtain⟨z,E⟩:=Rp.1 hm;have t:=Rs.1 z;cases A:listed.getD i true with
       |true=>
         have:i<listed.size:=by omega
         simp[this] at A ⊢;exact A
       |false=>
         have F:i∈aT ops listed:=Rp.2 ⟨Rs.2 (by omega),by simp[A]⟩;rw[W] at F;have b:(aT ops listed).Pairwise (·<·):=WV _ WD;rw[W,R0] at b;rcases QX.1 F with e|e
         ·omega
         ·have:=b.1 i e;omega
      obtain⟨z,E⟩:=Rp.1 hm;have t:=Rs.1 z;have B:ops[m]?=some ops[m]:=Rn t;have:m∈Zl .any ops listed:=mem_ready.2 ⟨by simpa using E,_,B,λe he u=>D _ (pY U B he u)⟩;rw[V] at this;cases this
   ·obtain⟨hu,oj,f,v⟩:=mem_ready.1 C;have y:j<ops.size:=(QR.1 f).1;obtain⟨G,H,e1,e2,e3⟩:=iN (λi=>!listed.getD i true) j (by simp[hu]) ops.size y;have I:aT ops listed=G++j::H:=e1;have e4:aT ops (listed.setIfInBounds j true)=G++H:=by
     rw[<-e3];unfold aT;refine Sx λi hi=>?_;have af:i<listed.size:=by rw[hs];exact Rs.1 hi
     by_cases c:i=j
     ·subst c;simp[af]
     ·rw[getD_set_ne true (Sg c)];simp[c]
    have p:∀i,listed.getD i true=false->i<ops.size->waits (dF ops.toList []) j i=false:=by
     intro i r d;cases g:waits (dF ops.toList []) j i with
     |false=>rfl
     |true=>
       have l:=kX hc (λj oj C e he u=>pY U C he u) j i oj f v g;have:i<listed.size:=by omega
       simp[this] at r l;rw[r] at l;cases l
    rw[I] at h;have X:=tX Z G H (λi hi=>by
     obtain⟨c,r⟩:=e2 i hi;have d:i<ops.size:=by omega
     have n:ops[i]?=some ops[i]:=Rn d;refine⟨c,ops[i],oj,n,f,?_⟩;rcases mZ U n f c with g|g
     ·exact g
     ·rw[p i (by simpa using r) d] at g;cases g) a w h
    have J:∀o,ops[j]?=some o->j<k->dL P L o=1->jn M w.heap:=λo B hk al=>hG ⟨j,o,B,hu,hk,al⟩;have go:∀x w',(Ng P L k ops (listed.setIfInBounds j true)->jn M w'.heap)->fG P M k L ops (λa w=>Q .normal a w) (G++H) x w'->wpAnyIn (FW rn) 0 P .any ops Q fuel (listed.setIfInBounds j true) x w':=by
     intro x w' hg hk;refine ih (listed.setIfInBounds j true) x w' hg (by simp[hs]) ?_ ?_ (by rw[e4];exact hk)
     ·intro q ok hq K e he u;by_cases N:j=q
      ·subst N;have:ok=oj:=Rc (hq.symm.trans f);subst this;exact getD_set_true (v e he u)
      ·rw[getD_set_ne false N] at K;exact getD_set_true (hc q ok hq K e he u)
     ·rw[e4];rw[I] at hl;simp only[Ri,Rr] at hl ⊢;omega
    by_cases hp:Ng P L k ops (listed.setIfInBounds j true)
    ·obtain⟨i,oi,n,d,an,O⟩:=hp;have c:j≠i:=by
      intro e;subst e;have:j<listed.size:=by omega
      simp[this] at d
     rw[getD_set_ne true c] at d;have a1:jn M w.heap:=hG ⟨i,oi,n,d,an,O⟩;have R:i<ops.size:=(QR.1 n).1;have s:dL P L oj=0\/dL P L oj=1\/qt M k j=M:=by
      by_cases S:j<k
      ·right;right;have:SF j k=true:=gK.2 S;unfold qt;rw[this];rfl
      ·have T:i<j:=by omega
       have u:SF j k=false:=zo S;rcases mZ U n f T with g|g
       ·rw[u] at g;obtain⟨_,l,_,_⟩:=oO g;rcases l with l|l|⟨_,l⟩|⟨l,_⟩
        ·rw[O] at l;cases l
        ·exact .inl l
        ·exact .inr (.inl l)
        ·cases l
       ·rw[p i d R] at g;cases g
     have g:ca P M k L ops j (λa w=>jn M w.heap/\fG P M k L ops (λa w=>Q .normal a w) (G++H) a w) a w:=by
      unfold ca at X ⊢;rw[f] at X ⊢;exact qL a1 s X
     exact kF J (dx (λx w' Y=>go x w' (λ_=>Y.1) Y.2) g)
    ·exact kF J (dx (λx w' Y=>go x w' (λq=>absurd q hp) Y) X)
theorem jb {K:gx->gb->Prop}{k:Nat}{M':Option (aa->Prop)}:∀(l:List hV) (s:Nat),(∀j,j<l.length->l[j]?=ops[s+j]?)->(∀j,j<l.length->qt M k (s+j)=M')->fG P M k L ops K (Yf s l.length)=gT P M' L ops K l
 |[],s,_,_=>rfl
 |o::l,s,hl,hm=>by
   have c:ops[s]?=some o:=by simpa using (hl 0 (by simp)).symm
   have d:=jb (K:=K) (k:=k) (M':=M') l (s+1) (λj e=>by have:=hl (j+1) (by simp;omega);simpa[Nat.add_assoc,Nat.add_comm 1 j] using this) (λj e=>by have:=hm (j+1) (by simp;omega);rw[<-this];congr 1;omega);have b:qt M k s=M':=by simpa using hm 0 (by simp)
   funext a w;simp only[Rr,List.range'_succ,fG,gT,ca,c,d,b]
theorem rS {K:gx->gb->Prop}{k:Nat}:∀(b c:List Nat),fG P M k L ops K (b++c)=fG P M k L ops (fG P M k L ops K c) b
 |[],_=>rfl
 |i::b,c=>by
   funext a w;simp only[TU,fG];rw[rS b c]
theorem iW {rn:Option Nat}{id:Nat}{a:gx}{w:gb}{k:Nat}(hm:P.follows .mixedOrders=true)(d:∀i,i<k->M.isSome=true)(g:dO P L k ops=true)(l:jn M w.heap)
  (h:gT P M L ops (gT P none L ops (λa w=>Q .normal a w) (ops.toList.drop k)) (ops.toList.take k) a {w with drawn:=w.drawn+1}):(U7 id ops true).wpIn (FW rn) 0 P Q a w:=by
 have hu:aT ops (Tm ops.size false)=RI ops.size:=by
  unfold aT;rw[Su];intro i hi;have:=Rs.1 hi;simp[this]
 refine wpIn_region_any hm (FQ d g ops.size _ a _ (λ_=>l) (by simp) ?_ (by rw[hu];simp) ?_)
 ·intro j oj _ hl;have:∀j,(Tm ops.size false).getD j false=false:=λj=>by
   rcases RA j ops.size with h|h
   ·simp[h]
   ·simp[h]
  rw[this] at hl;cases hl
 ·rw[hu,List.range_eq_range'];have b:Yf 0 ops.size=Yf 0 (ops.toList.take k).length++Yf (ops.toList.take k).length (ops.toList.drop k).length:=by
   have h1:ops.size=(ops.toList.take k).length+(ops.toList.drop k).length:=by simp;omega
   rw[h1,<-List.range'_append_1];simp
  have t1:=jb (P:=P) (M:=M) (L:=L) (ops:=ops) (K:=gT P none L ops (λa w=>Q .normal a w) (ops.toList.drop k)) (k:=k) (M':=M) (ops.toList.take k) 0 (λj c=>by
   have f:j<k:=by simp at c;omega
   rw[List.getElem?_take,if_pos f,R3,V0]) (λj c=>by
   have:SF (0+j) k=true:=gK.2 (by simp at c;omega);unfold qt;rw[this];rfl)
  have t2:=jb (P:=P) (M:=M) (L:=L) (ops:=ops) (K:=λa w=>Q .normal a w) (k:=k) (M':=none) (ops.toList.drop k) (ops.toList.take k).length (λj c=>by
   have e:(ops.toList.take k).length=k:=by simp at c ⊢;omega
   rw[e,List.getElem?_drop,V0]) (λj c=>by
   have:SF ((ops.toList.take k).length+j) k=false:=zo (by simp at c ⊢;omega);unfold qt;rw[this];rfl)
  rw[b,rS,t2,t1];exact h
theorem vF {rn:Option Nat}{id:Nat}{a:gx}{w:gb}(h:gT P none L ops (λa w=>Q .normal a w) ops.toList a w):(U7 id ops false).wpIn (FW rn) 0 P Q a w:=
 wpIn_region_list (jT (λ_ _ h=>h) _ _ _ h)
end
structure Sl where
 a:Option hY
 n:Nat
 c:Nat
@[reducible] def Sl.v (s:Sl):gp:=.slice s.a s.n s.c
structure fg where
 α:Type
 enc:α->gp
 dec:gp->Option α
 ok:∀v x,dec v=some x->v=enc x
@[reducible] def ab (k:mi):fg where
  α:=Int
  enc:=λn=>.int k n
  dec:=λv=>match v with|.int a n=>(bif a==k then some n else none)|_=>none
  ok:=by
   intro v x h;cases v<;>simp only[reduceCtorEq] at h;rename_i a n;by_cases e:a=k
   ·subst e;simp at h;rw[h]
   ·have:(a==k)=false:=by simpa using e
    rw[this] at h;cases h
@[reducible] def aC:fg where
  α:=Bool
  enc:=λb=>.bool b
  dec:=λv=>match v with|.bool b=>some b|_=>none
  ok:=by intro v x h;cases v<;>simp only[reduceCtorEq,RH] at h;rw[h]
@[reducible] def aN:fg where
  α:=ByteArray
  enc:=λs=>.string s
  dec:=λv=>match v with|.string s=>some s|_=>none
  ok:=by intro v x h;cases v<;>simp only[reduceCtorEq,RH] at h;rw[h]
@[reducible] def aq:fg where
  α:=Sl
  enc:=λs=>.slice s.a s.n s.c
  dec:=λv=>match v with|.slice a n c=>some ⟨a,n,c⟩|_=>none
  ok:=by intro v x h;cases v<;>simp only[reduceCtorEq,RH] at h;rw[<-h]
@[reducible] def aB:fg where
  α:=Option hY
  enc:=λp=>.pointer p
  dec:=λv=>match v with|.pointer p=>some p|_=>none
  ok:=by intro v x h;cases v<;>simp only[reduceCtorEq,RH] at h;rw[h]
@[reducible] def cd:fg where
  α:=Option Nat
  enc:=λp=>.map p
  dec:=λv=>match v with|.map p=>some p|_=>none
  ok:=by intro v x h;cases v<;>simp only[reduceCtorEq,RH] at h;rw[h]
@[reducible] def gR:fg where
  α:=gp
  enc:=λv=>v
  dec:=λv=>some v
  ok:=by intro v x h;exact Rc h
@[reducible] def O3:fg where
  α:=Fn×Array gp×Array gp
  enc:=λq=>.func q.1 q.2.1 q.2.2
  dec:=λv=>match v with|.func f i c=>some (f,i,c)|_=>none
  ok:=by intro v x h;cases v<;>simp only[reduceCtorEq,RH] at h;rw[<-h]
@[reducible] def ku:fg where
  α:=Array gp
  enc:=λp=>.agg p
  dec:=λv=>match v with|.agg p=>some p|_=>none
  ok:=by intro v x h;cases v<;>simp only[reduceCtorEq,RH] at h;rw[h]
@[reducible] def du.α:List fg->Type
  |[]=>Unit
  |[c]=>c.α
  |c::d::r=>c.α×du.α (d::r)
@[reducible] def du.enc:(l:List fg)->du.α l->List gp
  |[],_=>[]
  |[c],x=>[c.enc x]
  |c::d::r,x=>c.enc x.1::du.enc (d::r) x.2
@[reducible] def du.dec:(l:List fg)->List gp->Option (du.α l)
  |[],vs=>match vs with|[]=>some ()|_=>none
  |[c],vs=>match vs with|[v]=>c.dec v|_=>none
  |c::d::r,vs=>match vs with
    |v::vs=>(match c.dec v with
      |some x=>(match du.dec (d::r) vs with|some y=>some (x,y)|none=>none)
      |none=>none)
    |[]=>none
theorem du.ok:∀(l:List fg) (vs:List gp) (x:du.α l),du.dec l vs=some x->vs=du.enc l x
 |[],vs,x,h=>by
   unfold du.dec at h;cases vs with
   |nil=>rfl
   |cons v r=>cases h
 |[c],vs,x,h=>by
   unfold du.dec at h
   match vs,h with
   |[v],h=>exact congrArg (λu=>[u]) (c.ok v x h)
 |c::d::r,vs,x,h=>by
   unfold du.dec at h
   match vs,h with
   |v::vs,h=>
     revert h;simp only;split
     ·rename_i a f;split
      ·rename_i b g;intro h;have e:(a,b)=x:=Rc h;subst e;have i:=c.ok v a f;have j:=du.ok (d::r) vs b g;show v::vs=c.enc a::du.enc (d::r) b;rw[<-i,<-j]
      ·intro h;cases h
     ·intro h;cases h
@[reducible] def aW (l:List fg):fg where
  α:=du.α l
  enc:=λx=>.tuple ⟨du.enc l x⟩
  dec:=λv=>match v with|.tuple vs=>du.dec l vs.toList|_=>none
  ok:=by
   intro v x h;cases v<;>simp only[reduceCtorEq] at h;rename_i vs;have:=du.ok l vs.toList x h;rw[<-this]
@[reducible] def bR (l:List fg):fg where
  α:=du.α l
  enc:=λx=>.agg ⟨du.enc l x⟩
  dec:=λv=>match v with|.agg vs=>du.dec l vs.toList|_=>none
  ok:=by
   intro v x h;cases v<;>simp only[reduceCtorEq] at h;rename_i vs;have:=du.ok l vs.toList x h;rw[<-this]
@[reducible] def gM:fg where
  α:=Bool×List gp
  enc:=λx=>.tuple ⟨.bool x.1::x.2⟩
  dec:=λv=>match v with|.tuple vs=>(match vs.toList with|.bool b::l=>some (b,l)|_=>none)|_=>none
  ok:=by
   intro v x h;cases v<;>simp only[reduceCtorEq] at h;rename_i vs;split at h
   ·rename_i b l hl;have e:(b,l)=x:=Rc h;subst e;simp only;rw[<-hl]
   ·cases h
@[reducible] def pS:fg where
  α:=gp×gp
  enc:=λx=>.tuple ⟨[x.1,x.2]⟩
  dec:=λv=>match v with|.tuple vs=>(match vs.toList with|[k,u]=>some (k,u)|_=>none)|_=>none
  ok:=by
   intro v x h;cases v<;>simp only[reduceCtorEq] at h;rename_i vs;split at h
   ·rename_i k u hl;have e:(k,u)=x:=Rc h;subst e;simp only;rw[<-hl]
   ·cases h
def AD (P:hQ):Nat->ic->Option (List fg)
 |0,_=>none
 |n+1,t=>
   match P.underlying t with
   |some .bool=>some [aC]
   |some (.int k)=>some [ab k]
   |some .string=>some [aN]
   |some (.slice _)=>some [aq]
   |some (.pointer _)=>some [aB]
   |some (.map _ _)=>some [cd]
   |some (.struct fs)=>fs.toList.foldr (λf acc=>match AD P n f.type,acc with|some x,some y=>some (x++y)|_,_=>none) (some [])
   |some (.func _ _ _)=>some [gR]
   |some (.interface _)=>some [gR]
   |_=>none
def lu (P:hQ)(t:ic):fg:=
 match P.underlying t with
 |some .bool=>aC
 |some (.int k)=>ab k
 |some .string=>aN
 |some (.slice _)=>aq
 |some (.pointer _)=>aB
 |some (.map _ _)=>cd
 |some (.struct _)=>(match AD P 5 t with|some l=>bR l|none=>ku)
 |some (.array _ _)=>ku
 |_=>gR
def iC (P:hQ)(t:ic):fg:=
 match P.underlying t with
 |some (.tuple a)=>aW (a.toList.map (lu P))
 |some (.func _ rs _)=>(match rs.toList with|[]=>gR|_::_=>O3)
 |_=>lu P t
def ae {α:Type}(p:Option α)(K:α->Prop):Prop:=match p with|some a=>K a|none=>False
def br (b:Bool)(A B:Prop):Prop:=match b with|true=>A|false=>B
theorem fQ {α:Type}{p:Option α}{K:α->Prop}(h:ae p K):∃a,p=some a/\K a:=by
 cases p with
 |none=>exact h.elim
 |some a=>exact⟨a,rfl,h⟩
theorem aZ {α:Type}{p:Option α}{K:α->Prop}(a:α)(e:p=some a)(h:K a):ae p K:=by subst e;exact h
theorem GW {b:Bool}{A B:Prop}:br b A B↔(b=true->A)/\(b=false->B):=by cases b<;>simp[br]
theorem ah {b:Bool}{A B:Prop}(h1:b=true->A)(a:b=false->B):br b A B:=GW.2 ⟨h1,a⟩
def mS (k:mi)(a b:Int):Int:=k.wrap ((SX k.bits a&&&SX k.bits b).toNat)
def AN (k:mi)(a b:Int):Int:=k.wrap ((SX k.bits a|||SX k.bits b).toNat)
def jj (k:mi)(a b:Int):Int:=k.wrap ((SX k.bits a^^^SX k.bits b).toNat)
def lW (k:mi)(a y:Int):Int:=k.wrap (a*2^(min y.toNat k.bits))
def dQ (k:mi)(a y:Int):Int:=a.fdiv (2^(min y.toNat k.bits))
def rq (s:ByteArray)(i:Nat):UInt8:=s.data.getD i 0
def rd (M:Option (aa->Prop))(H:aa)(p:aa->Prop):Prop:=match M with|none=>p H|some G=>∀H',G H'->p H'
def tF (c:fg)(P:hQ)(s:ik gp)(K:c.α->Prop):Prop:=∃y:c.α,(∀w:gb,s.run P w=.ok (c.enc y) w)/\K y
def JA (c:fg)(u:gp)(K:c.α->Prop):Prop:=∃y:c.α,u=c.enc y/\K y
def ld (c:fg)(H:aa)(a:hY)(K:c.α->Prop):Prop:=∃x:c.α,dh H a=some (c.enc x)/\K x
def dE (c:fg)(G:aa->Prop)(a:hY)(K:c.α->Prop):Prop:=∃x:c.α,(∀H',G H'->dh H' a=some (c.enc x))/\K x
def lX (H:aa)(a:hY)(n:Nat)(v:gp):Prop:=∃cs:Array gp,v=.agg cs/\cs.size=n/\∀i,i<n->dh H (a.add i)=cs[i]?
def cN (c:fg)(n:Nat)(H:aa)(a:hY)(K:c.α->Prop):Prop:=∃x:c.α,lX H a n (c.enc x)/\K x
def Nq (c:fg)(n:Nat)(G:aa->Prop)(a:hY)(K:c.α->Prop):Prop:=∃x:c.α,(∀H',G H'->lX H' a n (c.enc x))/\K x
def N0 (P:hQ)(s:ik gp)(H:aa)(v:gp):Prop:=∀w:gb,w.heap=H->s.run P w=.ok v w
def Fs (c:fg)(P:hQ)(s:ik gp)(H:aa)(K:c.α->Prop):Prop:=∃x:c.α,N0 P s H (c.enc x)/\K x
def Ol (c:fg)(P:hQ)(s:ik gp)(G:aa->Prop)(K:c.α->Prop):Prop:=∃x:c.α,(∀H',G H'->N0 P s H' (c.enc x))/\K x
def st (H:aa)(a:hY)(v:gp)(K:aa->Prop):Prop:=jJ v=true/\(∃u,dh H a=some u)/\qe H a=false/\K (xR H a v)
def Im {α:Type}(P:hQ)(s:ik α)(H:aa)(K:α->aa->Prop):Prop:=∀w:gb,w.heap=H->∃v w',s.run P w=.ok v w'/\K v w'.heap/\Alike w w'
def bf (c:fg)(P:hQ)(s:ik gp)(H:aa)(K:c.α->aa->Prop):Prop:=Im P s H λv H'=>∃x:c.α,v=c.enc x/\K x H'
def jo (P:hQ)(s:ik Unit)(H:aa)(K:aa->Prop):Prop:=Im P s H λ_ H'=>K H'
theorem sv {α:Type}{P:hQ}{s:ik α}{H:aa}{K:α->aa->Prop}(h:wpS P s H K):Im P s H K:=λw hw=>by subst hw;exact KU s h
def zc (P:hQ)(t:ic):Array gp:=match (P.info? t).bind (·.zero) with|some z=>z.cells|none=>#[]
def Spec (P:hQ)(f:kc)(args:Array gp)(H:aa)(R:gp->aa->Prop):Prop:=
 ∀w:gb,w.heap=H->Calls P f args w λe w'=>∃v,e=.returned v/\R v w'.heap/\Alike w w'
def ak (c:fg)(P:hQ)(f:kc)(args:Array gp)(H:aa)(R:c.α->aa->Prop):Prop:=
 Spec P f args H λv H'=>∃x:c.α,v=c.enc x/\R x H'
theorem Spec.mono {P:hQ}{f:kc}{args:Array gp}{H:aa}{R a:gp->aa->Prop}(h:Spec P f args H R)(b:∀v H',R v H'->a v H'):Spec P f args H a:=
 λw hw=>(h w hw).mono λ_ _ ⟨v,he,h1,c⟩=>⟨v,he,b _ _ h1,c⟩
def zr {α:Type}(P:hQ):ik α->Option α
 |.pure a=>some a
 |.program k=>zr P (k P)
 |.mark _ k=>zr P k
 |_=>none
theorem Ey {α:Type}{P:hQ}(s:ik α):∀{v:α},zr P s=some v->∀w:gb,s.run P w=.ok v w:=by
 induction s with
 |pure a=>intro v h w;simp only[zr,RH] at h;subst h;rfl
 |program k b=>intro v h w;exact b P h w
 |mark m k b=>intro v h w;exact b h w
 |_=>intro v h;cases h
def pK:ka->Bool
 |.const (.int _ (.ofNat (_+1)))=>true
 |.const (.int _ (.negSucc _))=>true
 |_=>false
def rR:ka->Bool
 |.const (.int _ (.ofNat _))=>true
 |_=>false
def CJ (P:hQ):Op->Bool
 |.move _=>true|.assign _=>true
 |.unOp ..=>true|.fieldAddr ..=>true|.extract ..=>true
 |.makeFunc ..=>true|.makeInterface ..=>true
 |.field t _ _=>(AD P 5 t).isSome
 |.build t _=>(match P.underlying t with|some (.struct _)=>(AD P 5 t).isSome|_=>true)
 |.binOp op t _ y _=>
   match P.underlying t with
   |some (.int _)=>(match op with
     |.quo=>pK y|.rem=>pK y|.shl=>rR y|.shr=>rR y
     |_=>true)
   |some .string=>(match op with|.add=>false|_=>true)
   |some .bool=>true
   |_=>false
 |.convert src dst _=>
   match P.underlying src,P.underlying dst with
   |some (.int _),some (.int _)=>true
   |some .string,some .string=>true
   |_,_=>false
 |.call {callee:=.builtin .len,argTypes,..}=>
   match (argTypes[0]?).bind P.underlying with
   |some (.map _ _)=>false
   |_=>true
 |.call {callee:=.builtin .cap,..}=>true
 |.call {callee:=.builtin .min,..}=>true
 |.call {callee:=.builtin .max,..}=>true
 |_=>false
def evalOp (P:hQ)(o:hV)(ρ:ka->gp):Option gp:=
 match zr P (execOp ρ o) with
 |some (.value v)=>some v
 |_=>none
theorem By {P:hQ}{o:hV}{ρ:ka->gp}{v:gp}(h:evalOp P o ρ=some v)(w:gb):(execOp ρ o).run P w=.ok (.value v) w:=by
 unfold evalOp at h;split at h
 ·rename_i u hu;rw[Ey _ hu w];rw[Rc h]
 ·cases h
def sb (t:Bool)(a b:ka)(c d:gp):gp:=
 match c,d with
 |.bool x,.bool y=>
   (match b with
   |.const (.bool false)=>.bool (t&&x)
   |_=>(match a with
     |.const (.bool true)=>.bool (t||y)
     |_=>.bool (bif t then x else y)))
 |_,_=>match t with|true=>c|false=>d
def cM (a:Option hY)(cap l size:Nat):Option hY:=if cap=l then a else a.map (·.add (l*size))
def Ou (cap len:Nat)(lo hi:Option gp)(K:Nat->Nat->Prop):Prop:=
 match hi with
 |none=>(match lo with
   |none=>K 0 len
   |some (.int _ l)=>(0<=l/\l<=(len:Int))/\K l.toNat len
   |_=>False)
 |some (.int _ h)=>(0<=h/\h<=(cap:Int))/\(match lo with
   |none=>K 0 h.toNat
   |some (.int _ l)=>(0<=l/\l<=h)/\K l.toNat h.toNat
   |_=>False)
 |_=>False
def Dt (v:gp)(K:Bool->Prop):Prop:=match v with|.nilIface=>K true|.iface _ _=>K false|_=>False
def xS (v:gp)(K:Bool->Prop):Prop:=match v with|.nilFunc=>K true|.func _ _ _=>K false|_=>False
def G2 (v:gp)(K:gp->Prop):Prop:=match v with
 |.pointer p=>ae p λa=>K (.pointer (some a))
 |.func (.func f) a b=>K (.func (.func f) a b)
 |.iface t x=>K (.iface t x)
 |_=>False
def BZ (d:nH)(op:BinOp)(y:ka)(c e:gp)(K:gp->Prop):Prop:=
 match d with
 |.pointer _=>(match y with
   |.const (.pointer none)=>(match op,c with|.eql,.pointer a=>K (.bool a.isNone)|.neq,.pointer a=>K (.bool (!a.isNone))|_,_=>False)
   |_=>False)
 |.slice _=>(match y with
   |.const (.slice none _ _)=>(match op,c with|.eql,.slice a _ _=>K (.bool a.isNone)|.neq,.slice a _ _=>K (.bool (!a.isNone))|_,_=>False)
   |_=>False)
 |.map _ _=>(match y with
   |.const (.map none)=>(match op,c with|.eql,.map a=>K (.bool a.isNone)|.neq,.map a=>K (.bool (!a.isNone))|_,_=>False)
   |_=>False)
 |.interface _=>(match y with
   |.const .nilIface=>(match op with|.eql=>Dt c λb=>K (.bool b)|.neq=>Dt c λb=>K (.bool (!b))|_=>False)
   |_=>False)
 |.func _ _ _=>(match y with
   |.const .nilFunc=>(match op with|.eql=>xS c λb=>K (.bool b)|.neq=>xS c λb=>K (.bool (!b))|_=>False)
   |_=>False)
 |.int _=>(match op with
   |.quo=>(match c,e with|.int k a,.int f b=>(bif k==f then b≠0/\K (.int k (k.wrap (a.tdiv b))) else False)|_,_=>False)
   |.rem=>(match c,e with|.int k a,.int f b=>(bif k==f then b≠0/\K (.int k (a.tmod b)) else False)|_,_=>False)
   |.shl=>(match c,e with|.int k a,.int _ b=>0<=b/\K (.int k (lW k a b))|_,_=>False)
   |.shr=>(match c,e with|.int k a,.int _ b=>0<=b/\K (.int k (dQ k a b))|_,_=>False)
   |_=>False)
 |.string=>(match op with
   |.add=>(match c,e with|.string a,.string b=>((a.size+b.size:Nat):Int)<=9223372036854775807/\K (.string (a++b))|_,_=>False)
   |_=>False)
 |_=>False
def xe (P:hQ)(op:Op)(ρ:ka->gp)(K:gp->Prop):Prop:=
 match op with
 |.pick c a b=>(match ρ c with|.bool t=>K (sb t a b (ρ a) (ρ b))|_=>False)
 |.nilCheck x=>G2 (ρ x) K
 |.binOp op t x y _=>(match P.underlying t with
   |some d=>BZ d op y (ρ x) (ρ y) K
   |none=>False)
 |.indexAddr t x i=>(match P.underlying t with
   |some (.slice el)=>(match P.info? el with
     |some inf=>(match ρ x,ρ i with
       |.slice a n _,.int _ e=>ae a λad=>(0<=e/\e<(n:Int))/\K (.pointer (some (ad.add (e.toNat*inf.size))))
       |_,_=>False)
     |none=>False)
   |some (.array n el)=>(match P.info? el with
     |some inf=>(match ρ x,ρ i with
       |.pointer p,.int _ e=>ae p λad=>(0<=e/\e<(n:Int))/\K (.pointer (some (ad.add (e.toNat*inf.size))))
       |_,_=>False)
     |none=>False)
   |_=>False)
 |.index t x i=>(match P.underlying t with
   |some .string=>(match ρ x,ρ i with
     |.string s,.int _ e=>(0<=e/\e<(s.size:Int))/\K (.int .u8 ((rq s e.toNat).toNat:Int))
     |_,_=>False)
   |some (.array _ el)=>tF (lu P el) P (Xk t (ρ x) (ρ i)) λy=>K ((lu P el).enc y)
   |_=>False)
 |.slice t x lo hi none=>(match P.underlying t with
   |some .string=>(match ρ x with
     |.string s=>Ou s.size s.size (lo.map ρ) (hi.map ρ) λl h=>K (.string (s.extract l h))
     |_=>False)
   |some (.slice el)=>(match P.info? el with
     |some inf=>(match ρ x with
       |.slice a n c=>Ou c n (lo.map ρ) (hi.map ρ) λl h=>K (.slice (cM a c l inf.size) (h - l) (c - l))
       |_=>False)
     |none=>False)
   |some (.array n el)=>(match P.info? el with
     |some inf=>(match ρ x with
       |.pointer p=>ae p λa=>Ou n n (lo.map ρ) (hi.map ρ) λl h=>K (.slice (cM (some a) n l inf.size) (h - l) (n - l))
       |_=>False)
     |none=>False)
   |_=>False)
 |.slice t x lo (some hi) (some g)=>(match P.underlying t with
   |some (.slice el)=>(match P.info? el with
     |some inf=>(match ρ x,ρ hi,ρ g with
       |.slice a _ c,.int _ h,.int _ m=>(0<=m/\m<=(c:Int))/\(0<=h/\h<=m)/\(match lo.map ρ with
         |none=>K (.slice (cM a m.toNat 0 inf.size) (h.toNat - 0) (m.toNat - 0))
         |some (.int _ l)=>(0<=l/\l<=h)/\K (.slice (cM a m.toNat l.toNat inf.size) (h.toNat - l.toNat) (m.toNat - l.toNat))
         |_=>False)
       |_,_,_=>False)
     |none=>False)
   |_=>False)
 |.sliceToArrayPointer t x=>(match P.underlying t with
   |some (.array n _)=>(match ρ x with|.slice a len _=>n<=len/\K (.pointer a)|_=>False)
   |_=>False)
 |.field t x f=>(match P.underlying t with
   |some (.struct fs)=>(match fs[f]? with
     |some fd=>tF (lu P fd.type) P (Instr.field t (ρ x) f) λy=>K ((lu P fd.type).enc y)
     |none=>False)
   |_=>False)
 |.build t parts=>tF (lu P t) P (Instr.build t (parts.toList.map λq=>(q.1,ρ q.2)).toArray) λy=>K ((lu P t).enc y)
 |_=>False
theorem aP {P:hQ}{t:ic}{d:nH}(h:P.underlying t=some d)(w:gb):(underlying t).run P w=.ok d w:=by
 simp[underlying,h]
theorem cQ {P:hQ}{t:ic}{i:TypeInfo}(h:P.info? t=some i)(w:gb):(sizeOf t).run P w=.ok i.size w:=by
 simp[sizeOf,typeInfo,h]
theorem qO {P:hQ}{isSlice:Bool}{cap len:Nat}{lo hi:Option gp}{K:Nat->Nat->Prop}(h:Ou cap len lo hi K):
  ∃l u,(∀w:gb,(TH isSlice len cap lo hi none).run P w=.ok (l,u,cap) w)/\K l u:=by
 unfold Ou at h;split at h
 ·split at h
  ·exact⟨0,len,λw=>by simp[TH],h⟩
  ·rename_i k l;obtain⟨⟨h1,b⟩,a⟩:=h;refine⟨l.toNat,len,λw=>?_,a⟩;simp[TH,Vm,asIntOf,h1,b]
  ·exact h.elim
 ·rename_i k u;obtain⟨⟨h1,b⟩,a⟩:=h;split at a
  ·refine⟨0,u.toNat,λw=>?_,a⟩;cases isSlice<;>simp[TH,Vm,asIntOf,h1,b]
  ·rename_i g l;obtain⟨⟨c,i⟩,d⟩:=a;obtain⟨u,rfl⟩:=Ts h1;obtain⟨l,rfl⟩:=Ts c;have e:l<=u:=by omega
   have f:u<=cap:=by omega
   refine⟨l,u,λw=>?_,by simpa using d⟩;cases isSlice<;>simp[TH,Vm,asIntOf,e,f]
  ·exact a.elim
 ·exact h.elim
theorem lG {P:hQ}{t e:ic}(hu:P.underlying t=some (.pointer e))(a:Option hY)(d:Nat)(w:gb):(Tv (d+1) t (.pointer a) (.pointer none)).run P w=.ok a.isNone w:=by
 cases a<;>simp[Tv,aP hu]
theorem jz {P:hQ}{t e:ic}(hu:P.underlying t=some (.slice e))(a:Option hY)(n c b f d:Nat)(w:gb):(Tv (d+1) t (.slice a n c) (.slice none b f)).run P w=.ok a.isNone w:=by
 cases a<;>simp[Tv,aP hu]
theorem lS {P:hQ}{t k e:ic}(hu:P.underlying t=some (.map k e))(a:Option Nat)(d:Nat)(w:gb):(Tv (d+1) t (.map a) (.map none)).run P w=.ok a.isNone w:=by
 cases a<;>simp[Tv,aP hu]
theorem dS {P:hQ}{t:ic}{ms:Array (String×ic)}(hu:P.underlying t=some (.interface ms))(d:Nat)(w:gb):(Tv (d+1) t .nilIface .nilIface).run P w=.ok true w/\∀u x,(Tv (d+1) t (.iface u x) .nilIface).run P w=.ok false w:=by
 refine⟨?_,λu x=>?_⟩<;>simp[Tv,aP hu]
theorem eQ {P:hQ}{t:ic}{ps rs:Array ic}{v:Bool}(hu:P.underlying t=some (.func ps rs v))(d:Nat)(w:gb):(Tv (d+1) t .nilFunc .nilFunc).run P w=.ok true w/\∀f a c,(Tv (d+1) t (.func f a c) .nilFunc).run P w=.ok false w:=by
 refine⟨?_,λf a c=>?_⟩<;>simp[Tv,aP hu]
theorem yd {P:hQ}{op:BinOp}{t:ic}{d:nH}{x y:ka}{ρ:ka->gp}{K:gp->Prop}(hρ:∀v,ρ (.const v)=v)
  (g:P.underlying t=some d) (h:BZ d op y (ρ x) (ρ y) K):∃v,(∀w:gb,(do eqGuard op t x y (ρ x) (ρ y);binOp op t (ρ x) (ρ y):ik gp).run P w=.ok v w)/\K v:=by
 unfold BZ at h;have m:∀{k i:mi} {A:Prop},(bif k==i then A else False)->k=i/\A:=by
  intro k i A h;by_cases e:k=i
  ·subst e;simp at h;exact⟨rfl,h⟩
  ·have:(k==i)=false:=by simpa using e
   rw[this] at h;exact h.elim
 split at h
 ·split at h
  ·rw[hρ];split at h
   ·rename_i a f;rw[f];exact⟨_,λw=>by simp[eqGuard,binOp,Tw,SN,lG g],h⟩
   ·rename_i a f;rw[f];exact⟨_,λw=>by simp[eqGuard,binOp,Tw,SN,lG g],h⟩
   ·exact h.elim
  ·exact h.elim
 ·split at h
  ·rw[hρ];split at h
   ·rename_i a n c f;rw[f];exact⟨_,λw=>by simp[eqGuard,binOp,Tw,SN,jz g],h⟩
   ·rename_i a n c f;rw[f];exact⟨_,λw=>by simp[eqGuard,binOp,Tw,SN,jz g],h⟩
   ·exact h.elim
  ·exact h.elim
 ·split at h
  ·rw[hρ];split at h
   ·rename_i a f;rw[f];exact⟨_,λw=>by simp[eqGuard,binOp,Tw,SN,lS g],h⟩
   ·rename_i a f;rw[f];exact⟨_,λw=>by simp[eqGuard,binOp,Tw,SN,lS g],h⟩
   ·exact h.elim
  ·exact h.elim
 ·split at h
  ·rw[hρ];split at h
   ·unfold Dt at h;split at h
    ·rename_i f;rw[f];exact⟨_,λw=>by simp[eqGuard,binOp,Tw,SN,(dS g _ _).1],h⟩
    ·rename_i f;rw[f];exact⟨_,λw=>by simp[eqGuard,binOp,Tw,SN,(dS g _ _).2],h⟩
    ·exact h.elim
   ·unfold Dt at h;split at h
    ·rename_i f;rw[f];exact⟨_,λw=>by simp[eqGuard,binOp,Tw,SN,(dS g _ _).1],h⟩
    ·rename_i f;rw[f];exact⟨_,λw=>by simp[eqGuard,binOp,Tw,SN,(dS g _ _).2],h⟩
    ·exact h.elim
   ·exact h.elim
  ·exact h.elim
 ·split at h
  ·rw[hρ];split at h
   ·unfold xS at h;split at h
    ·rename_i f;rw[f];exact⟨_,λw=>by simp[eqGuard,binOp,Tw,SN,(eQ g _ _).1],h⟩
    ·rename_i f;rw[f];exact⟨_,λw=>by simp[eqGuard,binOp,Tw,SN,(eQ g _ _).2],h⟩
    ·exact h.elim
   ·unfold xS at h;split at h
    ·rename_i f;rw[f];exact⟨_,λw=>by simp[eqGuard,binOp,Tw,SN,(eQ g _ _).1],h⟩
    ·rename_i f;rw[f];exact⟨_,λw=>by simp[eqGuard,binOp,Tw,SN,(eQ g _ _).2],h⟩
    ·exact h.elim
   ·exact h.elim
  ·exact h.elim
 ·split at h
  ·split at h
   ·rename_i k a i b f j;rw[f,j];obtain⟨rfl,h1,l⟩:=m h;exact⟨_,λw=>by simp[eqGuard,binOp,Z3,h1],l⟩
   ·exact h.elim
  ·split at h
   ·rename_i k a i b f j;rw[f,j];obtain⟨rfl,h1,l⟩:=m h;exact⟨_,λw=>by simp[eqGuard,binOp,Z3,h1],l⟩
   ·exact h.elim
  ·split at h
   ·rename_i k a i b f j;rw[f,j];obtain⟨h1,l⟩:=h;exact⟨_,λw=>by simp[eqGuard,binOp,aai,show ¬b<0 by omega];rfl,l⟩
   ·exact h.elim
  ·split at h
   ·rename_i k a i b f j;rw[f,j];obtain⟨h1,l⟩:=h;exact⟨_,λw=>by simp[eqGuard,binOp,aai,show ¬b<0 by omega];rfl,l⟩
   ·exact h.elim
  ·exact h.elim
 ·split at h
  ·split at h
   ·rename_i a b f j;rw[f,j];have h1:(a.size:Int)+(b.size:Int)<=9223372036854775807:=by have:=h.1;omega
    exact⟨_,λw=>by simp only[eqGuard,binOp,Op.stringOp,Rk];simp[h1],h.2⟩
   ·exact h.elim
  ·exact h.elim
 ·exact h.elim
theorem Hv {t:Bool}{a b:ka}{ρ:ka->gp}(hρ:∀v,ρ (.const v)=v):sb t a b (ρ a) (ρ b)=if t then ρ a else ρ b:=by
 unfold sb;split
 ·rename_i x y c d;split
  ·have e:=hρ (.bool false);rw[d] at e;have f:y=false:=by simpa using e
   rw[c,d,f];cases t<;>simp
  ·split
   ·have e:=hρ (.bool true);rw[c] at e;have f:x=true:=by simpa using e
    rw[c,d,f];cases t<;>simp
   ·rw[c,d];cases t<;>simp
 ·cases t<;>simp
theorem vi {P:hQ}{o:hV}{ρ:ka->gp}{K:gp->Prop}(hρ:∀v,ρ (.const v)=v)(h:xe P o.op ρ K):
  ∃v,(∀w:gb,(execOp ρ o).run P w=.ok (.value v) w)/\K v:=by
 obtain⟨dst,op,type,pos,after,guard⟩:=o;simp only at h;unfold xe at h;cases op<;>simp only at h<;>try exact h.elim
 case pick c a b=>
  split at h
  ·rename_i t R;rw[Hv hρ] at h;exact⟨_,λw=>by simp[execOp,R,asBool],h⟩
  ·exact h.elim
 case field t x f=>
  split at h
  ·split at h
   ·obtain⟨y,h1,g⟩:=h;exact⟨_,λw=>by simp only[execOp,Rk,h1 w,Rl,RN],g⟩
   ·exact h.elim
  ·exact h.elim
 case build t parts=>
  obtain⟨y,h1,g⟩:=h;refine⟨_,λw=>?_,g⟩;have e:(parts.toList.map λq=>(q.1,ρ q.2)).toArray=parts.map λ(i,x)=>(i,ρ x):=by apply U0;simp
  rw[e] at h1;simp only[execOp,Rk,h1 w,Rl,RN]
 case nilCheck x=>
  unfold G2 at h;split at h
  ·rename_i p D;obtain⟨a,rfl,hk⟩:=fQ h;exact⟨_,λw=>by simp only[execOp,D];rfl,hk⟩
  ·rename_i f a b D;exact⟨_,λw=>by simp only[execOp,D];rfl,h⟩
  ·rename_i t x D;exact⟨_,λw=>by simp only[execOp,D];rfl,h⟩
  ·exact h.elim
 case binOp op t x y T=>
  split at h
  ·rename_i d hd;obtain⟨v,h1,g⟩:=yd hρ hd h;refine⟨v,λw=>?_,g⟩;have:=h1 w;simp only[execOp,Rk] at this ⊢;rw[this];rfl
  ·exact h.elim
 case indexAddr t x i=>
  split at h
  ·rename_i el hu;split at h
   ·rename_i inf hi;split at h
    ·rename_i a n c k A j z;obtain⟨ad,rfl,⟨h1,g⟩,hk⟩:=fQ h;refine⟨_,λw=>?_,hk⟩;simp[execOp,Y7,j,z,asIntOf,aP hu,cQ hi,h1,g]
    ·exact h.elim
   ·exact h.elim
  ·rename_i n el hu;split at h
   ·rename_i inf hi;split at h
    ·rename_i p k A j z;obtain⟨ad,rfl,⟨h1,g⟩,hk⟩:=fQ h;refine⟨_,λw=>?_,hk⟩;simp[execOp,Y7,j,z,asIntOf,Te,aP hu,cQ hi,h1,g]
    ·exact h.elim
   ·exact h.elim
  ·exact h.elim
 case index t x i=>
  split at h
  ·rename_i hu;split at h
   ·rename_i s k A j z;obtain⟨⟨h1,g⟩,hk⟩:=h;refine⟨_,λw=>?_,hk⟩;have r:A.toNat<s.size:=by omega
    have H:s[A.toNat]?=some (s[A.toNat]'r):=getElem?_pos s A.toNat r;have C:rq s A.toNat=s[A.toNat]'r:=by
     unfold rq;rw[Xq,Rn r];rfl
    simp[execOp,Xk,j,z,asIntOf,aP hu,h1,H,C]
   ·exact h.elim
  ·obtain⟨y,h1,g⟩:=h;exact⟨_,λw=>by simp only[execOp,Rk,h1 w,Rl,RN],g⟩
  ·exact h.elim
 case slice t x lo hi I=>
  cases I with
  |some I=>
    cases hi with
    |none=>exact h.elim
    |some hi=>
    simp only at h;split at h
    ·rename_i el hu;split at h
     ·rename_i inf E;split at h
      ·rename_i a n c kh u U m j J hm;obtain⟨⟨h1,g⟩,⟨r,H⟩,C⟩:=h;obtain⟨m,rfl⟩:=Ts h1;obtain⟨u,rfl⟩:=Ts r;have N:m<=c:=by omega
       have O:u<=m:=by omega
       split at C
       ·rename_i B;refine⟨_,λw=>?_,C⟩;simp only[execOp,We,Xl,j,Rk,aP hu,Rl,B,UJ,J,hm];simp[TH,Vm,asIntOf,N,O,cQ E,cM]
       ·rename_i V l B;obtain⟨⟨S,W⟩,F⟩:=C;obtain⟨l,rfl⟩:=Ts S;have G:l<=u:=by omega
        refine⟨_,λw=>?_,F⟩;simp only[execOp,We,Xl,j,Rk,aP hu,Rl,B,UJ,J,hm];simp[TH,Vm,asIntOf,N,O,G,cQ E,cM]
       ·exact C.elim
      ·exact h.elim
     ·exact h.elim
    ·exact h.elim
  |none=>
    simp only at h;split at h
    ·rename_i hu;split at h
     ·rename_i s j;obtain⟨l,u,h1,g⟩:=qO (P:=P) (isSlice:=false) h;refine⟨_,λw=>?_,g⟩;have r:=h1 w;simp only[execOp,We,Xl,j,Rk,aP hu,Rl,WX];simp[r]
     ·exact h.elim
    ·rename_i el hu;split at h
     ·rename_i inf hi;split at h
      ·rename_i a n c j;obtain⟨l,u,h1,g⟩:=qO (P:=P) (isSlice:=true) h;refine⟨_,λw=>?_,g⟩;have r:=h1 w;simp only[execOp,We,Xl,j,Rk,aP hu,Rl,WX];simp[r,cQ hi,cM]
      ·exact h.elim
     ·exact h.elim
    ·rename_i n el hu;split at h
     ·rename_i inf hi;split at h
      ·rename_i p j;obtain⟨a,rfl,hk⟩:=fQ h;obtain⟨l,u,h1,g⟩:=qO (P:=P) (isSlice:=false) hk;refine⟨_,λw=>?_,g⟩;have r:=h1 w;simp only[execOp,We,j,Te,Rk,RN,aP hu,Rl,WX];simp[r,cQ hi,cM];split<;>rfl
      ·exact h.elim
     ·exact h.elim
    ·exact h.elim
 case sliceToArrayPointer t x=>
  split at h
  ·rename_i n el hu;split at h
   ·rename_i a len c j;refine⟨_,λw=>?_,h.2⟩;simp[execOp,Instr.arrayAt,j,aP hu,show ¬len<n by omega]
   ·exact h.elim
  ·exact h.elim
def JR (H:aa)(m:Option Nat)(n:Nat):Prop:=match m with|none=>n=0|some r=>∃es clk,H[r]?=some (.map es clk)/\es.size=n
def Ct (H:aa)(m:Option Nat)(K:Nat->Prop):Prop:=∃n,JR H m n/\K n
def Oq (G:aa->Prop)(m:Option Nat)(K:Nat->Prop):Prop:=∃n,(∀H',G H'->JR H' m n)/\K n
def gh (H:aa)(a:Option hY)(n:Nat)(s:ByteArray):Prop:=
 match a with
 |none=>s=Tn
 |some ad=>s.size=n/\∀i,i<n->dh H (ad.add i)=some (.int .u8 ((rq s i).toNat:Int))
def xw (H:aa)(a:Option hY)(n:Nat)(K:ByteArray->Prop):Prop:=∃s,gh H a n s/\K s
def NX (G:aa->Prop)(a:Option hY)(n:Nat)(K:ByteArray->Prop):Prop:=∃s,(∀H',G H'->gh H' a n s)/\K s
def ta (P:hQ)(op:Op)(ty:ic)(ρ:ka->gp)(M:Option (aa->Prop))(H:aa)(K:gp->Prop):Prop:=
 match op with
 |.load t x=>(match P.underlying t with
   |some (.struct _)|some (.array _ _)=>(match P.info? t with
     |some inf=>(match ρ x with
       |.pointer p=>ae p λa=>(match M with
         |none=>cN (lu P t) inf.size H a λu=>K ((lu P t).enc u)
         |some G=>Nq (lu P t) inf.size G a λu=>K ((lu P t).enc u))
       |_=>False)
     |none=>False)
   |some _=>(match ρ x with
     |.pointer p=>ae p λa=>(match M with
       |none=>ld (lu P t) H a λu=>K ((lu P t).enc u)
       |some G=>dE (lu P t) G a λu=>K ((lu P t).enc u))
     |_=>False)
   |none=>False)
 |.call {callee:=.builtin .len,args,argTypes}=>(match (argTypes[0]?),(args[0]?) with
   |some t,some x=>(match P.underlying t with
     |some (.map _ _)=>(match ρ x with
       |.map m=>(match M with
         |none=>Ct H m λn=>K (.int .i64 (n:Int))
         |some G=>Oq G m λn=>K (.int .i64 (n:Int)))
       |_=>False)
     |_=>False)
   |_,_=>False)
 |.convert src dst x=>(match P.underlying src,P.underlying dst with
   |some (.slice e),some .string=>(match P.underlying e with
     |some (.int .u8)=>(match ρ x with
       |.slice a n _=>(match M with
         |none=>xw H a n λs=>K (.string s)
         |some G=>NX G a n λs=>K (.string s))
       |_=>False)
     |_=>False)
   |_,_=>False)
 |.lookup t x b ok=>(match M with
   |none=>Fs (iC P ty) P (Sd t (ρ x) (ρ b) ok) H λu=>K ((iC P ty).enc u)
   |some G=>Ol (iC P ty) P (Sd t (ρ x) (ρ b) ok) G λu=>K ((iC P ty).enc u))
 |.binOp op t x y _=>(match M with
   |none=>Fs aC P (do eqGuard op t x y (ρ x) (ρ y);binOp op t (ρ x) (ρ y)) H λu=>K (.bool u)
   |some G=>Ol aC P (do eqGuard op t x y (ρ x) (ρ y);binOp op t (ρ x) (ρ y)) G λu=>K (.bool u))
 |_=>False
theorem E9 {P:hQ}{w:gb}{a:hY}{n:Nat}{v:gp}(h:lX w.heap a n v):∃cs,v=.agg cs/\(loadCells a n).run P w=.ok cs w:=by
 obtain⟨cs,rfl,hs,c⟩:=h;refine⟨cs,rfl,?_⟩;have:=run_loadCells_list (P:=P) w a cs.toList (λj v b=>by
  have d:j<cs.size:=by
   have:=(QJ.1 b).1;simpa using this
  have h1:=c j (by omega);have e:cs[j]?=some v:=by simpa using b
  exact(show w.cell? (a.add j)=cs[j]? from h1).trans e)
 simpa[hs] using this
theorem yV {P:hQ}{w:gb}{a:Option hY}{n c:Nat}{s:ByteArray}(h:gh w.heap a n s):(Conv.bytesToString (.slice a n c)).run P w=.ok (.string s) w:=by
 cases a with
 |none=>simp only[gh] at h;subst h;rfl
 |some ad=>
   obtain⟨h1,f⟩:=h;have e:(loadCells ad n).run P w=.ok (((RI n).map λj=>((rq s j).toNat:Int)).map (Value.int .u8)).toArray w:=by
    rw[run_loadCells w ad n (λj=>.int .u8 ((rq s j).toNat:Int)) (λj g=>f j g),List.map_map];rfl
   rw[run_bytesToString w ad n c _ e];congr 2;have key:∀(l:List Nat) (r:ByteArray),(l.map λj=>((rq s j).toNat:Int)).foldl (λr n=>r.push (UInt8.ofNat n.toNat)) r=l.foldl (λr j=>r.push (rq s j)) r:=by
    intro l
    induction l with
    |nil=>intro r;rfl
    |cons x l d=>intro r;simp only[List.map_cons,Tx];rw[d];simp
   rw[key];have b:∀(l:List Nat) (r:ByteArray),(l.foldl (λr j=>r.push (rq s j)) r).data.toList=r.data.toList++l.map (rq s):=by
    intro l
    induction l with
    |nil=>intro r;simp
    |cons x l d=>intro r;rw[Tx,d];simp[ByteArray.push]
   apply ByteArray.ext;apply U0;rw[b];apply List.ext_getElem?;intro i;have hs:s.data.size=n:=h1;have k:Tn.data.toList=[]:=rfl;rw[k,SY];by_cases hi:i<n
   ·simp[hi,rq,hs]
   ·simp[hi,hs]
theorem jQ {P:hQ}{o:hV}{ρ:ka->gp}{M:Option (aa->Prop)}{H:aa}{K:gp->Prop}(h:ta P o.op o.type ρ M H K):
  ∃v,(∀w:gb,O6 M H w.heap->(execOp ρ o).run P w=.ok (.value v) w)/\K v:=by
 obtain⟨dst,op,type,pos,after,guard⟩:=o;simp only at h;have one:∀{t:ic} {p:hY} {v:gp} {x:ka},ρ x=.pointer (some p)->(∃d,P.underlying t=some d/\(∀fs,d≠.struct fs)/\(∀n e,d≠.array n e))->
   ∀w:gb,dh w.heap p=some v->(execOp ρ ⟨dst,.load t x,type,pos,after,guard⟩).run P w=.ok (.value v) w:=by
  rintro t p v x f ⟨d,hd,h1,b⟩ w q;have i:w.cell? p=some v:=q;have j:(isAgg t).run P w=.ok false w:=by
   simp only[isAgg,Rk,aP hd,Rl];cases d<;>first|rfl|exact absurd rfl (h1 _)|exact absurd rfl (b _ _)
  simp[execOp,Ya,f,Te,loadVar,j,i]
 have many:∀{t:ic} {p:hY} {v:gp} {x:ka} {inf:TypeInfo},ρ x=.pointer (some p)->P.info? t=some inf->(∃d,P.underlying t=some d/\((∃fs,d=.struct fs)\/∃n e,d=.array n e))->
   ∀w:gb,lX w.heap p inf.size v->(execOp ρ ⟨dst,.load t x,type,pos,after,guard⟩).run P w=.ok (.value v) w:=by
  rintro t p v x inf f hi ⟨d,hd,h1⟩ w z;obtain⟨cs,rfl,hl⟩:=E9 (P:=P) z;have j:(isAgg t).run P w=.ok true w:=by
   simp only[isAgg,Rk,aP hd,Rl];rcases h1 with ⟨fs,rfl⟩|⟨n,e,rfl⟩<;>rfl
  simp[execOp,Ya,f,Te,loadVar,j,cQ hi,hl]
 unfold ta at h;split at h
 ·rename_i t x;split at h
  ·rename_i fs hu;split at h
   ·rename_i inf hi;split at h
    ·rename_i p f;have hk:=fQ h;clear h;obtain⟨a,rfl,h⟩:=hk;cases M with
     |none=>obtain⟨u,h1,b⟩:=h;exact⟨_,λw hw=>many f hi ⟨_,hu,.inl ⟨_,rfl⟩⟩ w (by rw[show w.heap=H from hw];exact h1),b⟩
     |some G=>obtain⟨u,h1,b⟩:=h;exact⟨_,λw hw=>many f hi ⟨_,hu,.inl ⟨_,rfl⟩⟩ w (h1 _ hw),b⟩
    ·exact h.elim
   ·exact h.elim
  ·rename_i n e hu;split at h
   ·rename_i inf hi;split at h
    ·rename_i p f;have hk:=fQ h;clear h;obtain⟨a,rfl,h⟩:=hk;cases M with
     |none=>obtain⟨u,h1,b⟩:=h;exact⟨_,λw hw=>many f hi ⟨_,hu,.inr ⟨_,_,rfl⟩⟩ w (by rw[show w.heap=H from hw];exact h1),b⟩
     |some G=>obtain⟨u,h1,b⟩:=h;exact⟨_,λw hw=>many f hi ⟨_,hu,.inr ⟨_,_,rfl⟩⟩ w (h1 _ hw),b⟩
    ·exact h.elim
   ·exact h.elim
  ·rename_i d n1 n2 hu;split at h
   ·rename_i p f;have hk:=fQ h;clear h;obtain⟨a,rfl,h⟩:=hk;have hd:∃d,P.underlying t=some d/\(∀fs,d≠.struct fs)/\(∀n e,d≠.array n e):=⟨_,hu,λfs e=>n1 fs e,λn e A=>n2 n e A⟩;cases M with
    |none=>obtain⟨u,h1,b⟩:=h;exact⟨_,λw hw=>one f hd w (by rw[show w.heap=H from hw];exact h1),b⟩
    |some G=>obtain⟨u,h1,b⟩:=h;exact⟨_,λw hw=>one f hd w (h1 _ hw),b⟩
   ·exact h.elim
  ·exact h.elim
 ·rename_i args argTypes;split at h
  ·rename_i t x B f;split at h
   ·rename_i k e hu;split at h
    ·rename_i m hm;have run:∀(n:Nat) (w:gb),JR w.heap m n->(execOp ρ ⟨dst,.call ⟨.builtin .len,args,argTypes⟩,type,pos,after,guard⟩).run P w=.ok (.value (.int .i64 (n:Int))) w:=by
      intro n w l;have C:(args.map ρ)[0]?=some (.map m):=by rw[Array.getElem?_map,f,UJ,hm]
      have D:(Zm argTypes type (args.map ρ)).run P w=.ok (goInt n) w:=by
       unfold Zm;simp only[B,C];cases m with
       |none=>simp only[JR] at l;subst l;simp[aP hu]
       |some r=>
         obtain⟨es,clk,h1,b⟩:=l;simp[aP hu,run_getObj_map w r es clk h1,b]
      simp[execOp,resolve,invoke,builtin,D,goInt]
     cases M with
     |none=>obtain⟨n,h1,b⟩:=h;exact⟨_,λw hw=>run n w (by rw[show w.heap=H from hw];exact h1),b⟩
     |some G=>obtain⟨n,h1,b⟩:=h;exact⟨_,λw hw=>run n w (h1 _ hw),b⟩
    ·exact h.elim
   ·exact h.elim
  ·exact h.elim
 ·rename_i src g x;split at h
  ·rename_i e hs hd;split at h
   ·rename_i he;split at h
    ·rename_i a n c f;have run:∀(s:ByteArray) (w:gb),gh w.heap a n s->(execOp ρ ⟨dst,.convert src g x,type,pos,after,guard⟩).run P w=.ok (.value (.string s)) w:=by
      intro s w E;simp only[execOp,f,Rk,run_convert_bytes_string w src g e a n c hs he hd,yV E];rfl
     cases M with
     |none=>obtain⟨s,h1,b⟩:=h;exact⟨_,λw hw=>run s w (by rw[show w.heap=H from hw];exact h1),b⟩
     |some G=>obtain⟨s,h1,b⟩:=h;exact⟨_,λw hw=>run s w (h1 _ hw),b⟩
    ·exact h.elim
   ·exact h.elim
  ·exact h.elim
 ·rename_i t x F ok;cases M with
  |none=>obtain⟨u,h1,b⟩:=h;exact⟨_,λw hw=>by simp only[execOp,Rk,h1 w hw];rfl,b⟩
  |some G=>obtain⟨u,h1,b⟩:=h;exact⟨_,λw hw=>by simp only[execOp,Rk,h1 _ hw w rfl];rfl,b⟩
 ·rename_i op t x y I;cases M with
  |none=>
    obtain⟨u,h1,b⟩:=h;refine⟨_,λw hw=>?_,b⟩;have:=h1 w hw;simp only[execOp,Rk] at this ⊢;rw[this];rfl
  |some G=>
    obtain⟨u,h1,b⟩:=h;refine⟨_,λw hw=>?_,b⟩;have:=h1 _ hw w rfl;simp only[execOp,Rk] at this ⊢;rw[this];rfl
 ·exact h.elim
def c6 (P:hQ)(f:kc):Bool:=match P.funcs[f]? with|some fn=>fn.body.isSome|none=>false
def mY (P:hQ):Prop:=∀(f:kc) (fn:Func),P.funcs[f]?=some fn->(fn.name=="runtime.NumGoroutine")=false
def Dc (P:hQ)(el:ic)(len:Nat)(parts:List (Nat×gp)):Option (Array gp):=
 match P.info? el with
 |some inf=>(match inf.zero with
   |some z=>bif SF 16777216 (len*inf.size) then none else TF (λi=>some (i*inf.size,inf.size)) ((Y3 (len*inf.size)).map (z.cells[·%z.cells.size]!)) parts
   |none=>none)
 |none=>none
def aG (H:aa)(cells:Array gp)(t:ic)(K:hY->aa->Prop):Prop:=K ⟨H.size,0,none⟩ (H.push (.cells cells t))
def Hh (H:aa)(K:Nat->aa->Prop):Prop:=K H.size (H.push (.map #[] 0))
def cq (P:hQ)(l:Nat)(args:Array gp)(H:aa)(K:Bool->aa->Prop):Prop:=
 ∀w:gb,w.heap=H->qv P ((Yj l args).run P w) λv w'=>∃b,v=.bool b/\K b w'.heap/\Alike w w'
theorem cq.mono {P:hQ}{l:Nat}{args:Array gp}{H:aa}{K K':Bool->aa->Prop}(h:cq P l args H K)(hk:∀b H',K b H'->K' b H'):cq P l args H K':=
 λw hw=>iv (λ_ _ ⟨b,e,h1,a⟩=>⟨b,e,hk _ _ h1,a⟩) (h w hw)
def HR (P:hQ)(t:ic):Bool:=match P.underlying t with|some .bool=>true|_=>false
def py (g:kc)(args:Array gp):ik gp:=do match <-callFunc g args with|.value v=>pure v|_=>stuck "a call of a function without a body"
theorem Ah {P:hQ}{g:kc}{args:Array gp}{w w':gb}{v:gp}(h:(py g args).run P w=.ok v w'):(callFunc g args).run P w=.ok (.value v) w':=by
 unfold py at h;rw[Rk] at h;cases a:(callFunc g args).run P w with
 |halt x b=>rw[a] at h;cases h
 |ok n b=>
   rw[a] at h;simp only[Rl] at h;cases n<;>simp only at h<;>first|(rw[RN] at h;cases h;rfl)|cases h
def Bq (P:hQ)(t:ic)(n:String):Option kc:=
 match P.underlying t,P.info? t with
 |some (.pointer _),some inf=>(match inf.methods.find? (·.name==n) with
   |some m=>(match m.path.toList,m.func with|[],some (g,true)=>some g|_,_=>none)
   |none=>none)
 |_,_=>none
def wI (c:fg)(P:hQ)(n:String)(l:List gp)(H:aa)(K:c.α->aa->Prop):Prop:=
 match l with
 |.iface t v::r=>(match Bq P t n with
   |some g=>(bif c6 P g then ak c P g (v::r).toArray H K else False)
   |none=>False)
 |_=>False
theorem Cn {P:hQ}{t:ic}{n:String}{g:kc}(h:Bq P t n=some g)(v:gp)(w:gb):(method (P.types.size+XA) t v n).run P w=.ok (g,v) w:=by
 unfold Bq at h;split at h
 ·rename_i el inf hu hi;split at h
  ·rename_i m hm;split at h
   ·rename_i a b;cases h;have e:P.types.size+XA=(P.types.size+XA - 1)+1:=by
     have:0<XA:=by decide
     omega
    rw[e];unfold method;simp[typeInfo,hi,hm,a,b,follow,receiverAt,aP hu,Place.get]
   ·cases h
  ·cases h
 ·cases h
def Pp (c:fg)(P:hQ)(f:gp)(args:List gp)(H:aa)(K:c.α->aa->Prop):Prop:=
 match f with
 |.func (.func g) first cap=>(bif c6 P g then ak c P g ((first.toList++args)++cap.toList).toArray H K
   else bf c P (py g ((first.toList++args)++cap.toList).toArray) H K)
 |.func (.yield _) _ _=>False
 |.func (.method n) first _=>wI c P n (first.toList++args) H K
 |_=>False
def Au (P:hQ)(f:gp)(args:List gp)(H:aa)(K:Bool->aa->Prop):Prop:=
 match f with
 |.func (.func g) first cap=>(bif c6 P g then ak aC P g ((first.toList++args)++cap.toList).toArray H K
   else bf aC P (py g ((first.toList++args)++cap.toList).toArray) H K)
 |.func (.yield l) first _=>cq P l (first.toList++args).toArray H K
 |.func (.method n) first _=>wI aC P n (first.toList++args) H K
 |_=>False
def Cp (P:hQ)(op:Op)(ty:ic)(ρ:ka->gp)(H:aa)(K:gp->aa->Prop):Prop:=
 match op with
 |.store t x v=>(match P.underlying t with
   |some (.struct _)|some (.array _ _)=>jo P (Q3 t (ρ x) (ρ v)) H λH'=>K undef H'
   |some _=>(match P.info? t with
     |some inf=>(bif Rh inf.size 1 then (match ρ x with
       |.pointer p=>ae p λa=>st H a (ρ v) λH'=>K undef H'
       |_=>False) else False)
     |none=>False)
   |none=>False)
 |.alloc t=>(match (P.info? t).bind (·.zero) with
   |some _=>aG H (zc P t) t λa H'=>K (.pointer (some a)) H'
   |none=>False)
 |.box t x=>aG H (ρ x).cells t λa H'=>K (.pointer (some a)) H'
 |.buildSlice t len parts=>(match P.underlying t with
   |some (.slice el)=>(match AD P 5 el with
     |none=>bf aq P (R2 t len (parts.toList.map λq=>(q.1,ρ q.2)).toArray) H λu H'=>K u.v H'
     |some _=>(match Dc P el len (parts.toList.map λq=>(q.1,ρ q.2)) with
       |some cells=>aG H cells el λa H'=>K (.slice (some a) len len) H'
       |none=>False))
   |_=>False)
 |.makeSlice t l c=>bf aq P (Instr.makeSlice t (ρ l) (ρ c)) H λu H'=>K u.v H'
 |.makeMap _ none=>Hh H λr H'=>K (.map (some r)) H'
 |.makeMap t (some r)=>bf cd P (XS t (some (ρ r))) H λu H'=>K (.map u) H'
 |.mapUpdate t m k v=>jo P (SZ t (ρ m) (ρ k) (ρ v)) H λH'=>K undef H'
 |.insert t m k v=>jo P (SZ t (ρ m) (ρ k) (ρ v)) H λH'=>K undef H'
 |.mapEntry t m k=>bf (iC P ty) P (Instr.mapEntry t (ρ m) (ρ k)) H λu H'=>K ((iC P ty).enc u) H'
 |.entryStore t m s v=>jo P (Instr.entryStore t (ρ m) (ρ s) (ρ v)) H λH'=>K undef H'
 |.range t x=>bf aB P (Instr.range t (ρ x)) H λu H'=>K (.pointer u) H'
 |.next x b=>bf gM P (Instr.next (ρ x) b ty) H λu H'=>K (.tuple ⟨.bool u.1::u.2⟩) H'
 |.entry x=>bf pS P (Instr.entry (ρ x)) H λu H'=>K (.tuple ⟨[u.1,u.2]⟩) H'
 |.convert src dst x=>bf (iC P dst) P (convert src dst (ρ x)) H λu H'=>K ((iC P dst).enc u) H'
 |.call {callee:=.builtin b,args,argTypes}=>(match b with
   |.append=>bf aq P (QM argTypes ty (args.toList.map ρ).toArray) H λu H'=>K u.v H'
   |.copy=>bf (ab .i64) P (Wf argTypes ty (args.toList.map ρ).toArray) H λu H'=>K (.int .i64 u) H'
   |.delete=>bf gR P (Sj argTypes ty (args.toList.map ρ).toArray) H λu H'=>K u H'
   |.clear=>bf gR P (VY argTypes ty (args.toList.map ρ).toArray) H λu H'=>K u H'
   |_=>False)
 |.call {callee:=.value f,args,..}=>(match ρ f with
   |.func (.func g) first cap=>(bif c6 P g then ak (iC P ty) P g ((first.toList++args.toList.map ρ)++cap.toList).toArray H (λu H'=>K ((iC P ty).enc u) H')
     else bf (iC P ty) P (py g ((first.toList++args.toList.map ρ)++cap.toList).toArray) H (λu H'=>K ((iC P ty).enc u) H'))
   |.func (.yield l) first _=>(bif HR P ty then cq P l (first.toList++args.toList.map ρ).toArray H (λb H'=>K (.bool b) H') else False)
   |.func (.method n) first _=>wI (iC P ty) P n (first.toList++args.toList.map ρ) H (λu H'=>K ((iC P ty).enc u) H')
   |_=>False)
 |.call {callee:=.invoke r n,args,..}=>wI (iC P ty) P n (ρ r::args.toList.map ρ) H (λu H'=>K ((iC P ty).enc u) H')
 |_=>False
theorem cK {P:hQ}{s:ik gp}{w:gb}{K:gp->aa->Prop}{M:Option (aa->Prop)}{R:gp->gb->Prop}
  (h:Im P s w.heap K) (a:∀v w',Alike w w'->K v w'.heap->jn M w'.heap/\R v w'):
  qv P ((do pure (.value (<-s)):ik km).run P w) (λv w'=>jn M w'.heap/\R v w'):=by
 obtain⟨v,w',h1,b,c⟩:=h w rfl;simp only[Rk,h1,Rl,RN,qv];exact a _ _ c b
theorem ki {P:hQ}{s:ik Unit}{w:gb}{K:Unit->aa->Prop}{M:Option (aa->Prop)}{R:gp->gb->Prop}
  (h:Im P s w.heap K) (a:∀w',Alike w w'->K () w'.heap->jn M w'.heap/\R undef w'):
  qv P ((do s;pure .skip:ik km).run P w) (λv w'=>jn M w'.heap/\R v w'):=by
 obtain⟨v,w',h1,b,c⟩:=h w rfl;simp only[Rk,h1,Rl,RN,qv];exact a _ c b
theorem wc {P:hQ}(f:mY P){c:fg}{n:String}{l:List gp}{cap:Array gp}{w:gb}{K:c.α->aa->Prop}{Q:gp->gb->Prop}(h:wI c P n l w.heap K)(i:∀x w',Alike w w'->K x w'.heap->Q (c.enc x) w'):qv P ((invoke (.fn (.method n) cap) l.toArray).run P w) Q:=by
 unfold wI at h;split at h
 ·rename_i t v r;split at h
  ·rename_i g hm;cases a:c6 P g with
   |false=>rw[a] at h;exact h.elim
   |true=>
     rw[a] at h;simp only[cond_true] at h;unfold c6 at a;split at a
     ·rename_i fn b;obtain⟨body,j⟩:=TC.1 a;have h1:fn.name≠"runtime.NumGoroutine":=by simpa using f _ _ b
      have d:(invoke (.fn (.method n) cap) (.iface t v::r).toArray).run P w=.ok (.enter g (v::r).toArray) w:=by
       simp[invoke,callMethod,Cn hm,callFunc,b,h1,j]
      rw[d];simp only[qv];refine(h w rfl).mono λe w' ⟨v,he,⟨x,k,hk⟩,m⟩=>⟨v,he,?_⟩;subst k;exact i _ _ m hk
     ·cases a
  ·exact h.elim
 ·exact h.elim
theorem xL {P:hQ}(C:mY P){o:hV}{ρ:ka->gp}{M:Option (aa->Prop)}{w:gb}{K:gp->aa->Prop}{R:gp->gb->Prop}
  (s:∀v w',Alike w w'->K v w'.heap->jn M w'.heap/\R v w')
  (h:Cp P o.op o.type ρ w.heap K):qv P ((execOp ρ o).run P w) (λv w'=>jn M w'.heap/\R v w'):=by
 obtain⟨dst,op,type,pos,after,guard⟩:=o;simp only at h;have k:∀{c:fg} {f:c.α->gp},(∀x,f x=c.enc x)->∀v w',Alike w w'->(∃x:c.α,v=c.enc x/\K (f x) w'.heap)->jn M w'.heap/\R v w':=by
  rintro c f A v w' h1 ⟨x,rfl,m⟩;rw[A] at m;exact s _ _ h1 m
 unfold Cp at h;split at h
 ·rename_i t x v;split at h
  ·exact ki h (λw' h1 m=>s _ _ h1 m)
  ·exact ki h (λw' h1 m=>s _ _ h1 m)
  ·rename_i d n1 n2 hu;split at h
   ·rename_i inf hi;cases hs:Rh inf.size 1 with
    |true=>
      rw[hs] at h;simp only[cond_true] at h;split at h
      ·rename_i p N;obtain⟨a,rfl,h1,⟨u,m⟩,O,S⟩:=fQ h;have B:w.cell? a=some u:=m;have A:w.frozen? a=false:=O;have D:(ρ v).cells=#[ρ v]:=by
        generalize ρ v=T at*;cases T<;>first|rfl|exact Wd h1
       have hp:(ρ v).oneCell'=true:=by
        generalize ρ v=T at*;cases T<;>first|rfl|exact Wd h1
       have U:inf.size=1:=Q0 hs;have j:(Q3 t (ρ x) (ρ v)).run P w=.ok () (w.setCell a (ρ v)):=by
        simp[Q3,N,Te,storeVar,cQ hi,U,D,storeCells,Addr.add,run_store P w a (ρ v) .plain hp,B,A]
       simp only[execOp,Rk,j,Rl,RN,qv];exact s _ (w.setCell a (ρ v)) (.of_le rfl (QN _)) S
      ·exact h.elim
    |false=>rw[hs] at h;exact h.elim
   ·exact h.elim
  ·exact h.elim
 ·rename_i t;split at h
  ·rename_i z J;obtain⟨inf,hi,V⟩:=Option.bind_eq_some_iff.1 J;have e:zc P t=z.cells:=by unfold zc;rw[J]
   have j:(Zw t true (.tuple #[])).run P w=.ok (.pointer (some ⟨w.heap.size,0,none⟩)) {w with heap:=w.heap.push (.cells (zc P t) t)}:=by
    rw[e];simp[Zw,zeroValue,typeInfo,hi,V,newVar,newRow]
   simp only[execOp,Rk,j,Rl,RN,qv];exact s _ {w with heap:=w.heap.push (.cells (zc P t) t)} (.of_le rfl (QN _)) h
  ·exact h.elim
 ·rename_i t x;have j:(Z4 t (ρ x)).run P w=.ok (.pointer (some ⟨w.heap.size,0,none⟩)) {w with heap:=w.heap.push (.cells (ρ x).cells t)}:=by
   simp[Z4,newVar,newRow]
  simp only[execOp,Rk,j,Rl,RN,qv];exact s _ {w with heap:=w.heap.push (.cells (ρ x).cells t)} (.of_le rfl (QN _)) h
 ·rename_i t len parts;split at h
  ·rename_i el hu;split at h
   ·have e:(parts.toList.map λq=>(q.1,ρ q.2)).toArray=parts.map λ(i,x)=>(i,ρ x):=by apply U0;simp
    rw[e] at h;exact cK h (k (λ_=>rfl))
   split at h
   ·rename_i cells y;unfold Dc at y;split at y
    ·rename_i inf hi;split at y
     ·rename_i z J;have j:(R2 t len (parts.map λ(i,x)=>(i,ρ x))).run P w=.ok (.slice (some ⟨w.heap.size,0,none⟩) len len) {w with heap:=w.heap.push (.cells cells el)}:=by
       have hl:(parts.map λ(i,x)=>(i,ρ x)).toList=parts.toList.map λq=>(q.1,ρ q.2):=by simp
       have E:SF 16777216 (len*inf.size)=false:=by
        cases W:SF 16777216 (len*inf.size) with
        |false=>rfl
        |true=>rw[W] at y;cases y
       rw[E] at y;simp only[cond_false] at y;have F:¬(len*inf.size>2^24):=by
        intro h9;have:SF 16777216 (len*inf.size)=true:=Yk (by omega);rw[E] at this;cases this
       have Z:∀f:Nat->gp,(Y3 0).map f=#[]:=λf=>Array.eq_empty_of_size_eq_zero (by simp);by_cases X:len*inf.size=0
       ·have Y:TF (λi=>some (i*inf.size,inf.size)) #[] (parts.toList.map λq=>(q.1,ρ q.2))=some cells:=by
         rw[X,Z] at y;exact y
        simp[R2,aP hu,cQ hi,X,Z,Y,newRow]
       ·simp[R2,aP hu,cQ hi,F,X,zeroValue,typeInfo,hi,J,y,newRow]
      simp only[execOp,Rk,j,Rl,RN,qv];exact s _ {w with heap:=w.heap.push (.cells cells el)} (.of_le rfl (QN _)) h
     ·cases y
    ·cases y
   ·exact h.elim
  ·exact h.elim
 ·rename_i t l c;exact cK h (k (λ_=>rfl))
 ·rename_i t;have j:(XS t none).run P w=.ok (.map (some w.heap.size)) {w with heap:=w.heap.push (.map #[] 0)}:=by
   simp[XS]
  simp only[execOp,WX,Rk,j,Rl,RN,qv];exact s _ {w with heap:=w.heap.push (.map #[] 0)} (.of_le rfl (QN _)) h
 ·exact cK h (k (λ_=>rfl))
 ·exact ki h (λw' h1 m=>s _ _ h1 m)
 ·exact ki h (λw' h1 m=>s _ _ h1 m)
 ·exact cK h (k (λ_=>rfl))
 ·exact ki h (λw' h1 m=>s _ _ h1 m)
 ·exact cK h (k (λ_=>rfl))
 ·exact cK h (k (c:=gM) (λ_=>rfl))
 ·exact cK h (k (c:=pS) (λ_=>rfl))
 ·exact cK h (k (λ_=>rfl))
 ·rename_i b args argTypes;have em:(args.toList.map ρ).toArray=args.map ρ:=by apply U0;simp
  rw[em] at h;split at h
  ·exact cK h (k (λ_=>rfl))
  ·exact cK h (k (λ_=>rfl))
  ·exact cK h (k (c:=gR) (λ_=>rfl))
  ·exact cK h (k (c:=gR) (λ_=>rfl))
  ·exact h.elim
 ·rename_i f args argTypes;split at h
  ·rename_i g first cap A
   cases B:c6 P g with
   |true=>
     rw[B] at h;simp only[cond_true] at h;unfold c6 at B;split at B
     ·rename_i fn G;obtain⟨body,y⟩:=TC.1 B;have j:(callFunc g ((first++args.map ρ)++cap)).run P w=.ok (.enter g ((first++args.map ρ)++cap)) w:=by
       have h1:fn.name≠"runtime.NumGoroutine":=by simpa using C _ _ G
       simp[callFunc,G,h1,y]
      have e:((first.toList++args.toList.map ρ)++cap.toList).toArray=(first++args.map ρ)++cap:=by
       apply U0;simp
      rw[e] at h;simp only[execOp,resolve,A,Ud,pure_bind,invoke];rw[j];simp only[qv];refine(h w rfl).mono λe w' ⟨v,he,⟨x,N,hk⟩,H⟩=>⟨v,he,?_⟩;subst N;exact s _ _ H hk
     ·cases B
   |false=>
     rw[B] at h;simp only[cond_false] at h;have e:((first.toList++args.toList.map ρ)++cap.toList).toArray=(first++args.map ρ)++cap:=by
      apply U0;simp
     rw[e] at h;obtain⟨v,w',h1,⟨x,m,O⟩,S⟩:=h w rfl;have h5:=Ah h1;simp only[execOp,resolve,A,Ud,pure_bind,invoke];rw[h5];simp only[qv];subst m;exact s _ _ S O
  ·rename_i l first cap A
   cases I:HR P type with
   |false=>rw[I] at h;exact h.elim
   |true=>
   rw[I] at h;simp only[cond_true] at h;have e:(first.toList++args.toList.map ρ).toArray=first++args.map ρ:=by apply U0;simp
   rw[e] at h;simp only[execOp,resolve,A,Ud,pure_bind,invoke];refine iv ?_ (h w rfl);rintro v w' ⟨b,rfl,h1,m⟩;exact s _ _ m h1
  ·rename_i n first cap A
   have e:(first.toList++args.toList.map ρ).toArray=first++args.map ρ:=by apply U0;simp
   simp only[execOp,resolve,A,Ud,pure_bind];rw[<-e];exact wc C h λx w' H hk=>s _ _ H hk
  ·exact h.elim
 ·rename_i r n args argTypes;have e:#[ρ r]++args.map ρ=(ρ r::args.toList.map ρ).toArray:=by apply U0;simp
  simp only[execOp,resolve,pure_bind];rw[e];exact wc C h λx w' H hk=>s _ _ H hk
 ·exact h.elim
section
variable {P:hQ}{M:Option (aa->Prop)}{L:List Nat}{ops:Array hV}{Q:kl->gx->gb->Prop}
def iH (P:hQ)(L:List Nat)(o:hV):Bool:=dL P L o==0||dL P L o==1
def Fi (ops:Array hV)(i:Nat)(t:hV->Bool):Bool:=match ops[i]? with|some o=>t o|none=>false
theorem iw {i:Nat}{t:hV->Bool}{o:hV}(h:Fi ops i t=true)(a:ops[i]?=some o):t o=true:=by
 unfold Fi at h;rw[a] at h;exact h
def uV (P:hQ)(L:List Nat)(ops:Array hV)(f c:Nat)(B:List Nat):Bool:=
 decide (f<c)&&decide (c<ops.size)&&waits B c f&&
 (RI ops.size).all λj=>Fi ops j λoj=>
  (oj.after.all λe=>!Sq .any e||decide (e.on<j))&&
  ((RI j).all λi=>i==f||j==f||Fi ops i (λoi=>c7 P L true ops oi oj||waits B j i))&&
  Fi ops f (λof=>(bif SF j f then c7 P L true ops oj of||waits B f j else
   bif Rh j f then true else
   bif SF j c then !(waits B j f)&&(!(iH P L oj)||(c7 P L true ops of oj&&c7 P L true ops oj of))
   else (waits B j f||c7 P L true ops of oj)))
structure HM (P:hQ)(L:List Nat)(ops:Array hV)(f c:Nat):Prop where
 fc:f<c
 cn:c<ops.size
 wait:waits (dF ops.toList []) c f=true
 lt:∀j oj,ops[j]?=some oj->∀e∈oj.after,Sq .any e=true->e.on<j
 pair:∀i j oi oj,ops[i]?=some oi->ops[j]?=some oj->i<j->i≠f->j≠f->c7 P L true ops oi oj=true\/waits (dF ops.toList []) j i=true
 below:∀i oi of,ops[i]?=some oi->ops[f]?=some of->i<f->c7 P L true ops oi of=true\/waits (dF ops.toList []) f i=true
 mid:∀i oi of,ops[i]?=some oi->ops[f]?=some of->f<i->i<c->waits (dF ops.toList []) i f=false/\(iH P L oi=true->c7 P L true ops of oi=true/\c7 P L true ops oi of=true)
 above:∀i oi of,ops[i]?=some oi->ops[f]?=some of->c<=i->waits (dF ops.toList []) i f=true\/c7 P L true ops of oi=true
theorem se {f c:Nat}(h:uV P L ops f c (dF ops.toList [])=true):HM P L ops f c:=by
 unfold uV at h;simp only[QY,decide_eq_true_eq] at h;obtain⟨⟨⟨h1,o⟩,p⟩,r⟩:=h;have key:∀j oj,ops[j]?=some oj->_:=λj oj b=>by
  have a:j<ops.size:=(QR.1 b).1;exact iw (R6.1 r j (Rs.2 a)) b
 simp only[QY] at key;refine⟨h1,o,p,?_,?_,?_,?_,?_⟩
 ·intro j oj b e he d;have:=WK.1 (key j oj b).1.1 e he;simpa[d] using this
 ·intro i j oi oj hi b k l m;have:=R6.1 (key j oj b).1.2 i (Rs.2 k);simp only[Sc,beq_iff_eq] at this;rcases this with (q|q)|q
  ·exact absurd q l
  ·exact absurd q m
  ·have:=iw q hi;simpa[Sc] using this
 ·intro i oi of hi g a;have:=iw (key i oi hi).2 g;rw[gK.2 a] at this;simpa[Sc] using this
 ·intro i oi of hi g s n;have:=iw (key i oi hi).2 g;rw[zo (by omega:¬i<f),gK.2 n] at this;have d:Rh i f=false:=by
   cases q:Rh i f with
   |false=>rfl
   |true=>have:=Q0 q;omega
  rw[d] at this;simp only[cond_false,cond_true,QY,Sc,R7] at this;refine⟨this.1,λt=>?_⟩;rcases this.2 with q|q
  ·rw[t] at q;cases q
  ·exact q
 ·intro i oi of hi g u;have:=iw (key i oi hi).2 g;rw[zo (by omega:¬i<f),zo (by omega:¬i<c)] at this;have d:Rh i f=false:=by
   cases q:Rh i f with
   |false=>rfl
   |true=>have:=Q0 q;omega
  rw[d] at this;simpa[Sc] using this
theorem BO {m:Bool}{x y:hV}(h:c7 P L m ops x y=true):iH P L x=true\/iH P L y=true:=by
 obtain⟨_,a,_⟩:=oO h;unfold iH;rcases a with q|q|⟨q,_⟩|⟨_,q|q⟩
 ·left;simp[q]
 ·right;simp[q]
 ·left;simp[q]
 ·left;simp[q]
 ·right;simp[q]
theorem iy {K:gx->gb->Prop}{j:Nat}(f:M.isSome=true):∀(b c:List Nat),(∀i∈b,∃oi oj,ops[i]?=some oi/\ops[j]?=some oj/\c7 P L true ops oi oj=true)->
  ∀a w,fG P M ops.size L ops K (b++j::c) a w->ca P M ops.size L ops j (fG P M ops.size L ops K (b++c)) a w
 |[],c,_,a,w,h=>h
 |i::b,c,g,a,w,h=>by
   have h1:ca P M ops.size L ops i (ca P M ops.size L ops j (fG P M ops.size L ops K (b++c))) a w:=dx (iy f b c (λk hk=>g k (Q8 _ hk))) h;obtain⟨oi,oj,hi,l,d⟩:=g i Q9;have n:qt M ops.size i=M:=by unfold qt;rw[gK.2 (QR.1 hi).1];rfl
   have o:qt M ops.size j=M:=by unfold qt;rw[gK.2 (QR.1 l).1];rfl
   have e:∀K',ca P M ops.size L ops i K'=fW P M L ops oi K':=λK'=>by funext a w;simp only[ca,hi,n]
   have m:∀K',ca P M ops.size L ops j K'=fW P M L ops oj K':=λK'=>by funext a w;simp only[ca,l,o]
   rw[e,m] at h1;have p:=qN d (λ_=>⟨rfl,f⟩) h1;simp only[TU,fG];rw[e,m];exact p
theorem sY {rn:Option Nat}{fuel j:Nat}{listed:Array Bool}{a:gx}{w:gb}{X:gx->gb->Prop}{oj:hV}(b:ops[j]?=some oj)(c:jn M w.heap)
  (h:ca P M ops.size L ops j X a w) (go:∀d w',jn M w'.heap->X d w'->wpAnyIn (FW rn) 0 P .any ops Q fuel (listed.setIfInBounds j true) d w'):
  wpOpIn (FW rn) 0 P ops Q j (λa w=>wpAnyIn (FW rn) 0 P .any ops Q fuel (listed.setIfInBounds j true) a w) a w:=by
 have f:qt M ops.size j=M:=by unfold qt;rw[gK.2 (QR.1 b).1];rfl
 have g:ca P M ops.size L ops j (λa w=>jn M w.heap/\X a w) a w:=by
  unfold ca at h ⊢;rw[b] at h ⊢;exact qL c (.inr (.inr f)) h
 exact kF (λ_ _ _ _=>c) (dx (λd w' e=>go d w' e.1 e.2) g)
theorem wpAny_first {rn:Option Nat}{fuel:Nat}{listed:Array Bool}{a:gx}{w:gb}(hs:listed.size=ops.size)(hl:(aT ops listed).length=fuel+1)(p:∀j oj,ops[j]?=some oj->∀e∈oj.after,Sq .any e=true->e.on<j)
  (h:∀j oj,ops[j]?=some oj->listed.getD j true=false->(∀e∈oj.after,Sq .any e=true->listed.getD e.on false=true)->wpOpIn (FW rn) 0 P ops Q j (λa w=>wpAnyIn (FW rn) 0 P .any ops Q fuel (listed.setIfInBounds j true) a w) a w):
  wpAnyIn (FW rn) 0 P .any ops Q (fuel+1) listed a w:=by
 refine⟨λs=>?_,λj t=>?_⟩
 ·exfalso;cases o:aT ops listed with
  |nil=>rw[o] at hl;simp at hl
  |cons m rest=>
    have hm:m∈aT ops listed:=by rw[o];exact Q9
    have g:∀i,i<m->listed.getD i false=true:=by
     intro i hi;obtain⟨d,k⟩:=Rp.1 hm;have c:=Rs.1 d;cases f:listed.getD i true with
     |true=>
       have:i<listed.size:=by omega
       simp[this] at f ⊢;exact f
     |false=>
       have l:i∈aT ops listed:=Rp.2 ⟨Rs.2 (by omega),by simp[f]⟩;rw[o] at l;have b:(aT ops listed).Pairwise (·<·):=WV _ WD;rw[o,R0] at b;rcases QX.1 l with e|e
       ·omega
       ·have:=b.1 i e;omega
    obtain⟨d,k⟩:=Rp.1 hm;have c:=Rs.1 d;have r:ops[m]?=some ops[m]:=Rn c;have:m∈Zl .any ops listed:=mem_ready.2 ⟨by simpa using k,_,r,λe he u=>g _ (p m _ r e he u)⟩;rw[s] at this;cases this
 ·obtain⟨hu,oj,q,n⟩:=mem_ready.1 t;exact h j oj q hu n
def lQ (listed:Array Bool)(l:List Nat):List Nat:=l.filter λi=>!listed.getD i true
theorem qy {listed:Array Bool}{j:Nat}{l:List Nat}(c:∀i∈l,i<listed.size):lQ (listed.setIfInBounds j true) l=(l.filter λi=>!listed.getD i true&&decide (i≠j)):=by
 unfold lQ;refine Sx λi hi=>?_;have b:=c i hi;by_cases a:i=j
 ·subst a;simp[b]
 ·rw[getD_set_ne true (Sg a)];simp[a]
def j7 (n f:Nat):List Nat:=(RI n).filter λi=>!Rh i f
def iF (P:hQ)(L:List Nat)(ops:Array hV)(f c i:Nat):Bool:=VD c i||(SF f i&&Fi ops i λo=>!(iH P L o))
def jN (P:hQ)(M:Option (aa->Prop))(L:List Nat)(ops:Array hV)(f c:Nat)(K:gx->gb->Prop):List Nat->gx->gb->Prop
 |[]=>fG P M ops.size L ops K [f]
 |i::l=>bif VD c i then fG P M ops.size L ops K (f::i::l) else
   bif iF P L ops f c i then λa w=>fG P M ops.size L ops K (f::i::l) a w/\ca P M ops.size L ops i (jN P M L ops f c K l) a w
   else ca P M ops.size L ops i (jN P M L ops f c K l)
theorem zP {i k:Nat}:VD i k=true↔i<=k:=⟨UK,Yk⟩
theorem ED {f c:Nat}{K:gx->gb->Prop}{l:List Nat}(h:∀i∈l,c<=i):jN P M L ops f c K l=fG P M ops.size L ops K (f::l):=by
 cases l with
 |nil=>rfl
 |cons i l=>
   show (bif VD c i then _ else _)=_;rw[zP.2 (h i Q9)];rfl
theorem DL {i:Nat}{oi:hV}{K:gx->gb->Prop}{a:gx}{w:gb}(hi:ops[i]?=some oi)(b:jn M w.heap)(h:ca P M ops.size L ops i K a w):ca P M ops.size L ops i (λa w=>jn M w.heap/\K a w) a w:=by
 have c:qt M ops.size i=M:=by unfold qt;rw[gK.2 (QR.1 hi).1];rfl
 unfold ca at h ⊢;rw[hi] at h ⊢;exact qL b (.inr (.inr c)) h
theorem oL {i j:Nat}{oi oj:hV}(f:M.isSome=true)(hi:ops[i]?=some oi)(c:ops[j]?=some oj)(b:c7 P L true ops oi oj=true){K:gx->gb->Prop}{a:gx}{w:gb}
  (h:ca P M ops.size L ops i (ca P M ops.size L ops j K) a w):ca P M ops.size L ops j (ca P M ops.size L ops i K) a w:=by
 have g:qt M ops.size i=M:=by unfold qt;rw[gK.2 (QR.1 hi).1];rfl
 have k:qt M ops.size j=M:=by unfold qt;rw[gK.2 (QR.1 c).1];rfl
 have e:∀K',ca P M ops.size L ops i K'=fW P M L ops oi K':=λK'=>by funext a w;simp only[ca,hi,g]
 have d:∀K',ca P M ops.size L ops j K'=fW P M L ops oj K':=λK'=>by funext a w;simp only[ca,c,k]
 rw[e,d] at h;rw[d,e];exact qN b (λ_=>⟨rfl,f⟩) h
theorem Hm {j:Nat}{oj:hV}(h:ops[j]?=some oj)(e:iH P L oj=true){A B:gx->gb->Prop}{a:gx}{w:gb}(c:jn M w.heap)(h1:ca P M ops.size L ops j A a w)(b:ca P M ops.size L ops j B a w):
  ca P M ops.size L ops j (λa w=>A a w/\B a w) a w:=by
 have i:qt M ops.size j=M:=by unfold qt;rw[gK.2 (QR.1 h).1];rfl
 unfold ca at*;rw[h] at*;simp only[i] at*;unfold fW at*;split
 ·rename_i hw;rw[if_pos hw] at h1 b;unfold iH at e;simp only[Sc,beq_iff_eq] at e;rcases e with q|q
  ·rw[q] at h1 b ⊢;obtain⟨v1,d,f⟩:=h1;obtain⟨v2,r2,g⟩:=b;have:=(d w).symm.trans (r2 w);cases this;exact⟨v1,d,f,g⟩
  ·rw[q] at h1 b ⊢;obtain⟨v1,d,f⟩:=h1;obtain⟨v2,r2,g⟩:=b;have:=(d w (tU c)).symm.trans (r2 w (tU c));cases this;exact⟨v1,d,f,g⟩
 ·rename_i hw;rw[if_neg hw] at h1 b;exact⟨h1,b⟩
theorem um {f c i:Nat}{oi:hV}(hi:ops[i]?=some oi):iF P L ops f c i=true↔c<=i\/(f<i/\iH P L oi=false):=by
 unfold iF Fi;rw[hi];simp only[Sc,QY,R7];rw[zP,gK]
theorem zQ {f c:Nat}{K:gx->gb->Prop}:∀(l:List Nat) (a:gx) (w:gb),jN P M L ops f c K l a w->fG P M ops.size L ops K ((l.takeWhile λi=>!iF P L ops f c i)++f::l.dropWhile λi=>!iF P L ops f c i) a w
 |[],a,w,h=>h
 |i::l,a,w,h=>by
   unfold jN at h;cases b:VD c i with
   |true=>
     rw[b] at h;have hs:iF P L ops f c i=true:=by unfold iF;rw[b];rfl
     simp only[Xg,Xh,hs];exact h
   |false=>
     rw[b] at h;cases hs:iF P L ops f c i with
     |true=>
       rw[hs] at h;simp only[Xg,Xh,hs];exact h.1
     |false=>
       rw[hs] at h;simp only[Xg,Xh,hs];exact dx (zQ l) h
theorem tY {f c j:Nat}{of oj:hV}{K:gx->gb->Prop}(p:M.isSome=true)(s:ops[f]?=some of)(n:ops[j]?=some oj)(o:(f<j->j<c->iH P L oj=true)->c7 P L true ops of oj=true\/j<f)(l:c<=j->c7 P L true ops of oj=true):
  ∀(d b:List Nat),(∀i∈d,i<j/\∃oi,ops[i]?=some oi/\c7 P L true ops oi oj=true/\(iH P L oj=true\/iH P L oi=true))->(∀i∈b,j<i)->(c<=j->True)->
  ∀a w,jn M w.heap->jN P M L ops f c K (d++j::b) a w->ca P M ops.size L ops j (jN P M L ops f c K (d++b)) a w
 |[],b,_,t,_,a,w,m,h=>by
   simp only[SY] at h ⊢;unfold jN at h;cases g:VD c j with
   |true=>
     rw[g] at h;have e:=zP.1 g;rw[ED λi hi=>QZ e (Nat.le_of_lt (t i hi))];exact iy p [f] b (λi hi=>by rw[Q1] at hi;subst hi;exact⟨of,oj,s,n,l e⟩) a w h
   |false=>
     rw[g] at h;cases hs:iF P L ops f c j with
     |true=>rw[hs] at h;exact h.2
     |false=>rw[hs] at h;exact h
 |i::d,b,h1,t,D,a,w,m,h=>by
   obtain⟨E,oi,hi,u,v⟩:=h1 i Q9;have x:=λk hk=>h1 k (Q8 _ hk);simp only[TU] at h ⊢;unfold jN at h;rw[show jN P M L ops f c K (i::(d++b))=(bif VD c i then fG P M ops.size L ops K (f::i::(d++b)) else
    bif iF P L ops f c i then λa w=>fG P M ops.size L ops K (f::i::(d++b)) a w/\ca P M ops.size L ops i (jN P M L ops f c K (d++b)) a w
    else ca P M ops.size L ops i (jN P M L ops f c K (d++b))) from rfl]
   have inner:ca P M ops.size L ops i (jN P M L ops f c K (d++j::b)) a w->ca P M ops.size L ops j (ca P M ops.size L ops i (jN P M L ops f c K (d++b))) a w:=λy=>
    oL p hi n u (dx (λF w' hk=>tY p s n o l d b x t D F w' hk.1 hk.2) (DL hi m y))
   have front:c7 P L true ops of oj=true->fG P M ops.size L ops K (f::i::(d++j::b)) a w->ca P M ops.size L ops j (fG P M ops.size L ops K (f::i::(d++b))) a w:=λG y=>
    iy p (f::i::d) b (λk hk=>by
     rcases QX.1 hk with q|q
     ·subst q;exact⟨of,oj,s,n,G⟩
     ·obtain⟨_,ok,z,A,_⟩:=h1 k q;exact⟨ok,oj,z,n,A⟩) a w y
   cases g:VD c i with
   |true=>
     rw[g] at h;exact front (l (by have:=zP.1 g;omega)) h
   |false=>
     rw[g] at h;cases hs:iF P L ops f c i with
     |false=>
       rw[hs] at h;exact inner h
     |true=>
       rw[hs] at h;have B:¬c<=i:=λq=>by rw[zP.2 q] at g;cases g
       rcases (um hi).1 hs with q|⟨I,H⟩
       ·exact absurd q B
       ·have e:iH P L oj=true:=by
         rcases v with r|r
         ·exact r
         ·rw[H] at r;cases r
        have C:c7 P L true ops of oj=true:=by
         rcases o (λ_ _=>e) with r|r
         ·exact r
         ·omega
        exact Hm n e m (front C h.1) (inner h.2)
theorem GY {rn:Option Nat}{f c:Nat}(hM:M.isSome=true)(y:HM P L ops f c):∀(fuel:Nat) (listed:Array Bool) (a:gx) (w:gb),jn M w.heap->listed.size=ops.size->rz ops listed->(aT ops listed).length=fuel->
  (listed.getD f true=true->fG P M ops.size L ops (λa w=>Q .normal a w) (aT ops listed) a w)->
  (listed.getD f true=false->jN P M L ops f c (λa w=>Q .normal a w) (lQ listed (j7 ops.size f)) a w)->
  wpAnyIn (FW rn) 0 P .any ops Q fuel listed a w:=by
 intro fuel
 induction fuel with
 |zero=>
   intro listed a w K hs hc hl h _;have h0:aT ops listed=[]:=Vq.1 hl;have hf:listed.getD f true=true:=by
    cases q:listed.getD f true with
    |true=>rfl
    |false=>
      have:f∈aT ops listed:=Rp.2 ⟨Rs.2 (WY y.fc y.cn),by simp[q]⟩;rw[h0] at this;cases this
   refine⟨?_,by have:=h hf;rw[h0] at this;exact this⟩;rw[VE];intro j hj;obtain⟨hu,o,ho,_⟩:=mem_ready.1 hj;have D:j<ops.size:=(QR.1 ho).1;have:j∈aT ops listed:=Rp.2 ⟨Rs.2 D,by simp[hu]⟩;rw[h0] at this;cases this
 |succ fuel ih=>
   intro listed a w K hs hc hl h hn;refine wpAny_first hs hl y.lt λj oj b hu E=>?_;have D:j<ops.size:=(QR.1 b).1;have N:f<ops.size:=WY y.fc y.cn;have F:ops[f]?=some ops[f]:=Rn N;have n:∀i,listed.getD i true=false->i<ops.size->waits (dF ops.toList []) j i=false:=by
    intro i d v;cases z:waits (dF ops.toList []) j i with
    |false=>rfl
    |true=>
      have h4:=kX hc y.lt j i oj b E z;have:i<listed.size:=by omega
      simp[this] at d h4;rw[d] at h4;cases h4
   have g:rz ops (listed.setIfInBounds j true):=by
    intro q ok x O e he hb;by_cases R:j=q
    ·subst R;have:ok=oj:=Rc (x.symm.trans b);subst this;exact getD_set_true (E e he hb)
    ·rw[getD_set_ne false R] at O;exact getD_set_true (hc q ok x O e he hb)
   obtain⟨l1,l2,e1,e2,e3⟩:=iN (λi=>!listed.getD i true) j (by simp[hu]) ops.size D;have S:aT ops listed=l1++j::l2:=e1;have e4:aT ops (listed.setIfInBounds j true)=l1++l2:=by
    rw[<-e3];exact qy λi hi=>by rw[hs];exact Rs.1 hi
   have hlen:(aT ops (listed.setIfInBounds j true)).length=fuel:=by
    rw[e4];rw[S] at hl;simp only[Ri,Rr] at hl ⊢;omega
   have T:(listed.setIfInBounds j true).getD j true=true:=by
    have:j<listed.size:=by omega
    simp[this]
   have cm:∀i,i<j->listed.getD i true=false->i≠f->j≠f->∃oi,ops[i]?=some oi/\c7 P L true ops oi oj=true:=by
    intro i t d af k;have v:i<ops.size:=by omega
    have u:ops[i]?=some ops[i]:=Rn v;refine⟨ops[i],u,?_⟩;rcases y.pair i j _ _ u b t af k with z|z
    ·exact z
    ·rw[n i d v] at z;cases z
   cases m:listed.getD f true with
   |true=>
     have k:j≠f:=by rintro rfl;rw[hu] at m;cases m
     have H:=h m;rw[S] at H;have I:=iy hM l1 l2 (λi hi=>by
      obtain⟨t,d⟩:=e2 i hi;have A:listed.getD i true=false:=by simpa using d
      obtain⟨oi,U,J⟩:=cm i t A (by rintro rfl;rw[m] at A;cases A) k;exact⟨oi,oj,U,b,J⟩) a w H
     refine sY b K I λV w' B hk=>ih _ V w' B (by simp[hs]) g hlen (λ_=>by rw[e4];exact hk) (λx=>?_);rw[getD_set_ne true k] at x;rw[m] at x;cases x
   |false=>
     have H:=hn m;by_cases k:j=f
     ·subst k;have h1:=zQ _ a w H;have W:∀i∈(lQ listed (j7 ops.size j)).takeWhile (λi=>!iF P L ops j c i),i<ops.size/\i≠j/\listed.getD i true=false/\iF P L ops j c i=false:=by
       intro i hi;have U:=R6.1 (List.all_takeWhile (p:=λi=>!iF P L ops j c i) (l:=lQ listed (j7 ops.size j))) i hi;have J:=(List.takeWhile_sublist _).mem hi;obtain⟨q3,q4⟩:=Rp.1 J;obtain⟨q5,q6⟩:=Rp.1 q3;refine⟨Rs.1 q5,?_,by simpa using q4,by simpa using U⟩;rintro rfl;simp at q6
      have I:=iy hM _ _ (λi hi=>by
       obtain⟨v,t,d,X⟩:=W i hi;have u:ops[i]?=some ops[i]:=Rn v;have al:¬(c<=i\/(j<i/\iH P L ops[i]=false)):=λq=>by
        rw[(um u).2 q] at X;cases X
       refine⟨ops[i],oj,u,b,?_⟩;rcases RA i j with q|q
       ·rcases y.below i _ _ u b q with z|z
        ·exact z
        ·rw[n i d v] at z;cases z
       ·have Y:j<i:=by omega
        refine((y.mid i _ _ u b Y (by omega)).2 ?_).2;cases an:iH P L ops[i] with
        |true=>rfl
        |false=>exact absurd (.inr ⟨Y,an⟩) al) a w h1
      rw[List.takeWhile_append_dropWhile] at I;refine sY b K I λV w' B hk=>ih _ V w' B (by simp[hs]) g hlen (λ_=>?_) (λx=>?_)
      ·have e5:aT ops (listed.setIfInBounds j true)=(RI ops.size).filter λi=>!listed.getD i true&&decide (i≠j):=qy λi hi=>by rw[hs];exact Rs.1 hi
       have e6:lQ listed (j7 ops.size j)=(RI ops.size).filter λi=>!listed.getD i true&&decide (i≠j):=by
        unfold lQ j7;rw[TW];refine Sx λi _=>?_;by_cases e:i=j
        ·subst e;simp
        ·have:Rh i j=false:=by
          cases q:Rh i j with
          |false=>rfl
          |true=>exact absurd (Q0 q) e
         simp[e,this]
       rw[e5,<-e6];exact hk
      ·rw[T] at x;cases x
     ·have G:(listed.setIfInBounds j true).getD f true=false:=by rw[getD_set_ne true (Sg (Sg k))];exact m
      have a1:Rh j f=false:=by
       cases q:Rh j f with
       |false=>rfl
       |true=>exact absurd (Q0 q) k
      obtain⟨m1,m2,f1,f2,f3⟩:=iN (λi=>!listed.getD i true&&!Rh i f) j (by simp only[hu,a1];rfl) ops.size D;have g1:lQ listed (j7 ops.size f)=m1++j::m2:=by
       rw[<-f1];unfold lQ j7;rw[TW]
      have g2:lQ (listed.setIfInBounds j true) (j7 ops.size f)=m1++m2:=by
       rw[qy λi hi=>by rw[hs];exact Rs.1 (Rp.1 hi).1,<-f3];unfold j7;rw[TW];refine Sx λi _=>?_;cases listed.getD i true<;>cases Rh i f<;>simp
      rw[g1] at H;have C:(m1++j::m2).Pairwise (·<·):=by rw[<-f1];exact WV _ WD
      have Z:c<=j->c7 P L true ops ops[f] oj=true:=λq=>by
       rcases y.above j _ _ b F q with s|s
       ·rw[n f m N] at s;cases s
       ·exact s
      have a6:(f<j->j<c->iH P L oj=true)->c7 P L true ops ops[f] oj=true\/j<f:=λq=>by
       rcases Nat.lt_trichotomy j f with r|r|r
       ·exact .inr r
       ·exact absurd r k
       ·rcases RA j c with s|s
        ·exact .inl ((y.mid j _ _ b F r s).2 (q r s)).1
        ·exact .inl (Z s)
      have I:=tY (c:=c) hM F b a6 Z m1 m2 (λi hi=>by
       obtain⟨t,d⟩:=f2 i hi;simp only[QY,R7] at d;obtain⟨oi,U,J⟩:=cm i t d.1 (by rintro rfl;simp at d) k;exact⟨t,oi,U,J,(BO J).symm⟩) (λi hi=>by
        rw[List.pairwise_append] at C;exact(R0.1 C.2.1).1 i hi) (λ_=>trivial) a w K H
      exact sY b K I λV w' B hk=>ih _ V w' B (by simp[hs]) g hlen (λx=>by rw[G] at x;cases x) (λ_=>by rw[g2];exact hk)
theorem sM {rn:Option Nat}{id:Nat}{a:gx}{w:gb}{f c:Nat}(hm:P.follows .mixedOrders=true)(l:M.isSome=true)(m:uV P L ops f c (dF ops.toList [])=true)(n:jn M w.heap)
  (h:jN P M L ops f c (λa w=>Q .normal a w) (j7 ops.size f) a {w with drawn:=w.drawn+1}):(U7 id ops true).wpIn (FW rn) 0 P Q a w:=by
 have b:∀(d:Bool) j,j<ops.size->(Tm ops.size false).getD j d=false:=λd j o=>by simp[o]
 have e:=se m;have g:f<ops.size:=WY e.fc e.cn;have hu:aT ops (Tm ops.size false)=RI ops.size:=by
  unfold aT;rw[Su];intro i hi;have:=Rs.1 hi;simp[this]
 refine wpIn_region_any hm (GY l e ops.size _ a _ n (by simp) ?_ (by rw[hu];simp) ?_ ?_)
 ·intro j oj _ hl;have:∀j,(Tm ops.size false).getD j false=false:=λj=>by
   rcases RA j ops.size with h|h
   ·simp[h]
   ·simp[h]
  rw[this] at hl;cases hl
 ·intro k;rw[b true f g] at k;cases k
 ·intro _;have:lQ (Tm ops.size false) (j7 ops.size f)=j7 ops.size f:=by
   unfold lQ;rw[Su];intro i hi;rw[b true i (Rs.1 (Rp.1 hi).1)];rfl
  rw[this];exact h
end
def jh (B:List Nat)(l:List Nat)(j:Nat):Bool:=l.all λi=>!(waits B j i)
def Lk (P:hQ)(L:List Nat)(ops:Array hV)(i j:Nat):Bool:=Fi ops i λoi=>Fi ops j λoj=>c7 P L true ops oi oj&&c7 P L true ops oj oi
def EL (P:hQ)(L:List Nat)(ops:Array hV)(B:List Nat)(l:List Nat)(j:Nat):Bool:=jh B l j&&l.all λi=>Rh i j||(waits B i j||Lk P L ops i j)
def fL (l:List Nat)(j:Nat):List Nat:=l.filter λi=>!(Rh i j)
def ox (t:Nat->Bool):List Nat->Option Nat
 |[]=>none
 |j::l=>bif t j then some j else ox t l
def xI (t:Nat->Bool)(f:Nat->Prop):List Nat->Prop
 |[]=>True
 |j::l=>bif t j then f j/\xI t f l else xI t f l
theorem kT {t:Nat->Bool}:∀{l:List Nat} {j:Nat},ox t l=some j->j∈l/\t j=true
 |[],_,h=>by cases h
 |i::l,j,h=>by
   unfold ox at h;cases a:t i with
   |true=>rw[a] at h;cases h;exact⟨Q9,a⟩
   |false=>rw[a] at h;have:=kT (l:=l) h;exact⟨Q8 _ this.1,this.2⟩
theorem tI {t:Nat->Bool}:∀{l:List Nat},ox t l=none->∀j∈l,t j=false
 |[],_,_,a=>by cases a
 |i::l,h,j,a=>by
   unfold ox at h;cases b:t i with
   |true=>rw[b] at h;cases h
   |false=>
     rw[b] at h;rcases QX.1 a with q|q
     ·subst q;exact b
     ·exact tI (l:=l) h j q
theorem tW {t:Nat->Bool}{f:Nat->Prop}:∀{l:List Nat} {j:Nat},xI t f l->j∈l->t j=true->f j
 |[],_,_,h,_=>by cases h
 |i::l,j,h,c,a=>by
   unfold xI at h;cases b:t i with
   |true=>
     rw[b] at h;rcases QX.1 c with q|q
     ·subst q;exact h.1
     ·exact tW (l:=l) h.2 q a
   |false=>
     rw[b] at h;rcases QX.1 c with q|q
     ·subst q;rw[b] at a;cases a
     ·exact tW (l:=l) h q a
theorem rv {t:Nat->Bool}{f g:Nat->Prop}:∀{l:List Nat},(∀j∈l,f j->g j)->xI t f l->xI t g l
 |[],_,_=>trivial
 |i::l,hm,h=>by
   unfold xI at h ⊢;cases b:t i with
   |true=>rw[b] at h;exact⟨hm i Q9 h.1,rv (λj a=>hm j (Q8 _ a)) h.2⟩
   |false=>rw[b] at h;exact rv (λj a=>hm j (Q8 _ a)) h
theorem M0 {i j:Nat}(h:i≠j):Rh i j=false:=by
 cases q:Rh i j with
 |false=>rfl
 |true=>exact absurd (Q0 q) h
theorem Ot (i:Nat):Rh i i=true:=by simp
theorem gd {l:List Nat}{i j:Nat}:i∈fL l j↔i∈l/\i≠j:=by
 unfold fL;rw[Rp];by_cases h:i=j
 ·subst h;simp[Ot]
 ·simp[M0 h,h]
theorem vO (l:List Nat)(i j:Nat):fL (fL l i) j=fL (fL l j) i:=by
 unfold fL;rw[TW,TW];refine Sx λx _=>?_;exact Bool.and_comm _ _
theorem kq:∀{l:List Nat} {j:Nat},l.Nodup->j∈l->(fL l j).length+1=l.length
 |[],_,_,h=>by cases h
 |i::l,j,a,b=>by
   obtain⟨h1,c⟩:=List.nodup_cons.1 a;unfold fL;rw[S0];by_cases e:i=j
   ·subst e;rw[if_neg (by simp[Ot])];have:(l.filter λx=>!(Rh x i))=l:=by
     rw[Su];intro x d;have:x≠i:=λq=>h1 (q▸d);simp[M0 this]
    rw[this];rfl
   ·rw[if_pos (by simp[M0 e]),Rr];rcases QX.1 b with q|q
    ·exact absurd q.symm e
    ·have:=kq (l:=l) c q;unfold fL at this;rw[Rr];omega
theorem k9 {l:List Nat}{j:Nat}(h:l.Nodup):(fL l j).Nodup:=h.filter _
theorem o0 {B l:List Nat}{i j:Nat}(h:jh B l j=true):jh B (fL l i) j=true:=by
 unfold jh at*;rw[R6] at*;exact λx a=>h x (gd.1 a).1
section
variable {P:hQ}{M:Option (aa->Prop)}{L:List Nat}{ops:Array hV}{Q:kl->gx->gb->Prop}
theorem Dh {B l:List Nat}{i j:Nat}(h:EL P L ops B l j=true):EL P L ops B (fL l i) j=true:=by
 unfold EL at*;rw[QY] at*;refine⟨o0 h.1,?_⟩;have:=h.2;rw[R6] at*;exact λx a=>this x (gd.1 a).1
theorem vR {B l:List Nat}{j:Nat}(h:EL P L ops B l j=true):jh B l j=true:=by
 unfold EL at h;rw[QY] at h;exact h.1
theorem Ai {B l:List Nat}{i j:Nat}(h:EL P L ops B l j=true)(hi:i∈l)(g:j∈l)(b:i≠j)(k:jh B l i=true):
  ∃oi oj,ops[i]?=some oi/\ops[j]?=some oj/\c7 P L true ops oi oj=true/\c7 P L true ops oj oi=true:=by
 unfold EL at h;rw[QY] at h;have h1:=R6.1 h.2 i hi;have d:=R6.1 k j g;simp only[R7] at d;have m:Rh i j=false:=by
  cases q:Rh i j with
  |false=>rfl
  |true=>exact absurd (Q0 q) b
 rw[m,d] at h1;simp only[Bool.false_or] at h1;unfold Lk at h1;cases e:ops[i]? with
 |none=>unfold Fi at h1;rw[e] at h1;cases h1
 |some oi=>
   have a:=iw h1 e;cases f:ops[j]? with
   |none=>unfold Fi at a;rw[f] at a;cases a
   |some oj=>
     have c:=iw a f;rw[QY] at c;exact⟨oi,oj,rfl,rfl,c.1,c.2⟩
def qg (P:hQ)(M:Option (aa->Prop))(L:List Nat)(ops:Array hV)(K:gx->gb->Prop):Nat->List Nat->gx->gb->Prop
 |0,_=>K
 |n+1,l=>(match ox (EL P L ops (dF ops.toList []) l) l with
   |some j=>ca P M ops.size L ops j (qg P M L ops K n (fL l j))
   |none=>λa w=>xI (jh (dF ops.toList []) l) (λj=>ca P M ops.size L ops j (qg P M L ops K n (fL l j)) a w) l)
theorem j8 (hM:M.isSome=true)(K:gx->gb->Prop):∀(n:Nat) (l:List Nat),l.Nodup->l.length=n+1->
  (∀j∈l,jh (dF ops.toList []) l j=true->∀a w,qg P M L ops K (n+1) l a w->ca P M ops.size L ops j (qg P M L ops K n (fL l j)) a w)/\
  (∀j∈l,EL P L ops (dF ops.toList []) l j=true->∀a w,ca P M ops.size L ops j (qg P M L ops K n (fL l j)) a w->qg P M L ops K (n+1) l a w)
 |n,l,hn,hl=>by
   refine⟨λj hj hr a w h=>?_,λj hj hok a w h=>?_⟩
   ·unfold qg at h;cases hf:ox (EL P L ops (dF ops.toList []) l) l with
    |none=>
      rw[hf] at h;exact tW h hj hr
    |some i=>
      rw[hf] at h;simp only at h;obtain⟨hi,hoi⟩:=kT hf;by_cases hij:j=i
      ·subst hij;exact h
      ·obtain⟨oj,oi,e1,e2,c1,c2⟩:=Ai hoi hj hi hij hr;have li:=kq hn hi;have lj:=kq hn hj
       match n,hl,h with
       | 0, hl, h => have : 0 < (fL l i).length := W3.2 ⟨j, gd.2 ⟨hj, hij⟩⟩
                     omega
       |n+1,hl,h=>
         have hbi:=j8 hM K n (fL l i) (k9 hn) (by omega);have hbj:=j8 hM K n (fL l j) (k9 hn) (by omega);have h1:=dx (λa w hx=>hbi.1 j (gd.2 ⟨hj,hij⟩) (o0 hr) a w hx) h;have h2:=oL hM e2 e1 c2 h1;refine dx (λa w hx=>hbj.2 i (gd.2 ⟨hi,Sg hij⟩) (Dh hoi) a w ?_) h2;rw[vO l j i];exact hx
   ·unfold qg;cases hf:ox (EL P L ops (dF ops.toList []) l) l with
    |none=>
      have:=tI hf j hj;rw[hok] at this;cases this
    |some i=>
      simp only;obtain⟨hi,hoi⟩:=kT hf;by_cases hij:j=i
      ·subst hij;exact h
      ·obtain⟨oj,oi,e1,e2,c1,c2⟩:=Ai hoi hj hi hij (vR hok);have li:=kq hn hi;have lj:=kq hn hj
       match n,hl,h with
       | 0, hl, h => have : 0 < (fL l i).length := W3.2 ⟨j, gd.2 ⟨hj, hij⟩⟩
                     omega
       |n+1,hl,h=>
         have hbi:=j8 hM K n (fL l i) (k9 hn) (by omega);have hbj:=j8 hM K n (fL l j) (k9 hn) (by omega);have h1:=dx (λa w hx=>hbj.1 i (gd.2 ⟨hi,Sg hij⟩) (o0 (vR hoi)) a w hx) h;have h2:=oL hM e1 e2 c1 h1;refine dx (λa w hx=>hbi.2 j (gd.2 ⟨hj,hij⟩) (Dh hok) a w ?_) h2;rw[vO l i j];exact hx
def Oa (ops:Array hV):Bool:=(RI ops.size).all λj=>Fi ops j λoj=>oj.after.all λe=>!Sq .any e||decide (e.on<j)
theorem HD (h:Oa ops=true):∀j oj,ops[j]?=some oj->∀e∈oj.after,Sq .any e=true->e.on<j:=by
 intro j oj b e he c;have a:j<ops.size:=(QR.1 b).1;have h1:=iw (R6.1 h j (Rs.2 a)) b;have d:=Array.all_eq_true'.1 h1 e he;simpa[c] using d
theorem Hj {rn:Option Nat}(D:M.isSome=true)(E:Oa ops=true):∀(fuel:Nat) (listed:Array Bool) (a:gx) (w:gb),jn M w.heap->listed.size=ops.size->rz ops listed->(aT ops listed).length=fuel->
  qg P M L ops (λa w=>Q .normal a w) fuel (aT ops listed) a w->wpAnyIn (FW rn) 0 P .any ops Q fuel listed a w:=by
 have d:=HD E;intro fuel
 induction fuel with
 |zero=>
   intro listed a w A hs v hl h;have F:aT ops listed=[]:=Vq.1 hl;refine⟨?_,h⟩;rw[VE];intro j G;obtain⟨hu,o,H,_⟩:=mem_ready.1 G;have k:j<ops.size:=(QR.1 H).1;have:j∈aT ops listed:=Rp.2 ⟨Rs.2 k,by simp[hu]⟩;rw[F] at this;cases this
 |succ fuel I=>
   intro listed a w A hs v hl h;refine wpAny_first hs hl d λj oj c hu f=>?_;have k:j<ops.size:=(QR.1 c).1;have l:∀i,listed.getD i true=false->i<ops.size->waits (dF ops.toList []) j i=false:=by
    intro i n J;cases K:waits (dF ops.toList []) j i with
    |false=>rfl
    |true=>
      have x:=kX v d j i oj c f K;have:i<listed.size:=by omega
      simp[this] at n x;rw[n] at x;cases x
   have b:rz ops (listed.setIfInBounds j true):=by
    intro q ok B p e he u;by_cases r:j=q
    ·subst r;have:ok=oj:=Rc (B.symm.trans c);subst this;exact getD_set_true (f e he u)
    ·rw[getD_set_ne false r] at p;exact getD_set_true (v q ok B p e he u)
   have g:∀{i:Nat},i∈aT ops listed↔i<ops.size/\listed.getD i true=false:=by
    intro i;unfold aT;rw[Rp,Rs];simp
   have s:j∈aT ops listed:=g.2 ⟨k,hu⟩;have t:(aT ops listed).Nodup:=List.nodup_range.filter _;have C:aT ops (listed.setIfInBounds j true)=fL (aT ops listed) j:=by
    unfold aT fL;rw[TW];refine Sx λi hi=>?_;have y:i<listed.size:=by rw[hs];exact Rs.1 hi
    by_cases m:i=j
    ·subst m;simp[y]
    ·rw[getD_set_ne true (Sg m)];have u:Rh i j=false:=by
      cases q:Rh i j with
      |false=>rfl
      |true=>exact absurd (Q0 q) m
     rw[u];simp
   have N:jh (dF ops.toList []) (aT ops listed) j=true:=by
    unfold jh;rw[R6];intro i hi;obtain⟨O,R⟩:=g.1 hi;rw[l i R O];rfl
   have hlen:=kq t s;have S:=(j8 D _ fuel _ t hl).1 j s N a w h;refine sY c A S λT w' z hk=>I _ T w' z (by simp[hs]) b (by rw[C];omega) (by rw[C];exact hk)
theorem ql {rn:Option Nat}{id:Nat}{a:gx}{w:gb}(hm:P.follows .mixedOrders=true)(b:M.isSome=true)(c:Oa ops=true)(d:jn M w.heap)
  (h:qg P M L ops (λa w=>Q .normal a w) ops.size (RI ops.size) a {w with drawn:=w.drawn+1}):(U7 id ops true).wpIn (FW rn) 0 P Q a w:=by
 have hu:aT ops (Tm ops.size false)=RI ops.size:=by
  unfold aT;rw[Su];intro i hi;have:=Rs.1 hi;simp[this]
 refine wpIn_region_any hm (Hj b c ops.size _ a _ d (by simp) ?_ (by rw[hu];simp) (by rw[hu];exact h));intro j oj _ hl;have:∀j,(Tm ops.size false).getD j false=false:=λj=>by
  rcases RA j ops.size with h|h
  ·simp[h]
  ·simp[h]
 rw[this] at hl;cases hl
end
structure bU where
 s:Nat
 v:gp
 g:Option (Nat×Bool)
def find:List bU->Nat->Option bU
 |[],_=>none
 |e::r,t=>bif Rh e.s t then some e else find r t
def LP (a b:Nat×Bool):Bool:=Rh a.1 b.1&&(a.2==b.2)
def OZ (gs:List (Nat×Bool)):Option (Nat×Bool)->Bool
 |none=>true
 |some p=>gs.any (LP p)
def E4 (E:List bU)(gs:List (Nat×Bool)):ka->Option gp
 |.tmp t=>(match find E t with|some e=>(bif OZ gs e.g then some e.v else none)|none=>none)
 |.const v=>some v
 |.global g=>some (.pointer (some ⟨g,0,none⟩))
 |.func f=>some (.func (.func f) #[] #[])
def IK (E:List bU)(gs:List (Nat×Bool))(x:ka):gp:=(E4 E gs x).getD undef
def uP (E:List bU)(gs:List (Nat×Bool))(op:Op):Bool:=op.operands.toList.all λx=>(E4 E gs x).isSome
def fR (a:gx)(e:bU):Prop:=
 match e.g with
 |none=>a.tmps[e.s]?=some e.v
 |some (s,b)=>(a.tmps[s]?=some (.bool b)->a.tmps[e.s]?=some e.v)/\(a.tmps[s]?≠some (.bool b)->a.tmps[e.s]?=some undef)
structure Holds (N:Nat)(D:List mj)(E:List bU)(a:gx):Prop where
 size:a.tmps.size=N
 defers:a.defers=D
 all:∀e∈E,fR a e
def Me (d:Nat)(e:bU):Bool:=!(Rh e.s d)&&(match e.g with|some (s,_)=>!(Rh s d)|none=>true)
def HL (d:Nat)(g:Option (Nat×Bool)):Bool:=match g with|some p=>!(Rh p.1 d)|none=>true
def vn (N:Nat)(E:List bU)(dst:Option Nat)(v:gp)(g:Option (Nat×Bool))(K:List bU->Prop):Prop:=
 match dst with
 |none=>K E
 |some d=>bif SF d N&&HL d g then K (⟨d,v,g⟩::E.filter (Me d)) else False
def sK (s:Nat)(b:Bool):List bU->List bU
 |[]=>[]
 |e::r=>bif Rh e.s s then ⟨s,.bool b,none⟩::sK s b r else (match e.g with
   |none=>e::sK s b r
   |some p=>bif LP p (s,b) then ⟨e.s,e.v,none⟩::sK s b r else bif Rh p.1 s then sK s b r else e::sK s b r)
def iA (W:List Nat)(a b:gx):Prop:=∀t,W.contains t=false->b.tmps[t]?=a.tmps[t]?
theorem iA.refl (W:List Nat)(a:gx):iA W a a:=λ_ _=>rfl
theorem iA.trans {W:List Nat}{a b c:gx}(h:iA W a b)(k:iA W b c):iA W a c:=λt d=>(k t d).trans (h t d)
theorem iA.mono {W c:List Nat}{a b:gx}(h:iA W a b)(hs:∀t,c.contains t=false->W.contains t=false):iA c a b:=λt d=>h t (hs t d)
theorem iA.put {W:List Nat}{a:gx}{dst:Option Nat}{v:gp}(h:∀d,dst=some d->W.contains d=true):iA W a (a.put dst v):=by
 intro t c;cases dst with
 |none=>rfl
 |some d=>
   have b:d≠t:=by intro e;subst e;rw[h d rfl] at c;cases c
   simp[XR,Sa b]
theorem gn:∀{E:List bU} {t:Nat} {e:bU},find E t=some e->e∈E/\e.s=t
 |[],_,_,h=>by cases h
 |x::r,t,e,h=>by
   unfold find at h;cases a:Rh x.s t with
   |true=>rw[a] at h;have b:x=e:=Rc h;subst b;exact⟨Q9,Q0 a⟩
   |false=>rw[a] at h;have:=gn (E:=r) h;exact⟨Q8 _ this.1,this.2⟩
theorem pT {a b:Nat×Bool}(h:LP a b=true):a=b:=by
 unfold LP at h;simp only[QY,beq_iff_eq] at h;exact Prod.ext (Q0 h.1) h.2
section
variable {P:hQ}{N:Nat}{D:List mj}{L:List Nat}
theorem ia {E:List bU}{gs:List (Nat×Bool)}{a:gx}{x:ka}{v:gp}(hH:Holds N D E a)(i:∀p∈gs,a.tmps[p.1]?=some (.bool p.2))(h:E4 E gs x=some v):a.eval x=v:=by
 cases x with
 |tmp t=>
   simp only[E4] at h;split at h
   ·rename_i e he;obtain⟨h1,j⟩:=gn he;cases d:OZ gs e.g with
    |false=>rw[d] at h;cases h
    |true=>
      rw[d] at h;have k:e.v=v:=Rc h;have b:=hH.all e h1;have:a.tmps[e.s]?=some e.v:=by
       unfold fR at b;cases c:e.g with
       |none=>rw[c] at b;exact b
       |some p=>
         rw[c] at b d;obtain⟨q,l,heq⟩:=S9.1 d;have:=pT heq;subst this;exact b.1 (i _ l)
      rw[j] at this;simp only[Act.eval,Xq,this,k,Option.getD_some]
   ·cases h
 |const u=>exact Rc h
 |global g=>exact Rc h
 |func f=>exact Rc h
theorem rH {E:List bU}{gs:List (Nat×Bool)}{a:gx}{o:hV}(hH:Holds N D E a)(d:∀p∈gs,a.tmps[p.1]?=some (.bool p.2))(h:uP E gs o.op=true)
  (hs:∀cs b,o.op≠.select cs b):execOp a.eval o=execOp (IK E gs) o:=by
 refine execOp_congr o hs λx e=>?_;have:=R6.1 h x (by simpa using e);obtain⟨v,c⟩:=TC.1 this;rw[ia hH d c];unfold IK;rw[c];rfl
theorem Ev {E:List bU}{gs:List (Nat×Bool)}(v:gp):IK E gs (.const v)=v:=rfl
theorem xA {a:gx}{d:Nat}{v:gp}(h:d<a.tmps.size):(a.put (some d) v).tmps[d]?=some v:=by
 simp[XR,h]
theorem pf {a:gx}{d t:Nat}{v:gp}(h:d≠t):(a.put (some d) v).tmps[t]?=a.tmps[t]?:=by
 simp[XR,Sa h]
theorem Gv {a:gx}{dst:Option Nat}{v:gp}:(a.put dst v).tmps.size=a.tmps.size:=by
 cases dst<;>simp[XR]
theorem put_defers {a:gx}{dst:Option Nat}{v:gp}:(a.put dst v).defers=a.defers:=by
 cases dst<;>simp[XR]
theorem fD {E:List bU}{dst:Option Nat}{v:gp}{g:Option (Nat×Bool)}{K:List bU->Prop}{a:gx}(hH:Holds N D E a)(h:vn N E dst v g K)
  {u:gp} (hu:∀s b,g=some (s,b)->a.tmps[s]?=some (.bool b)->u=v) (m:g=none->u=v) (hu2:∀s b,g=some (s,b)->a.tmps[s]?≠some (.bool b)->u=undef:=by intro _ _ e;cases e):∃o,Holds N D o (a.put dst u)/\K o:=by
 unfold vn at h;cases dst with
 |none=>exact⟨E,hH,h⟩
 |some d=>
   simp only at h;cases j:(SF d N&&HL d g) with
   |false=>rw[j] at h;exact h.elim
   |true=>
     rw[j] at h;simp only[QY] at j;have hd:d<a.tmps.size:=by rw[hH.size];exact UK j.1
     refine⟨_,⟨Gv.trans hH.size,put_defers.trans hH.defers,?_⟩,h⟩;intro e he;rcases QX.1 he with he|he
     ·subst he;unfold fR;cases g with
      |none=>exact(xA hd).trans (by rw[m rfl])
      |some p=>
        obtain⟨s,b⟩:=p;have k:s≠d:=by
         intro e;subst e;have:=j.2;simp[HL] at this
        refine⟨λhs=>?_,λhs=>?_⟩
        ·rw[pf (Sg k)] at hs;exact(xA hd).trans (by rw[hu s b rfl hs])
        ·rw[pf (Sg k)] at hs;exact(xA hd).trans (by rw[hu2 s b rfl hs])
     ·obtain⟨h1,l⟩:=Rp.1 he;have c:=hH.all e h1;unfold Me at l;simp only[QY,R7] at l;have i:d≠e.s:=by
       intro n;have:=l.1;rw[<-n] at this;simp at this
      unfold fR at c ⊢;cases q:e.g with
      |none=>rw[q] at c;exact(pf i).trans c
      |some p=>
        obtain⟨s,b⟩:=p;rw[q] at c l;have f:d≠s:=by
         intro n;have:=l.2;rw[<-n] at this;simp at this
        refine⟨λhs=>?_,λhs=>?_⟩
        ·rw[pf f] at hs;exact(pf i).trans (c.1 hs)
        ·rw[pf f] at hs;exact(pf i).trans (c.2 hs)
theorem uT {s:Nat}{b:Bool}{a:gx}(hs:a.tmps[s]?=some (.bool b)):∀{E:List bU},(∀e∈E,fR a e)->∀e∈sK s b E,fR a e
 |[],_,e,he=>by simp[sK] at he
 |x::r,h,e,he=>by
   have f:=uT hs (E:=r) (λe he=>h e (Q8 _ he));have d:=h x Q9;unfold sK at he;cases j:Rh x.s s with
   |true=>
     rw[j] at he;rcases QX.1 he with he|he
     ·subst he;exact hs
     ·exact f e he
   |false=>
     rw[j] at he;simp only[cond_false] at he;unfold fR at d;cases i:x.g with
     |none=>
       rw[i] at he d;rcases QX.1 he with he|he
       ·subst he;unfold fR;rw[i];exact d
       ·exact f e he
     |some p=>
       rw[i] at he d;simp only at he;cases c:LP p (s,b) with
       |true=>
         rw[c] at he;have:=pT c;subst this;rcases QX.1 he with he|he
         ·subst he;exact d.1 hs
         ·exact f e he
       |false=>
         rw[c] at he;simp only[cond_false] at he;cases g:Rh p.1 s with
         |true=>rw[g] at he;exact f e he
         |false=>
           rw[g] at he;rcases QX.1 he with he|he
           ·subst he;unfold fR;rw[i];exact d
           ·exact f e he
theorem Holds.sK {E:List bU}{a:gx}{s:Nat}{b:Bool}(hH:Holds N D E a)(hs:a.tmps[s]?=some (.bool b)):Holds N D (sK s b E) a:=
 ⟨hH.size,hH.defers,uT hs hH.all⟩
def mg (s:Nat)(b:Bool)(E:List bU):List bU:=sK s b E++[⟨s,.bool b,some (s,b)⟩]
theorem Holds.mg {E:List bU}{a:gx}{s:Nat}{b:Bool}(hH:Holds N D E a)(hs:a.tmps[s]?=some (.bool b)):Holds N D (mg s b E) a:=
 ⟨hH.size,hH.defers,λe he=>by
  rcases QQ.1 he with h|h
  ·exact(hH.sK hs).all e h
  ·rw[Q1.1 h];exact⟨λh=>h,λh=>absurd hs h⟩⟩
def pG (s:Nat)(b:Bool):List bU->List bU
 |[]=>[]
 |e::r=>bif Rh e.s s then ⟨s,.bool b,none⟩::pG s b r else (match e.g with
   |none=>e::pG s b r
   |some p=>bif LP p (s,b) then ⟨e.s,e.v,none⟩::pG s b r else bif Rh p.1 s then ⟨e.s,undef,none⟩::pG s b r else e::pG s b r)
theorem sh {s:Nat}{b:Bool}{a:gx}(hs:a.tmps[s]?=some (.bool b)):∀{E:List bU},(∀e∈E,fR a e)->∀e∈pG s b E,fR a e
 |[],_,e,he=>by simp[pG] at he
 |x::r,h,e,he=>by
   have g:=sh hs (E:=r) (λe he=>h e (Q8 _ he));have d:=h x Q9;unfold pG at he;cases j:Rh x.s s with
   |true=>
     rw[j] at he;rcases QX.1 he with he|he
     ·subst he;exact hs
     ·exact g e he
   |false=>
     rw[j] at he;simp only[cond_false] at he;unfold fR at d;cases i:x.g with
     |none=>
       rw[i] at he d;rcases QX.1 he with he|he
       ·subst he;unfold fR;rw[i];exact d
       ·exact g e he
     |some p=>
       rw[i] at he d;simp only at he;cases c:LP p (s,b) with
       |true=>
         rw[c] at he;have:=pT c;subst this;rcases QX.1 he with he|he
         ·subst he;exact d.1 hs
         ·exact g e he
       |false=>
         rw[c] at he;simp only[cond_false] at he;cases f:Rh p.1 s with
         |true=>
           rw[f] at he;have k:=Q0 f;obtain⟨p1,p2⟩:=p;simp only at k d;subst k;rcases QX.1 he with he|he
           ·subst he;refine d.2 λq=>?_;rw[hs] at q;have l:b=p2:=by injection q with q;injection q
            subst l;unfold LP at c;simp at c
           ·exact g e he
         |false=>
           rw[f] at he;rcases QX.1 he with he|he
           ·subst he;unfold fR;rw[i];exact d
           ·exact g e he
def xX (s:Nat)(b:Bool)(E:List bU):List bU:=pG s b E++[⟨s,.bool b,some (s,b)⟩]
theorem Holds.xX {E:List bU}{a:gx}{s:Nat}{b:Bool}(hH:Holds N D E a)(hs:a.tmps[s]?=some (.bool b)):Holds N D (xX s b E) a:=
 ⟨hH.size,hH.defers,λe he=>by
  rcases QQ.1 he with h|h
  ·exact sh hs hH.all e h
  ·rw[Q1.1 h];exact⟨λh=>h,λh=>absurd hs h⟩⟩
def isLit (E:List bU)(s:Nat):Bool:=E.any λe=>Rh e.s s&&(match e.g with|some p=>Rh p.1 s|none=>false)
def xQ (gs:List (Nat×Bool))(c:ka)(b:Bool):List (Nat×Bool):=match c with|.tmp t=>(t,b)::gs|_=>gs
def Pq (M:Option (aa->Prop))(H:aa)(A:Prop):Prop:=match M with|none=>A|some G=>G H/\A
def qq:Op->Bool
 |.select ..=>true
 |_=>false
def mn (P:hQ)(E:List bU)(gs:List (Nat×Bool))(o:hV):Option gp:=
 match o.op with
 |.pick c a b=>(match E4 E gs c,E4 E (xQ gs c true) a,E4 E (xQ gs c false) b with
   |some (.bool t),some d,some e=>some (sb t a b d e)
   |_,_,_=>none)
 |op=>bif CJ P op&&(uP E gs op&&!(qq op)) then evalOp P o (IK E gs) else none
def yH (P:hQ)(L:List Nat)(E:List bU)(gs:List (Nat×Bool))(o:hV)(M:Option (aa->Prop))(H:aa)(K:gp->aa->Prop):Prop:=
 match mn P E gs o with
 |some v=>K v H
 |none=>bif uP E gs o.op&&!(qq o.op) then
   (match ju P o.op with
    |0=>xe P o.op (IK E gs) λv=>K v H
    |1=>ta P o.op o.type (IK E gs) (bif NN L o then none else M) H λv=>K v H
    |_=>Cp P o.op o.type (IK E gs) H λv H'=>Pq M H' (K v H'))
   else False
theorem kS {E:List bU}{gs:List (Nat×Bool)}{o:hV}{a:gx}{v:gp}(hH:Holds N D E a)(k:∀p∈gs,a.tmps[p.1]?=some (.bool p.2))
  (h:mn P E gs o=some v) (w':gb):(execOp a.eval o).run P w'=.ok (.value v) w':=by
 unfold mn at h;split at h
 ·rename_i c x y u;split at h
  ·rename_i t l m g A B;have w:sb t x y l m=v:=Rc h;subst w;have C:=ia hH k g;have key:sb t x y l m=if t then a.eval x else a.eval y:=by
    have n:∀b,t=b->∀p∈xQ gs c b,a.tmps[p.1]?=some (.bool p.2):=by
     intro b i p j;cases c with
     |tmp s=>
       simp only[xQ] at j;rcases QX.1 j with j|j
       ·subst j;simp only[E4] at g;split at g
        ·rename_i e he;obtain⟨h1,F⟩:=gn he;cases f:OZ gs e.g with
         |false=>rw[f] at g;cases g
         |true=>
           rw[f] at g;have w:e.v=.bool t:=Rc g;have d:=hH.all e h1;have:a.tmps[e.s]?=some e.v:=by
            unfold fR at d;cases r:e.g with
            |none=>rw[r] at d;exact d
            |some p=>
              rw[r] at d f;obtain⟨q,G,heq⟩:=S9.1 f;have:=pT heq;subst this;exact d.1 (k _ G)
           rw[F,w,i] at this;exact this
        ·cases g
       ·exact k p j
     |_=>exact k p j
    -- the constant's own case
    have H:∀v,x=.const v->l=v:=λv e=>by subst e;exact(Rc A).symm
    have I:∀v,y=.const v->m=v:=λv e=>by subst e;exact(Rc B).symm
    have J:sb t x y l m=if t then l else m:=by
     unfold sb;split
     ·rename_i p q;split
      ·have:=I _ rfl;have z:q=false:=by simpa using this
       subst z;cases t<;>simp
      ·split
       ·have:=H _ rfl;have z:p=true:=by simpa using this
        subst z;cases t<;>simp
       ·cases t<;>simp
     ·cases t<;>simp
    rw[J];cases t with
    |true=>simp only[if_true];rw[ia hH (n true rfl) A]
    |false=>simp only[Bool.false_eq_true,if_false];rw[ia hH (n false rfl) B]
   simp only[execOp,u,C,asBool,Rk,RN,Rl,key]
  ·cases h
 ·cases i:(CJ P o.op&&(uP E gs o.op&&!(qq o.op))) with
  |false=>rw[i] at h;cases h
  |true=>
    rw[i] at h;simp only[QY,R7] at i;have hs:∀cs b,o.op≠.select cs b:=λcs b e=>by rw[e] at i;cases i.2.2
    rw[rH hH k i.2.1 hs];exact By h w'
theorem lf {c:Nat}{M:Option (aa->Prop)}{r:gb->l0 km}{v:gp}{R:gp->gb->Prop}{w:gb}(d:jn M w.heap)(a:∀w',r w'=.ok (.value v) w')(b:R v w):gk P M c r R w:=by
 match c with
 |0=>exact⟨v,a,b⟩
 |1=>exact⟨v,λw' _=>a w',b⟩
 |_+2=>show qv P (r w) _;rw[a w];exact⟨d,b⟩
theorem uz {L:List Nat}{o:hV}{c:Nat}(h:ju P o.op=c)(a:c≠1):dL P L o=c:=by
 unfold dL;have:Rh (ju P o.op) 1=false:=by
  cases b:Rh (ju P o.op) 1 with
  |false=>rfl
  |true=>exact absurd (h.symm.trans (Q0 b)) a
 rw[this];exact h
theorem Eu {L:List Nat}{o:hV}(h:ju P o.op=1)(hl:NN L o=true):dL P L o=2:=by
 unfold dL;rw[h,hl];rfl
theorem Ci {L:List Nat}{o:hV}(h:ju P o.op=1)(hl:NN L o=false):dL P L o=1:=by
 unfold dL;rw[h,hl];rfl
theorem yT (m:mY P){E:List bU}{gs:List (Nat×Bool)}{o:hV}{M:Option (aa->Prop)}{a:gx}{w:gb}{K:gp->aa->Prop}{R:gp->gb->Prop}
  (hH:Holds N D E a) (s:∀p∈gs,a.tmps[p.1]?=some (.bool p.2)) (d:jn M w.heap) (f:∀v w',Alike w w'->jn M w'.heap->K v w'.heap->R v w')
  (h:yH P L E gs o M w.heap K):gk P M (dL P L o) (λw=>(execOp a.eval o).run P w) R w:=by
 unfold yH at h;split at h
 ·rename_i v u;exact lf d (kS hH s u) (f v w (.refl w) d h)
 ·cases g:(uP E gs o.op&&!(qq o.op)) with
  |false=>rw[g] at h;exact h.elim
  |true=>
    rw[g] at h;simp only[QY,R7] at g;have hs:∀cs b,o.op≠.select cs b:=λcs b e=>by rw[e] at g;cases g.2
    have he:=rH hH s g.1 hs;simp only[cond_true] at h;rw[he];split at h
    ·rename_i l;rw[uz l (by decide)];obtain⟨v,h1,i⟩:=vi (o:=o) (Ev) h;exact⟨v,h1,f v w (.refl w) d i⟩
    ·rename_i l;cases hl:NN L o with
     |true=>
       rw[hl] at h;simp only[cond_true] at h;obtain⟨v,h1,i⟩:=jQ (o:=o) h;rw[Eu l hl];have n:=h1 w rfl;show qv P ((execOp (IK E gs) o).run P w) _;rw[n];exact⟨d,f v w (.refl w) d i⟩
     |false=>
       rw[hl] at h;simp only[cond_false] at h;obtain⟨v,h1,i⟩:=jQ (o:=o) h;rw[Ci l hl];exact⟨v,λw' q=>h1 w' q,f v w (.refl w) d i⟩
    ·rename_i c x n1;have n:qv P ((execOp (IK E gs) o).run P w) (λv w'=>jn M w'.heap/\R v w'):=by
      refine xL m (M:=M) (K:=λv H'=>Pq M H' (K v H')) ?_ h;intro v w' t hk;cases M with
      |none=>exact⟨trivial,f v w' t trivial hk⟩
      |some G=>exact⟨hk.1,f v w' t hk.1 hk.2⟩
     have j:ju P o.op≠1:=λe=>n1 e;have r:ju P o.op≠0:=λe=>x e;have k:dL P L o=ju P o.op:=uz rfl j;rw[k];generalize ju P o.op=c at*
     match c with
     |0=>exact absurd rfl r
     |1=>exact absurd rfl j
     |_+2=>exact n
def yg (ops:Array hV)(j:Nat):Option Nat:=match ops[j]? with|some o=>o.dst|none=>none
theorem rN {ops:Array hV}{o:hV}{a:gx}{j s:Nat}{want:Bool}(d:o.guard=some (j,want))(hs:yg ops j=some s):
  (Sv o (yielded ops a.tmps)=true↔a.tmps[s]?=some (.bool want)):=by
 have e:(ops[j]?).bind (·.dst)=some s:=by
  unfold yg at hs;split at hs
  ·rename_i g f;rw[f];exact hs
  ·cases hs
 simp only[Sv,d,yielded,e,Option.bind_some];constructor
 ·intro h;split at h
  ·rename_i b c;rw[c];simpa using h
  ·simp at h
 ·intro h;rw[h];simp
def jv (P:hQ)(N:Nat)(L:List Nat)(M:Option (aa->Prop))(o:hV)(E:List bU)(H:aa)(s:Nat)(want b:Bool)(K:List bU->aa->Prop):Prop:=
 bif b==want then yH P L (mg s b E) [] o M H λv H'=>vn N (mg s b E) o.dst v none λa=>K a H'
 else vn N (mg s b E) o.dst undef none λa=>K a H
def Bi (E:List bU)(s:Nat):Bool:=match find E s with|some ⟨_,.tuple _,none⟩=>true|_=>false
def CB (ops:Array hV)(o:hV):Bool:=match o.op with
 |.extract (.tmp t) _=>ops.toList.any λp=>(match p.op with|.entry _=>(match p.dst with|some d=>Rh d t|none=>false)|_=>false)
 |_=>false
def OS (P:hQ)(N:Nat)(L:List Nat)(ops:Array hV)(M:Option (aa->Prop))(o:hV)(E:List bU)(H:aa)(K:List bU->aa->Prop):Prop:=
 match o.guard with
 |none=>bif CB ops o then (match mn P E [] o with
   |some v=>JA (lu P o.type) v λy=>vn N E o.dst ((lu P o.type).enc y) none λa=>K a H
   |none=>False)
   else yH P L E [] o M H λv H'=>vn N E o.dst v none λa=>K a H'
 |some (j,want)=>(match yg ops j with
   |none=>False
   |some s=>bif Bi E s then vn N E o.dst undef none λa=>K a H else bif isLit E s then (match find E s with
     |some ⟨_,.bool b,none⟩=>br b (jv P N L M o E H s want true K) (jv P N L M o E H s want false K)
     |_=>False) else (match mn P E [(s,want)] o with
     |some v=>vn N E o.dst v (some (s,want)) λa=>K a H
     |none=>(match find E s with
       |some ⟨_,.bool b,none⟩=>br b (jv P N L M o E H s want true K) (jv P N L M o E H s want false K)
       |some ⟨_,.bool b,some (s2,c)⟩=>(match find E s2 with
         |some ⟨_,.bool d,none⟩=>
           br (d==c) (br b (jv P N L M o (mg s2 c E) H s want true K) (jv P N L M o (mg s2 c E) H s want false K)) (vn N (xX s2 (!c) E) o.dst undef none λa=>K a H)
         |_=>False)
       |_=>False)))
theorem EU (C:mY P){ops:Array hV}{M:Option (aa->Prop)}{o:hV}{E:List bU}{a:gx}{w:gb}{K:List bU->aa->Prop}{K':gx->gb->Prop}
  (hH:Holds N D E a) (m:jn M w.heap)
  (r:∀f u w',Holds N D f (a.put o.dst u)->Alike w w'->jn M w'.heap->K f w'.heap->K' (a.put o.dst u) w')
  (h:OS P N L ops M o E w.heap K):fW P M L ops o K' a w:=by
 have plain:∀{E:List bU},Holds N D E a->yH P L E [] o M w.heap (λv H'=>vn N E o.dst v none λf=>K f H')->
   gk P M (dL P L o) (λw=>(execOp a.eval o).run P w) (λv w'=>K' (a.put o.dst v) w') w:=by
  intro E hH h;refine yT C hH (by simp) m (λv w' O i hk=>?_) h;obtain⟨f,h1,c⟩:=fD hH hk (u:=v) (λ_ _ _ _=>rfl) (λ_=>rfl);exact r f v w' h1 O i c
 have known:∀{E:List bU} {s:Nat} {want b:Bool} {j:Nat},o.guard=some (j,want)->yg ops j=some s->Holds N D E a->a.tmps[s]?=some (.bool b)->jv P N L M o E w.heap s want b K->fW P M L ops o K' a w:=by
  intro E s want b j i hs hH d h;have hw:=rN (a:=a) i hs;unfold jv at h;unfold fW;by_cases e:b=want
  ·subst e;simp only[beq_self_eq_true,cond_true] at h;rw[if_pos (hw.2 d)];exact plain (hH.mg d) h
  ·have F:(b==want)=false:=by simpa using e
   rw[F] at h;simp only[cond_false] at h;rw[if_neg (λn=>by
    have:=hw.1 n;rw[d] at this;simp at this;exact e this)]
   obtain⟨f,h1,c⟩:=fD (hH.mg d) h (u:=undef) (λ_ _ _ _=>rfl) (λ_=>rfl);exact r f undef w h1 (.refl w) m c
 unfold OS at h;split at h
 ·rename_i i;unfold fW;rw[if_pos (by simp[Sv,i])];cases x:CB ops o with
  |false=>rw[x] at h;exact plain hH h
  |true=>
    rw[x] at h;simp only[cond_true] at h;split at h
    ·rename_i v d;obtain⟨y,rfl,R⟩:=h;obtain⟨f,h1,c⟩:=fD hH R (u:=(lu P o.type).enc y) (λ_ _ _ _=>rfl) (λ_=>rfl);exact lf m (kS hH (by simp) d) (r f _ w h1 (.refl w) m c)
    ·exact h.elim
 ·rename_i j want i;split at h
  ·exact h.elim
  ·rename_i s hs;have hw:=rN (a:=a) i hs;cases k:Bi E s with
   |true=>
     rw[k] at h;simp only[cond_true] at h;have d:∃vs,a.tmps[s]?=some (.tuple vs):=by
      unfold Bi at k;split at k
      ·rename_i s' vs t;obtain⟨h1,c⟩:=gn t;have:=hH.all _ h1;simp only at c;subst c;exact⟨vs,this⟩
      ·cases k
     obtain⟨vs,d⟩:=d;unfold fW;rw[if_neg (λn=>by have:=hw.1 n;rw[d] at this;simp at this)];obtain⟨f,h1,c⟩:=fD hH h (u:=undef) (λ_ _ _ _=>rfl) (λ_=>rfl);exact r f undef w h1 (.refl w) m c
   |false=>
   rw[k] at h;simp only[cond_false] at h;cases z:isLit E s with
   |true=>
     rw[z] at h;simp only[cond_true] at h;split at h
     ·rename_i s' b t;obtain⟨h1,c⟩:=gn t;have d:a.tmps[s]?=some (.bool b):=by have:=hH.all _ h1;simp only at c;subst c;exact this
      cases b with
      |true=>exact known i hs hH d h
      |false=>exact known i hs hH d h
     ·exact h.elim
   |false=>
   rw[z] at h;simp only[cond_false] at h;split at h
   ·rename_i v d;unfold fW;split
    ·rename_i g;have hsl:=hw.1 g;obtain⟨f,h1,c⟩:=fD hH h (u:=v) (λ_ _ _ _=>rfl) (λ_=>rfl) (hu2:=λs' S e n=>by obtain⟨rfl,rfl⟩:=(Y4 (Rc e));exact absurd hsl n);exact lf m (kS hH (by intro p T;rw[Q1.1 T];exact hsl) d) (r f v w h1 (.refl w) m c)
    ·rename_i g;obtain⟨f,h1,c⟩:=fD hH h (u:=undef) (λs' S e n=>by obtain⟨rfl,rfl⟩:=(Y4 (Rc e));exact absurd (hw.2 n) g) (λe=>by cases e) (hu2:=λ_ _ _ _=>rfl);exact r f undef w h1 (.refl w) m c
   ·split at h
    ·rename_i s' b t;obtain⟨h1,c⟩:=gn t;have d:a.tmps[s]?=some (.bool b):=by have:=hH.all _ h1;simp only at c;subst c;exact this
     cases b with
     |true=>exact known i hs hH d h
     |false=>exact known i hs hH d h
    ·rename_i s' b s2 G t;split at h
     ·rename_i s3 A H;obtain⟨h1,c⟩:=gn t;obtain⟨U,J⟩:=gn H;have l:a.tmps[s2]?=some (.bool A):=by have:=hH.all _ U;simp only at J;subst J;exact this
      obtain⟨V,W⟩:=GW.1 h;by_cases e:A=G
      ·subst e;have B:=V (by simp);have d:a.tmps[s]?=some (.bool b):=by
        have:=hH.all _ h1;simp only at c;subst c;exact this.1 l
       cases b with
       |true=>exact known i hs (hH.mg l) d B
       |false=>exact known i hs (hH.mg l) d B
      ·have B:=W (by simpa using e);have X:A=!G:=by cases A<;>cases G<;>simp_all
       have hu:a.tmps[s]?=some undef:=by
        have:=hH.all _ h1;simp only at c;subst c;exact this.2 (by rw[l];intro q;injection q with q;injection q with q;exact e q)
       have I:¬Sv o (yielded ops a.tmps)=true:=λn=>by
        have:=hw.1 n;rw[hu] at this;unfold undef at this;cases this
       unfold fW;rw[if_neg I];obtain⟨f,Y,Z⟩:=fD (hH.xX (by rw[l,X])) B (u:=undef) (λ_ _ _ _=>rfl) (λ_=>rfl);exact r f undef w Y (.refl w) m Z
     ·exact h.elim
    ·exact h.elim
def il (P:hQ)(N:Nat)(L:List Nat)(ops:Array hV)(M:Option (aa->Prop)):List hV->List bU->aa->(List bU->aa->Prop)->Prop
 |[],E,H,K=>K E H
 |o::l,E,H,K=>OS P N L ops M o E H λa H'=>il P N L ops M l a H' K
def Bv (l:List hV):List Nat:=l.filterMap (·.dst)
theorem cS (b:mY P){ops:Array hV}{M:Option (aa->Prop)}{K:List bU->aa->Prop}{K':gx->gb->Prop}{W:List Nat}{a0:gx}{w0:gb}
  (k:∀c e w',Holds N D c e->iA W a0 e->Alike w0 w'->jn M w'.heap->K c w'.heap->K' e w'):
  ∀(l:List hV),(∀o∈l,∀d,o.dst=some d->W.contains d=true)->∀(E:List bU) (a:gx) (w:gb),Holds N D E a->iA W a0 a->Alike w0 w->jn M w.heap->il P N L ops M l E w.heap K->gT P M L ops K' l a w
 |[],_,E,a,w,hH,f,g,i,h=>k E a w hH f g i h
 |o::l,m,_,_,_,hH,f,g,i,h=>
   EU b hH i (λc _ w' h1 n p q=>cS b k l (λr j=>m r (Q8 _ j)) c _ w' h1
    (f.trans (iA.put (m o Q9))) (g.trans n) p q) h
def OQ (P:hQ)(N:Nat)(ops:Array hV)(draw:Bool)(E:List bU)(H:aa)(K:List bU->aa->Prop):Prop:=
 bif draw then (bif dO P [] 0 ops then il P N [] ops none ops.toList E H K
  else let L:=rP P ops
   let k:=xg P L ops
   bif dO P L k ops then (bif Rh k 0 then il P N L ops none ops.toList E H K else ∃G:aa->Prop,G H/\il P N L ops (some G) (ops.toList.take k) E H λa H'=>il P N L ops none (ops.toList.drop k) a H' K) else False)
 else il P N [] ops none ops.toList E H K
theorem DJ (e:mY P)(hm:P.follows .mixedOrders=true){rn:Option Nat}{id:Nat}{ops:Array hV}{draw:Bool}{E:List bU}{a:gx}{w:gb}{K:List bU->aa->Prop}{Q:kl->gx->gb->Prop}
  (hH:Holds N D E a) (r:∀c b w',Holds N D c b->iA (Bv ops.toList) a b->Alike w w'->K c w'.heap->Q .normal b w')
  (h:OQ P N ops draw E w.heap K):(U7 id ops draw).wpIn (FW rn) 0 P Q a w:=by
 have n:∀o∈ops.toList,∀d,o.dst=some d->(Bv ops.toList).contains d=true:=by
  intro o p d hd;rw[UL];exact Xr.2 ⟨o,p,hd⟩
 unfold OQ at h;cases draw with
 |false=>
   exact vF (cS (M:=none) e (λc b w' f g j _ l=>r c b w' f g j l) ops.toList n E a w hH (.refl _ _) (.refl _) trivial h)
 |true=>
   simp only[cond_true] at h;have hd:Alike w {w with drawn:=w.drawn+1}:=.of_le rfl (RB _);cases h1:dO P [] 0 ops with
   |true=>
     rw[h1] at h;refine iW (M:=none) (k:=0) hm (λi hi=>by omega) h1 trivial ?_;show gT P none [] ops _ (ops.toList.take 0) _ _;rw[Xm,V1];exact cS (M:=none) e (λc b w' f g j _ l=>r c b w' f g j l) ops.toList n E a _ hH (.refl _ _) hd trivial h
   |false=>
     rw[h1] at h;simp only[cond_false] at h;cases q:dO P (rP P ops) (xg P (rP P ops) ops) ops with
     |true=>
       rw[q] at h;simp only[cond_true] at h;cases m:Rh (xg P (rP P ops) ops) 0 with
       |true=>
         rw[m] at h;have t:=Q0 m;rw[t] at q;refine iW (M:=none) (k:=0) hm (λi hi=>by omega) q trivial ?_;show gT P none (rP P ops) ops _ (ops.toList.take 0) _ _;rw[Xm,V1];exact cS (M:=none) e (λc b w' f g j _ l=>r c b w' f g j l) ops.toList n E a _ hH (.refl _ _) hd trivial h
       |false=>
       rw[m] at h;obtain⟨G,s,u⟩:=h;refine iW (M:=some G) hm (λ_ _=>rfl) q s (cS e (λc b w' f g j _ l=>?_) (ops.toList.take _) (λo p=>n o (RU p)) E a _ hH (.refl _ _) hd s u);exact cS (M:=none) e (λc b w' f g j _ l=>r c b w' f g j l) (ops.toList.drop _) (λo p=>n o (TI p)) c b w' f g j trivial l
     |false=>
       rw[q] at h;simp only[cond_false] at h
def lT (ops:Array hV)(l:List Nat):List hV:=l.flatMap λi=>(ops.toList.drop i).take 1
def NJ (P:hQ)(N:Nat)(L:List Nat)(ops:Array hV)(M:Option (aa->Prop))(f c:Nat):List Nat->List bU->aa->(List bU->aa->Prop)->Prop
 |[],E,H,K=>il P N L ops M (lT ops [f]) E H K
 |i::l,E,H,K=>bif VD c i then il P N L ops M (lT ops (f::i::l)) E H K else
   bif iF P L ops f c i then il P N L ops M (lT ops (f::i::l)) E H K/\il P N L ops M (lT ops [i]) E H (λa H'=>NJ P N L ops M f c l a H' K)
   else il P N L ops M (lT ops [i]) E H λa H'=>NJ P N L ops M f c l a H' K
def No (f c:Nat)(P:hQ)(N:Nat)(ops:Array hV)(E:List bU)(H:aa)(K:List bU->aa->Prop):Prop:=
 let L:=rP P ops
 bif uV P L ops f c (dF ops.toList []) then ∃G:aa->Prop,G H/\NJ P N L ops (some G) f c (j7 ops.size f) E H K else False
theorem mv {M:Option (aa->Prop)}{L:List Nat}{ops:Array hV}{K:gx->gb->Prop}:∀(l:List Nat),(∀i∈l,i<ops.size)->fG P M ops.size L ops K l=gT P M L ops K (lT ops l)
 |[],_=>rfl
 |i::l,h=>by
   have hi:=h i Q9;have b:=mv (M:=M) (L:=L) (K:=K) l λk hk=>h k (Q8 _ hk);have e:(ops.toList.drop i).take 1=[ops[i]]:=by
    rw[List.drop_eq_getElem_cons (by simpa using hi)];simp
   have c:lT ops (i::l)=ops[i]::lT ops l:=by
    unfold lT;rw[List.flatMap_cons,e];rfl
   have d:qt M ops.size i=M:=by unfold qt;rw[gK.2 hi];rfl
   rw[c];funext a w;simp only[fG,gT,ca,Rn hi,d,b]
theorem Fc (b:mY P){L:List Nat}{ops:Array hV}{M:Option (aa->Prop)}{f c:Nat}{K:List bU->aa->Prop}{K':gx->gb->Prop}{W:List Nat}{a0:gx}{w0:gb}
  (t:∀g j w',Holds N D g j->iA W a0 j->Alike w0 w'->jn M w'.heap->K g w'.heap->K' j w') (u:f<ops.size) (y:∀o∈ops.toList,∀d,o.dst=some d->W.contains d=true):
  ∀(l:List Nat),(∀i∈l,i<ops.size)->∀(E:List bU) (a:gx) (w:gb),Holds N D E a->iA W a0 a->Alike w0 w->jn M w.heap->NJ P N L ops M f c l E w.heap K->jN P M L ops f c K' l a w:=by
 have e:∀l:List Nat,∀o∈lT ops l,∀d,o.dst=some d->W.contains d=true:=λl o v=>by
  unfold lT at v;obtain⟨i,_,hi⟩:=Sm.1 v;exact y o (TI (RU hi))
 intro l
 induction l with
 |nil=>
   intro _ E a w hH m n p h;unfold jN;rw[mv [f] λi hi=>by rw[Q1] at hi;subst hi;exact u];exact cS b t _ (e _) E a w hH m n p h
 |cons i l z=>
   intro hl E a w hH m n p h;have hi:=hl i Q9;have r:=z λk hk=>hl k (Q8 _ hk);have full:il P N L ops M (lT ops (f::i::l)) E w.heap K->fG P M ops.size L ops K' (f::i::l) a w:=λs=>by
    rw[mv (f::i::l) λk hk=>by
     rcases QX.1 hk with q|q
     ·subst q;exact u
     ·exact hl k q]
    exact cS b t _ (e _) E a w hH m n p s
   have one:il P N L ops M (lT ops [i]) E w.heap (λg H'=>NJ P N L ops M f c l g H' K)->ca P M ops.size L ops i (jN P M L ops f c K' l) a w:=λs=>by
    have:=cS (K':=jN P M L ops f c K' l) b (λg j w' h1 A B C F=>r g j w' h1 A B C F) _ (e [i]) E a w hH m n p s;rw[<-mv [i] λk hk=>by rw[Q1] at hk;subst hk;exact hi] at this;exact this
   unfold NJ at h;unfold jN;cases x:VD c i with
   |true=>rw[x] at h;exact full h
   |false=>
     rw[x] at h;cases hs:iF P L ops f c i with
     |true=>rw[hs] at h;exact⟨full h.1,one h.2⟩
     |false=>rw[hs] at h;exact one h
theorem Bm (j:mY P)(hm:P.follows .mixedOrders=true){f c:Nat}{rn:Option Nat}{id:Nat}{ops:Array hV}{E:List bU}{a:gx}{w:gb}{K:List bU->aa->Prop}{Q:kl->gx->gb->Prop}
  (hH:Holds N D E a) (m:∀e b w',Holds N D e b->iA (Bv ops.toList) a b->Alike w w'->K e w'.heap->Q .normal b w')
  (h:No f c P N ops E w.heap K):(U7 id ops true).wpIn (FW rn) 0 P Q a w:=by
 have n:∀o∈ops.toList,∀d,o.dst=some d->(Bv ops.toList).contains d=true:=by
  intro o p d hd;rw[UL];exact Xr.2 ⟨o,p,hd⟩
 have hd:Alike w {w with drawn:=w.drawn+1}:=.of_le rfl (RB _);unfold No at h;simp only at h;cases g:uV P (rP P ops) ops f c (dF ops.toList []) with
 |false=>rw[g] at h;exact h.elim
 |true=>
   rw[g] at h;obtain⟨G,k,q⟩:=h;have l:=se g;exact sM (M:=some G) hm rfl g k (Fc j (λe b w' r s t _ u=>m e b w' r s t u) (WY l.fc l.cn) n _ (λi hi=>Rs.1 (Rp.1 hi).1) E a _ hH (.refl _ _) hd k q)
def NK (P:hQ)(N:Nat)(L:List Nat)(ops:Array hV)(M:Option (aa->Prop))(K:List bU->aa->Prop):Nat->List Nat->List bU->aa->Prop
 |0,_,E,H=>K E H
 |n+1,l,E,H=>(match ox (EL P L ops (dF ops.toList []) l) l with
   |some j=>il P N L ops M (lT ops [j]) E H λa H'=>NK P N L ops M K n (fL l j) a H'
   |none=>xI (jh (dF ops.toList []) l) (λj=>il P N L ops M (lT ops [j]) E H λa H'=>NK P N L ops M K n (fL l j) a H') l)
def Mq (ex:List Nat)(P:hQ)(N:Nat)(ops:Array hV)(E:List bU)(H:aa)(K:List bU->aa->Prop):Prop:=
 bif Oa ops then ∃G:aa->Prop,G H/\NK P N (ex++rP P ops) ops (some G) K ops.size (RI ops.size) E H else False
theorem Eg (e:mY P){L:List Nat}{ops:Array hV}{M:Option (aa->Prop)}{K:List bU->aa->Prop}{K':gx->gb->Prop}{W:List Nat}{a0:gx}{w0:gb}
  (t:∀b c w',Holds N D b c->iA W a0 c->Alike w0 w'->jn M w'.heap->K b w'.heap->K' c w') (u:∀o∈ops.toList,∀d,o.dst=some d->W.contains d=true):
  ∀(n:Nat) (l:List Nat),(∀i∈l,i<ops.size)->∀(E:List bU) (a:gx) (w:gb),Holds N D E a->iA W a0 a->Alike w0 w->jn M w.heap->NK P N L ops M K n l E w.heap->qg P M L ops K' n l a w:=by
 have f:∀l:List Nat,∀o∈lT ops l,∀d,o.dst=some d->W.contains d=true:=λl o s=>by
  unfold lT at s;obtain⟨i,_,hi⟩:=Sm.1 s;exact u o (TI (RU hi))
 intro n
 induction n with
 |zero=>
   intro l _ E a w hH g m p h;exact t E a w hH g m p h
 |succ n v=>
   intro l hl E a w hH g m p h;have one:∀j∈l,il P N L ops M (lT ops [j]) E w.heap (λb H'=>NK P N L ops M K n (fL l j) b H')->ca P M ops.size L ops j (qg P M L ops K' n (fL l j)) a w:=λj q x=>by
    have:=cS (K':=qg P M L ops K' n (fL l j)) e (λb c w' h1 y z A B=>v (fL l j) (λi hi=>hl i (gd.1 hi).1) b c w' h1 y z A B) _ (f [j]) E a w hH g m p x;rw[<-mv [j] λk hk=>by rw[Q1] at hk;subst hk;exact hl k q] at this;exact this
   unfold NK at h;unfold qg;cases r:ox (EL P L ops (dF ops.toList []) l) l with
   |some j=>rw[r] at h;exact one j (kT r).1 h
   |none=>rw[r] at h;exact rv (λj q=>one j q) h
theorem Cq (e:mY P)(hm:P.follows .mixedOrders=true){ex:List Nat}{rn:Option Nat}{id:Nat}{ops:Array hV}{E:List bU}{a:gx}{w:gb}{K:List bU->aa->Prop}{Q:kl->gx->gb->Prop}
  (hH:Holds N D E a) (j:∀c b w',Holds N D c b->iA (Bv ops.toList) a b->Alike w w'->K c w'.heap->Q .normal b w')
  (h:Mq ex P N ops E w.heap K):(U7 id ops true).wpIn (FW rn) 0 P Q a w:=by
 have k:∀o∈ops.toList,∀d,o.dst=some d->(Bv ops.toList).contains d=true:=by
  intro o l d hd;rw[UL];exact Xr.2 ⟨o,l,hd⟩
 have hd:Alike w {w with drawn:=w.drawn+1}:=.of_le rfl (RB _);unfold Mq at h;cases f:Oa ops with
 |false=>rw[f] at h;exact h.elim
 |true=>
   rw[f] at h;obtain⟨G,g,m⟩:=h;exact ql (M:=some G) hm rfl f g (Eg e (λc b w' n p q _ r=>j c b w' n p q r) k _ _ (λi hi=>Rs.1 hi) E a _ hH (.refl _ _) hd g m)
end
def ay (α:Type)(x0:α)(H:aa)(body:(α->aa->Prop)->α->aa->Prop):Prop:=
 ∃(γ:Type) (I:γ->α->aa->Prop) (m:γ->Nat),(∃g,I g x0 H)/\∀g x H',I g x H'->body (λx' a=>∃g',I g' x' a/\m g'<m g) x H'
def cut (α:Type)(A:(α->aa->Prop)->Prop)(B:α->aa->Prop):Prop:=∃J:α->aa->Prop,A J/\∀x H,J x H->B x H
abbrev CM:=List (Nat×List (Nat×fg))
def Ac:CM->Nat->Option (List (Nat×fg))
 |[],_=>none
 |p::r,k=>bif Rh p.1 k then some p.2 else Ac r k
def lead:kb->Option Nat
 |.region id _ _=>some id
 |.seq a b=>(match lead a with|some k=>some k|none=>lead b)
 |.cond _ x y=>(match lead x with|some k=>some k|none=>lead y)
 |.block _ c=>lead c
 |.loop c=>lead c
 |.scope c=>lead c
 |_=>none
def writes:kb->List Nat
 |.region _ ops _=>Bv ops.toList
 |.seq a b=>writes a++writes b
 |.cond _ x y=>writes x++writes y
 |.block _ c=>writes c
 |.loop c=>writes c
 |.scope c=>writes c
 |_=>[]
def vg (W:List Nat)(t:Nat):Bool:=W.any (Rh t)
def nf (W:List Nat)(e:bU):Bool:=!(vg W e.s)&&(match e.g with|some p=>!(vg W p.1)|none=>true)
def sR (sl:List (Nat×fg)):List fg:=sl.map (·.2)
def gm:List Nat->List gp->List bU
 |s::r,v::vs=>⟨s,v,none⟩::gm r vs
 |_,_=>[]
def CA (E:List bU):List Nat->Option (List gp)
 |[]=>some []
 |s::r=>(match find E s with
   |some ⟨_,v,none⟩=>(match CA E r with|some vs=>some (v::vs)|none=>none)
   |_=>none)
def uj (E:List bU)(sl:List (Nat×fg)):Option (du.α (sR sl)):=match CA E (sl.map (·.1)) with|some vs=>du.dec (sR sl) vs|none=>none
def ji {α:Type}(o:Option α)(K:α->Prop):Prop:=match o with|some x=>K x|none=>False
def N6 (A:CM)(b:kb):Option (List (Nat×fg)):=match lead b with|some k=>Ac A (100000+k)|none=>none
def vu (P:hQ)(N:Nat)(A:CM):kb->List bU->aa->(List bU->aa->Prop)->(Nat->List bU->aa->Prop)->(List bU->aa->Prop)->Prop
 |.skip,E,H,d,_,_=>d E H
 |.label _,E,H,d,_,_=>d E H
 |.region id ops draw,E,H,d,_,_=>(match (bif draw then Ac A (300000+id) else none) with
   |some (_::_::x::ex)=>Mq (ex.map (·.1)) P N ops E H d
   |some (f::c::_)=>No f.1 c.1 P N ops E H d
   |_=>OQ P N ops draw E H d)
 |.seq a b,E,H,d,e,g=>
   (match N6 A b with
   |none=>vu P N A a E H (λh H'=>vu P N A b h H' d e g) e g
   |some sl=>cut (du.α (sR sl)) (λJ=>vu P N A a E H (λh H'=>ji (uj h sl) λx=>J x H') e g)
     λx H'=>vu P N A b (gm (sl.map (·.1)) (du.enc (sR sl) x)++E.filter (nf (writes a))) H' d e g)
 |.cond c x y,E,H,d,e,g=>
   (match E4 E [] c with
   |some (.bool b)=>br b (vu P N A x E H d e g) (vu P N A y E H d e g)
   |_=>False)
 |.block id c,E,H,d,e,g=>vu P N A c E H d (λi h H'=>bif Rh i id then d h H' else e i h H') g
 |.loop c,E,H,_,e,g=>
   (match (match lead c with|some k=>Ac A k|none=>none) with
   |none=>False
   |some sl=>ji (uj E sl) λx0=>ay (du.α (sR sl)) x0 H λnext x H'=>
     vu P N A c (gm (sl.map (·.1)) (du.enc (sR sl) x)++E.filter (nf (writes c))) H' (λh j=>ji (uj h sl) λx'=>next x' j) e g)
 |.scope c,E,H,d,e,g=>vu P N A c E H d e g
 |.exit id,E,H,_,e,_=>e id E H
 |.ret,E,H,_,_,g=>g E H
 |_,_,_,_,_,_=>False
def wC (P:hQ):List nd->List bU->aa->(List gp->Prop)->Prop
 |[],_,_,K=>K []
 |.tmp t::r,E,H,K=>(match E4 E [] (.tmp t) with|some v=>wC P r E H (λvs=>K (v::vs))|none=>False)
 |.cell a t::r,E,H,K=>(bif uP E [] (.load t (.tmp a)) then ta P (.load t (.tmp a)) t (IK E []) none H (λv=>wC P r E H (λvs=>K (v::vs))) else False)
def oneOf:List gp->gp
 |[v]=>v
 |vs=>.tuple ⟨vs⟩
def Lf (P:hQ)(res:Array nd)(E:List bU)(H:aa)(R:gp->aa->Prop):Prop:=wC P res.toList E H λvs=>R (oneOf vs) H
def Ek:Nat->List gp->List bU
 |_,[]=>[]
 |k,v::r=>⟨k,v,none⟩::Ek (k+1) r
def cY:kb->Bool
 |.rangeFunc ..=>true
 |.seq a b=>cY a||cY b
 |.cond _ x y=>cY x||cY y
 |.block _ c=>cY c
 |_=>false
abbrev Rec:=LoopState->Option kb->Loop
def oS (l:Nat)(rec:Rec)(H:aa)(fin:aa->Prop)(b:Nat->aa->Prop)(a:aa->Prop):Prop:=
 ∃s p,H[l]?=some (.loop (rec s p))/\(s==YV)=false/\
   (match p with
   |none=>fin (H.setIfInBounds l (.loop (rec .exhausted none)))
   |some c=>(match c with
     |.exit id=>b id (H.setIfInBounds l (.loop (rec .exhausted (some (.exit id)))))
     |.ret=>a (H.setIfInBounds l (.loop (rec .exhausted (some .ret))))
     |_=>False))
def qc (P:hQ)(c:gp)(H:aa)(body:Nat->Rec->List gp->aa->(Bool->aa->Prop)->Prop)(fin:Nat->aa->Prop)(b:Nat->Nat->aa->Prop)(a:Nat->aa->Prop):Prop:=
 ∃g cap,c=.func (.func g) #[] cap/\c6 P g=true/\∀rec:Rec,
   (∀vs H' K,H'[H.size+1]?=some (.loop (rec .ready none))->body (H.size+1) rec vs H' K->cq P (H.size+1) vs.toArray H' K)->
   Spec P g (#[.func (.yield (H.size+1)) #[] #[]]++cap) ((H.push (.deferred (some []))).push (.loop (rec .ready none)))
    λ_ d=>oS (H.size+1) rec d (fin H.size) (λid=>b id H.size) (a H.size)
def oY:List Nat->Bool
 |[]=>true
 |x::r=>!(vg r x)&&oY r
def NS:List Nat->List Nat->Bool
 |[],[]=>true
 |x::r,y::t=>Rh x y&&NS r t
 |_,_=>false
def xy (P:hQ)(N:Nat)(A:CM)(E:List bU)(sl:List (Nat×fg))(assign body:kb)(l:Nat)(rec:Rec)(vs:List gp)(H:aa)(K:Bool->aa->Prop):Prop:=
 ji (du.dec (sR sl) vs) λx=>
  vu P N A assign (gm (sl.map (·.1)) (du.enc (sR sl) x)++E.filter (nf (sl.map (·.1)))) H
   (λb H1=>H1[l]?=some (.loop (rec .ready none))/\vu P N A body b (H1.setIfInBounds l (.loop (rec .busy none)))
    (λ_ a=>a[l]?=some (.loop (rec .busy none))/\K true (a.setIfInBounds l (.loop (rec .ready none))))
    (λid _ a=>a[l]?=some (.loop (rec .busy none))/\K false (a.setIfInBounds l (.loop (rec .done (some (.exit id))))))
    (λ_ a=>a[l]?=some (.loop (rec .busy none))/\K false (a.setIfInBounds l (.loop (rec .done (some .ret))))))
   (λ_ _ _=>False) (λ_ _=>False)
def GA (P:hQ)(N:Nat)(A:CM):kb->List Nat->List bU->aa->(List Nat->List bU->aa->Prop)->(Nat->List Nat->List bU->aa->Prop)->(List Nat->List bU->aa->Prop)->Prop
 |.seq a b,D,E,H,d,e,g=>
   bif cY a||cY b then GA P N A a D E H (λh j H'=>GA P N A b h j H' d e g) e g
   else vu P N A (.seq a b) E H (d D) (λi=>e i D) (g D)
 |.cond c x y,D,E,H,d,e,g=>
   bif cY x||cY y then
    (match E4 E [] c with
    |some (.bool b)=>br b (GA P N A x D E H d e g) (GA P N A y D E H d e g)
    |_=>False)
   else vu P N A (.cond c x y) E H (d D) (λi=>e i D) (g D)
 |.block id c,D,E,H,d,e,g=>
   bif cY c then GA P N A c D E H d (λi h j H'=>bif Rh i id then d h j H' else e i h j H') g
   else vu P N A (.block id c) E H (d D) (λi=>e i D) (g D)
 |.rangeFunc f ps assign body,D,E,H,d,e,g=>
   (match E4 E [] f,Ac A (200000+(lead body).getD 0) with
   |some k,some sl=>bif NS ps.toList (sl.map (·.1))&&(oY ps.toList&&ps.toList.all (λp=>SF p N)) then
     qc P k H (xy P N A E sl assign body) (λr H'=>d (r::D) E H') (λid r H'=>e id (r::D) E H') (λr H'=>g (r::D) E H') else False
   |_,_=>False)
 |c,D,E,H,d,e,g=>vu P N A c E H (d D) (λi=>e i D) (g D)
def Ce:List Nat->aa->(aa->Prop)->Prop
 |[],H,K=>K H
 |r::D,H,K=>H[r]?=some (.deferred (some []))/\Ce D (H.setIfInBounds r (.deferred none)) K
def Br (P:hQ)(res:Array nd)(D:List Nat)(E:List bU)(H:aa)(R:gp->aa->Prop):Prop:=Ce D H λH'=>Lf P res E H' R
def ON (P:hQ)(f:kc)(A:CM)(args:List gp)(H:aa)(R:gp->aa->Prop):Prop:=
 match P.funcs[f]? with
 |some fn=>(match fn.body with
   |some c=>(bif VD args.length fn.ntmps then GA P fn.ntmps A c [] (Ek 0 args) H (λD E H'=>Br P fn.results D E H' R) (λ_ _ _ _=>False) (λD E H'=>Br P fn.results D E H' R) else False)
   |none=>False)
 |none=>False
def N2 (c:fg)(P:hQ)(f:kc)(A:CM)(args:List gp)(H:aa)(R:c.α->aa->Prop):Prop:=
 ON P f A args H λv H'=>ji (c.dec v) λx=>R x H'
theorem hZ {α:Type}{o:Option α}{K:α->Prop}(h:ji o K):∃x,o=some x/\K x:=by
 cases o with
 |none=>exact h.elim
 |some x=>exact⟨x,rfl,h⟩
section
variable {P:hQ}{N:Nat}{D:List mj}{rn:Option Nat}
theorem dN (W:List Nat)(t:Nat):vg W t=W.contains t:=by
 unfold vg;rw[List.contains_eq_any_beq];congr 1;funext x;cases h:Rh t x with
 |true=>have:=Q0 h;subst this;simp
 |false=>
   have:t≠x:=λe=>by subst e;simp at h
   simpa using this
theorem Holds.ar {E:List bU}{a f:gx}{W:List Nat}(hH:Holds N D E a)(hs:f.tmps.size=N)(hd:f.defers=D)(i:iA W a f):Holds N D (E.filter (nf W)) f:=by
 refine⟨hs,hd,λe he=>?_⟩;obtain⟨h1,d⟩:=Rp.1 he;have c:=hH.all e h1;unfold nf at d;simp only[QY,R7,dN] at d;have g:=i e.s d.1;unfold fR at c ⊢;cases j:e.g with
 |none=>rw[j] at c;exact g.trans c
 |some p=>
   rw[j] at c d;obtain⟨s,b⟩:=p;have k:=i s (by have:=d.2;simpa using this);refine⟨λh=>g.trans (c.1 (k.symm.trans h)),λh=>g.trans (c.2 λq=>h (k.trans q))⟩
theorem Holds.append {E b:List bU}{a:gx}(h:Holds N D E a)(k:Holds N D b a):Holds N D (E++b) a:=
 ⟨h.size,h.defers,λe he=>(QQ.1 he).elim (h.all e) (k.all e)⟩
theorem tC {E:List bU}{a:gx}(hH:Holds N D E a):∀{l:List Nat} {vs:List gp},CA E l=some vs->Holds N D (gm l vs) a
 |[],vs,h=>⟨hH.size,hH.defers,by cases vs<;>simp[gm]⟩
 |s::r,vs,h=>by
   unfold CA at h;split at h
   ·rename_i s' v d;split at h
    ·rename_i b f;have e:v::b=vs:=Rc h;subst e;have g:=tC hH f;obtain⟨h1,c⟩:=gn d;refine⟨hH.size,hH.defers,λe he=>?_⟩;simp only[gm] at he;rcases QX.1 he with he|he
     ·subst he;have:=hH.all _ h1;simp only at c;subst c;exact this
     ·exact g.all e he
    ·cases h
   ·cases h
theorem mM {E:List bU}{a:gx}{sl:List (Nat×fg)}{x:du.α (sR sl)}(hH:Holds N D E a)(h:uj E sl=some x):Holds N D (gm (sl.map (·.1)) (du.enc (sR sl) x)) a:=by
 unfold uj at h;split at h
 ·rename_i vs b;have:=du.ok _ _ _ h;rw[<-this];exact tC hH b
 ·cases h
theorem exists_least {p:Nat->Prop}:∀n,p n->∃k,p k/\∀j,p j->k<=j:=by
 intro n
 induction n using X9 with
 |_ n a=>
   intro b;by_cases h:∃j,j<n/\p j
   ·obtain⟨j,h1,c⟩:=h;exact a j h1 c
   ·exact⟨n,b,λj d=>by
     rcases RA j n with h1|h1
     ·exact absurd ⟨j,h1,d⟩ h
     ·exact h1⟩
open Classical in
noncomputable def least (p:Nat->Prop):Nat:=if h:∃k,p k/\∀j,p j->k<=j then h.choose else 0
theorem uo {p:Nat->Prop}{n:Nat}(h:p n):p (least p)/\∀j,p j->least p<=j:=by
 have h1:=exists_least n h;unfold least;rw[dif_pos h1];exact h1.choose_spec
def sG (a:List bU->aa->Prop)(b:Nat->List bU->aa->Prop)(c:List bU->aa->Prop):kl->List bU->aa->Prop
 |.normal,E,H=>a E H
 |.exit id,E,H=>b id E H
 |.ret,E,H=>c E H
 |_,_,_=>False
def post (N:Nat)(D:List mj)(W:List Nat)(a:gx)(w:gb)(d:List bU->aa->Prop)(f:Nat->List bU->aa->Prop)(g:List bU->aa->Prop)(e:kl)(b:gx)(w':gb):Prop:=
 ∃c,Holds N D c b/\iA W a b/\Alike w w'/\sG d f g e c w'.heap
theorem Be {F:Fence}{n:Nat}{Q:kl->gx->gb->Prop}{a:gx}{w:gb}{c:kb}(h:c.wpIn F n P (λe a w=>match e with|.goto _=>False|e=>Q e a w) a w):(Code.scope c).wpIn F n P Q a w:=by
 intro b k cs j m o;have g:(lone (b.atR a (.code (.scope c)::k)) cs w).fenced P F:=fenced_calm m o rfl;have s1:step P (lone (b.atR a (.code (.scope c)::k)) cs w)=.next (lone (b.atR a (.code c::.inScope c::k)) cs w):=step_lone_go (by simp[stepG,ZS,Z5])
 have s2:∀a w,step P (lone (b.atR a (.inScope c::k)) cs w)=.next (lone (b.atR a k) cs w):=λa w=>step_lone_go (by simp[stepG,ZS,Z5])
 obtain⟨e,a₁,w₁,i,d⟩:=h b (.inScope c::k) cs j m o;cases e with
 |normal=>exact⟨.normal,a₁,w₁,i,.head g s1 (StepsIn.trans d (.one (fenced_calm m o rfl) (s2 _ _)))⟩
 |exit f=>
   have q:exitTo f (.inScope c::k)=exitTo f k:=by simp[exitTo]
   exact⟨.exit f,a₁,w₁,i,λr hk=>.head g s1 (d.1 r (by rw[q];exact hk)),
    λp hk=>let ⟨k₁,h1,s⟩:=d.2 p (by rw[q];exact hk);⟨k₁,h1,.head g s1 s⟩⟩
 |goto l=>exact i.elim
 |ret=>exact⟨_,a₁,w₁,i,.of_steps (.one g s1) d⟩
 |panic ch=>exact⟨_,a₁,w₁,i,.of_steps (.one g s1) d⟩
 |outgrown=>exact⟨_,a₁,w₁,i,.of_steps (.one g s1) d⟩
theorem df (o:mY P)(hm:P.follows .mixedOrders=true)(A:CM):∀(c:kb) (E:List bU) (a:gx) (w:gb) (r:List bU->aa->Prop) (s:Nat->List bU->aa->Prop) (u:List bU->aa->Prop),
  Holds N D E a->vu P N A c E w.heap r s u->c.wpIn (FW rn) 0 P (post N D (writes c) a w r s u) a w
 |.skip,E,a,w,r,s,u,hH,h=>wpIn_skip ⟨E,hH,.refl _ _,.refl _,h⟩
 |.label _,E,a,w,r,s,u,hH,h=>wpIn_label ⟨E,hH,.refl _ _,.refl _,h⟩
 |.exit id,E,a,w,r,s,u,hH,h=>wpIn_exit ⟨E,hH,.refl _ _,.refl _,h⟩
 |.ret,E,a,w,r,s,u,hH,h=>wpIn_ret ⟨E,hH,.refl _ _,.refl _,h⟩
 |.region id ops draw,E,a,w,r,s,u,hH,h=>by
   simp only[vu] at h;split at h
   ·rename_i _ _ _ ex hl;cases draw with
    |false=>cases hl
    |true=>exact Cq o hm hH (λk q w' h1 j l d=>⟨k,h1,j,l,d⟩) h
   ·rename_i f c _ _ hl;cases draw with
    |false=>cases hl
    |true=>exact Bm o hm hH (λk q w' h1 j l d=>⟨k,h1,j,l,d⟩) h
   ·exact DJ o hm hH (λk q w' h1 j l d=>⟨k,h1,j,l,d⟩) h
 |.cond c x y,E,a,w,r,s,u,hH,h=>by
   simp only[vu] at h;split at h
   ·rename_i b U;have ec:=ia hH (by simp) U;refine wpIn_cond ec ?_;cases b with
    |true=>
      exact RX (λe q w' ⟨k,h1,j,l,d⟩=>⟨k,h1,j.mono (λt z=>by
       simp only[writes,<-dN,vg,T9,Sp] at z ⊢;exact z.1),l,d⟩) (df o hm A x E a w r s u hH h)
    |false=>
      exact RX (λe q w' ⟨k,h1,j,l,d⟩=>⟨k,h1,j.mono (λt z=>by
       simp only[writes,<-dN,vg,T9,Sp] at z ⊢;exact z.2),l,d⟩) (df o hm A y E a w r s u hH h)
   ·exact h.elim
 |.block id c,E,a,w,r,s,u,hH,h=>by
   refine wpIn_block (RX (λe q w' B=>?_) (df o hm A c E a w _ _ _ hH h));obtain⟨k,h1,j,l,d⟩:=B;cases e<;>simp only[sG] at d<;>try exact d.elim
   case normal=>exact⟨k,h1,j,l,d⟩
   case exit i=>
    simp only[Zn];by_cases hi:i=id
    ·subst hi;rw[if_pos rfl];have V:Rh i i=true:=Z6 i;rw[V] at d;exact⟨k,h1,j,l,d⟩
    ·rw[if_neg hi];have V:Rh i id=false:=by
      cases U:Rh i id with
      |false=>rfl
      |true=>exact absurd (Q0 U) hi
     rw[V] at d;exact⟨k,h1,j,l,d⟩
   case ret=>exact⟨k,h1,j,l,d⟩
 |.seq x y,E,a,w,r,s,u,hH,h=>by
   have H:∀t,(writes (.seq x y)).contains t=false->(writes x).contains t=false:=λt z=>by
    simp only[writes,<-dN,vg,T9,Sp] at z ⊢;exact z.1
   have wy:∀t,(writes (.seq x y)).contains t=false->(writes y).contains t=false:=λt z=>by
    simp only[writes,<-dN,vg,T9,Sp] at z ⊢;exact z.2
   simp only[vu] at h;split at h
   ·refine wpIn_seq (RX (λe q w' B=>?_) (df o hm A x E a w _ _ _ hH h));obtain⟨k,h1,j,l,d⟩:=B;cases e<;>simp only[sG] at d<;>try exact d.elim
    case normal=>
     exact RX (λe W X ⟨F,K,O,R,S⟩=>⟨F,K,(j.mono H).trans (O.mono wy),l.trans R,S⟩) (df o hm A y k q w' r s u h1 d)
    case exit i=>exact⟨k,h1,j.mono H,l,d⟩
    case ret=>exact⟨k,h1,j.mono H,l,d⟩
   ·rename_i sl hsl;obtain⟨J,hA,hB⟩:=h;refine wpIn_seq (RX (λe q w' B=>?_) (df o hm A x E a w _ _ _ hH hA));obtain⟨k,h1,j,l,d⟩:=B;cases e<;>simp only[sG] at d<;>try exact d.elim
    case normal=>
     obtain⟨v,hv,hJ⟩:=hZ d;have Y:=(mM h1 hv).append (hH.ar h1.size h1.defers j);exact RX (λe W X ⟨F,K,O,R,S⟩=>⟨F,K,(j.mono H).trans (O.mono wy),l.trans R,S⟩) (df o hm A y _ q w' r s u Y (hB _ _ hJ))
    case exit i=>exact⟨k,h1,j.mono H,l,d⟩
    case ret=>exact⟨k,h1,j.mono H,l,d⟩
 |.loop c,E,a,w,r,s,u,hH,h=>by
   simp only[vu] at h;split at h
   ·exact h.elim
   ·rename_i sl hsl;obtain⟨x0,Z,γ,I,m,⟨g0,af⟩,C⟩:=hZ h
    let Inv:γ->gx->gb->Prop:=λg q w'=>∃x,Holds N D (gm (sl.map (·.1)) (du.enc (sR sl) x)++E.filter (nf (writes c))) q/\iA (writes c) a q/\Alike w w'/\I g x w'.heap
    let p:gx->gb->Nat->Prop:=λq w' n=>∃g,m g=n/\Inv g q w'
    refine wpIn_loop (λq w'=>∃g,Inv g q w') (λq w'=>least (p q w')) ?_ ?_
    ·exact⟨g0,x0,(mM hH Z).append (hH.ar hH.size hH.defers (.refl _ _)),.refl _ _,.refl _,af⟩
    ·intro a1 w1 ⟨g,hg⟩;obtain⟨⟨g1,a7,x1,K,O,R,S⟩,a6⟩:=uo (p:=p a1 w1) (n:=m g) ⟨g,rfl,hg⟩;refine RX (λe q w' B=>?_) (df o hm A c _ a1 w1 _ _ _ K (C g1 x1 _ S));obtain⟨k,h1,j,l,d⟩:=B;have T:iA (writes c) a q:=O.trans j;have G:Alike w w':=R.trans l;cases e<;>simp only[sG] at d<;>try exact d.elim
     case normal=>
      obtain⟨x',al,g',an,a8⟩:=hZ d;have hinv:Inv g' q w':=⟨x',(mM h1 al).append (hH.ar h1.size h1.defers T),T,G,an⟩;refine⟨⟨g',hinv⟩,?_⟩;have:=(uo (p:=p q w') (n:=m g') ⟨g',rfl,hinv⟩).2 (m g') ⟨g',rfl,hinv⟩;omega
     case exit i=>exact⟨k,h1,T,G,d⟩
     case ret=>exact⟨k,h1,T,G,d⟩
 |.rangeFunc _ _ _ _,_,_,_,_,_,_,_,h=>h.elim
 |.scope c,E,a,w,r,s,u,hH,h=>by
   refine Be (RX (λe q w' B=>?_) (df o hm A c E a w r s u hH h));obtain⟨k,h1,j,l,d⟩:=B;cases e<;>simp only[sG] at d<;>try exact d.elim
   all_goals exact⟨k,h1,j,l,d⟩
 |.goto _,_,_,_,_,_,_,_,h=>h.elim
 |.refuse _,_,_,_,_,_,_,_,h=>h.elim
theorem np {E:List bU}{a:gx}{w:gb}(hH:Holds N D E a):∀{l:List nd} {K:List gp->Prop},wC P l E w.heap K->
  ∃vs,(l.mapM λr=>(match r with
    |.tmp t=>pure (a.tmps.getD t undef)
    |.cell ad t=>do loadVar t (<-asAddr (a.tmps.getD ad undef)):ik gp)).run P w=.ok vs w/\K vs
 |[],K,h=>⟨[],rfl,h⟩
 |.tmp t::r,K,h=>by
   simp only[wC] at h;split at h
   ·rename_i v j;obtain⟨vs,h1,d⟩:=np hH h;have e:a.tmps.getD t undef=v:=ia (x:=.tmp t) hH (by simp) j;refine⟨v::vs,?_,d⟩;rw[Yl];simp only[Rk,RN,Rl,e];rw[h1];rfl
   ·exact h.elim
 |.cell ad t::r,K,h=>by
   simp only[wC] at h;cases f:uP E [] (.load t (.tmp ad)) with
   |false=>rw[f] at h;exact h.elim
   |true=>
     rw[f] at h;simp only[cond_true] at h;obtain⟨v,h1,d⟩:=jQ (o:=⟨none,.load t (.tmp ad),t,"",#[],none⟩) h;obtain⟨vs,k,m⟩:=np hH d;have c:=h1 w rfl;rw[<-rH (o:=⟨none,.load t (.tmp ad),t,"",#[],none⟩) hH (by simp) f (by intro cs b e;cases e)] at c;simp only[execOp,Ya,Rk] at c;refine⟨v::vs,?_,m⟩;rw[Yl];have g:(do loadVar t (<-asAddr (a.tmps.getD ad undef)):ik gp).run P w=.ok v w:=by
      have n:a.eval (.tmp ad)=a.tmps.getD ad undef:=rfl;rw[n] at c;generalize a.tmps.getD ad undef=q at*;cases q with
      |pointer p=>
        cases p with
        |none=>simp[Te] at c
        |some ad=>
          simp only[Te,RN,Rl] at c;simp only[asAddr,Rk,RN,Rl];cases i:(loadVar t ad).run P w with
          |ok u s=>rw[i] at c;simp at c;rw[c.1,c.2]
          |halt x s=>rw[i] at c;simp at c
      |_=>simp[Te] at c
     simp only[Rk] at g ⊢;rw[g];simp only[Rl,k,RN]
theorem AB {fn:Func}{E:List bU}{a:gx}{w:gb}{R:gp->aa->Prop}(hH:Holds N D E a)(h:Lf P fn.results E w.heap R):
  ∃v,(results fn a.tmps).run P w=.ok v w/\R v w.heap:=by
 obtain⟨vs,h1,b⟩:=np hH h;refine⟨oneOf vs,?_,b⟩;unfold results;rw[Rk,Array.mapM_eq_mapM_toList,Sem.run_map];have e:∀{g:nd->ik gp},(fn.results.toList.mapM g).run P w=.ok vs w->
   ((((fn.results.toList.mapM g).run P w).andThen λa w'=>Result.ok a.toArray w').andThen λvs w'=>(pure (if h:vs.size=1 then vs[0] else .tuple vs):ik gp).run P w')=.ok (oneOf vs) w:=by
  intro g c;rw[c];simp only[Rl,RN];congr 1;cases vs with
  |nil=>rfl
  |cons v r=>
    cases r with
    |nil=>rfl
    |cons v2 r=>simp[oneOf]
 exact e h1
def pZ (r:Nat):mj:={target:=.collected r,args:=#[]}
theorem wH {fn:Func}{tmps:Array gp}{R:Ending->gb->Prop}{w0:gb}{K:aa->Prop}(b:∀w,Alike w0 w->K w.heap->LeavesIn WG 0 P fn tmps R [] .returning w):
  ∀(D:List Nat) (w:gb),Alike w0 w->Ce D w.heap K->LeavesInM WG 0 P fn tmps R (D.map pZ) .returning w
 |[],w,a,h=>b w a h
 |r::D,w,a,h=>by
   obtain⟨h1,c⟩:=h;refine⟨by simp,.inl ⟨r,{w with heap:=w.heap.setIfInBounds r (.deferred none)},rfl,?_,wH b D _ (a.trans (.of_le rfl (QN _))) c⟩⟩;simp[Instr.takeDeferred,getObj,setObj,Sn,h1]
theorem ui {W:List Nat}{t:Nat}:vg W t=true↔t∈W:=by
 rw[dN];simp
theorem wh:∀(ps:List Nat) (vs:List gp) (a:Array gp),((ps.zip vs).foldl (λt (p,v)=>t.setIfInBounds p v) a).size=a.size
 |[],_,_=>rfl
 |_::_,[],_=>rfl
 |p::ps,v::vs,a=>by simp only[Wv,Tx];rw[wh ps vs];simp
theorem kK:∀(ps:List Nat) (vs:List gp) (a:Array gp) (t:Nat),t∉ps->((ps.zip vs).foldl (λt (p,v)=>t.setIfInBounds p v) a)[t]?=a[t]?
 |[],_,_,_,_=>rfl
 |_::_,[],_,_,_=>rfl
 |p::ps,v::vs,a,t,h=>by
   simp only[QX,not_or] at h;simp only[Wv,Tx];rw[kK ps vs _ t h.2,Sa (Sg h.1)]
theorem tj:∀(ps:List Nat) (vs:List gp) (b:Array gp),oY ps=true->(∀p∈ps,p<b.size)->∀e∈gm ps vs,e.g=none/\((ps.zip vs).foldl (λt (p,v)=>t.setIfInBounds p v) b)[e.s]?=some e.v
 |[],vs,_,_,_,e,he=>by cases vs<;>simp[gm] at he
 |_::_,[],_,_,_,e,he=>by simp[gm] at he
 |p::ps,v::vs,b,a,d,e,he=>by
   simp only[oY,QY,R7] at a;simp only[gm] at he;simp only[Wv,Tx];rcases QX.1 he with he|he
   ·subst he;refine⟨rfl,?_⟩;have c:p∉ps:=λh=>by rw[ui.2 h] at a;cases a.1
    rw[kK ps vs _ p c];simp[d p Q9]
   ·exact tj ps vs _ a.2 (λq f=>by simpa using d q (Q8 _ f)) e he
theorem zx {E:List bU}{a:gx}(hH:Holds N D E a){ps:List Nat}{vs:List gp}(l:oY ps=true)(m:∀p∈ps,p<N):
  Holds N [] (gm ps vs++E.filter (nf ps)) {tmps:=(ps.zip vs).foldl (λt (p,v)=>t.setIfInBounds p v) a.tmps,defers:=[]}:=by
 refine⟨(wh _ _ _).trans hH.size,rfl,λe he=>?_⟩;rcases QQ.1 he with he|he
 ·obtain⟨h1,d⟩:=tj ps vs a.tmps l (λp f=>by rw[hH.size];exact m p f) e he;unfold fR;rw[h1];exact d
 ·obtain⟨h1,d⟩:=Rp.1 he;have c:=hH.all e h1;unfold nf at d;simp only[QY,R7] at d;have g:((ps.zip vs).foldl (λt (p,v)=>t.setIfInBounds p v) a.tmps)[e.s]?=a.tmps[e.s]?:=kK _ _ _ _ (λh=>by rw[ui.2 h] at d;cases d.1);unfold fR at c ⊢;cases j:e.g with
  |none=>rw[j] at c;exact g.trans c
  |some p=>
    rw[j] at c d;obtain⟨s,b⟩:=p;have k:((ps.zip vs).foldl (λt (p,v)=>t.setIfInBounds p v) a.tmps)[s]?=a.tmps[s]?:=kK _ _ _ _ (λh=>by
     have i:=d.2;simp only[R7] at i;rw[ui.2 h] at i;cases i)
    exact⟨λh=>g.trans (c.1 (k.symm.trans h)),λh=>g.trans (c.2 λq=>h (k.trans q))⟩
theorem FY:∀{a b:List Nat},NS a b=true->a=b
 |[],[],_=>rfl
 |x::r,y::t,h=>by
   simp only[NS,QY] at h;rw[Q0 h.1,FY h.2]
def xh (a:List Nat->List bU->aa->Prop)(b:Nat->List Nat->List bU->aa->Prop)(c:List Nat->List bU->aa->Prop):kl->List Nat->List bU->aa->Prop
 |.normal,D,E,H=>a D E H
 |.exit id,D,E,H=>b id D E H
 |.ret,D,E,H=>c D E H
 |_,_,_,_=>False
def wQ (N:Nat)(w:gb)(c:List Nat->List bU->aa->Prop)(d:Nat->List Nat->List bU->aa->Prop)(f:List Nat->List bU->aa->Prop)(e:kl)(g:gx)(w':gb):Prop:=
 ∃a b,Holds N (a.map pZ) b g/\Alike w w'/\xh c d f e a b w'.heap
theorem db (b:mY P)(hm:P.follows .mixedOrders=true){A:CM}{c:kb}{D:List Nat}{E:List bU}{a:gx}{w:gb}{d:List Nat->List bU->aa->Prop}{f:Nat->List Nat->List bU->aa->Prop}{g:List Nat->List bU->aa->Prop}
  (hH:Holds N (D.map pZ) E a) (h:vu P N A c E w.heap (d D) (λi=>f i D) (g D)):c.wpIn (FW none) 0 P (wQ N w d f g) a w:=
 RX (λe m w' ⟨k,h1,_,l,j⟩=>⟨D,k,h1,l,by cases e<;>first|exact j|exact j.elim⟩) (df b hm A c E a w _ _ _ hH h)
theorem vo (B:mY P)(hm:P.follows .mixedOrders=true){A:CM}{f:ka}{ps:Array Tmp}{assign body:kb}{D:List Nat}{E:List bU}{a:gx}{w:gb}{fv:gp}{sl:List (Nat×fg)}
  {Kn:List Nat->List bU->aa->Prop} {Kx:Nat->List Nat->List bU->aa->Prop} {Kr:List Nat->List bU->aa->Prop}
  (hH:Holds N (D.map pZ) E a) (hf:E4 E [] f=some fv) (C:ps.toList=sl.map (·.1)) (af:oY ps.toList=true) (al:∀p∈ps.toList,p<N)
  (h:qc P fv w.heap (xy P N A E sl assign body) (λr H'=>Kn (r::D) E H') (λid r H'=>Kx id (r::D) E H') (λr H'=>Kr (r::D) E H')):
  (Code.rangeFunc f ps assign body).wpIn (FW none) 0 P (wQ N w Kn Kx Kr) a w:=by
 obtain⟨g,cap,rfl,k,h⟩:=h;have an:a.eval f=.func (.func g) #[] cap:=ia hH (by simp) hf;refine wpIn_rangeFunc (λfn _=>?_);obtain⟨rec,i⟩:∃rec:Rec,rec=λst pe=>{state:=st,pending:=pe,fn,tmps:=a.tmps,params:=ps,assign,body,defers:=w.heap.size}:=⟨_,rfl⟩;have m:∀s p,(rec s p).state=s:=λs p=>by rw[i]
 have F:∀s p,(rec s p).pending=p:=λs p=>by rw[i]
 have T:∀s p s' p',({rec s p with state:=s',pending:=p'}:Loop)=rec s' p':=λs p s' p'=>by rw[i]
 have G:∀s p s',({rec s p with state:=s'}:Loop)=rec s' p:=λs p s'=>by rw[i]
 let H:gb:={w with heap:=(w.heap.push (.deferred (some []))).push (.loop (rec .ready none))}
 have bb:(w.heap.push (Obj.deferred (some []))).size=w.heap.size+1:=by simp
 refine⟨w.heap.size+1,[pZ w.heap.size],H,{target:=.fn (.func g) cap,args:=#[.func (.yield (w.heap.size+1)) #[] #[]]},H,g,#[.func (.yield (w.heap.size+1)) #[] #[]]++cap,H,?_,?_,λ_ _=>trivial,?_,(λhh=>by cases hh),?_⟩
 ·show (YE fn a.tmps ps assign body none).run P w=_;subst i;simp[YE,newObj,Rk,Sn,pZ,H];rfl
 ·show (Ud (a.eval f) (#[Operand.const (.func (.yield (w.heap.size+1)) #[] #[])].map a.eval)).run P H=_;rw[an];simp[Ud];rfl
 ·unfold c6 at k;split at k
  ·rename_i a6 U;obtain⟨b,hb⟩:=TC.1 k;have h1:a6.name≠"runtime.NumGoroutine":=by simpa using B _ _ U
   simp[invoke,callFunc,U,h1,hb]
  ·cases k
 ·-- the call
  have o:∀vs H' K,H'[w.heap.size+1]?=some (.loop (rec .ready none))->xy P N A E sl assign body (w.heap.size+1) rec vs H' K->cq P (w.heap.size+1) vs.toArray H' K:=by
   intro vs H' K hl hr W hW;subst hW;obtain⟨x,hx,hr⟩:=hZ hr;have I:=du.ok _ _ _ hx;have hlen:vs.length=ps.size:=by
    have e1:∀(l:List fg) (y:du.α l),(du.enc l y).length=l.length:=by
     intro l
     induction l with
     |nil=>intro y;rfl
     |cons c r ih=>
       intro y;cases r with
       |nil=>rfl
       |cons d r=>simp only[du.enc,Rr];rw[ih];rfl
    rw[I,e1];have:=congrArg List.length C;simp only[Array.length_toList,List.length_map] at this;rw[this];simp[sR]
   have V:(Yj (w.heap.size+1) vs.toArray).run P W=.ok (.round (w.heap.size+1) fn ((ps.zip vs.toArray).foldl (λtmps (t,a)=>tmps.setIfInBounds t a) a.tmps) assign body) W:=by
    have e2:(rec .ready none).params=ps/\(rec .ready none).fn=fn/\(rec .ready none).tmps=a.tmps/\(rec .ready none).assign=assign/\(rec .ready none).body=body:=by rw[i];exact⟨rfl,rfl,rfl,rfl,rfl⟩
    simp[Yj,WM,getObj,Sn,hl,e2,hlen]
   rw[V];simp only[qv];have J:(ps.zip vs.toArray).foldl (λtmps (t,a)=>tmps.setIfInBounds t a) a.tmps=(ps.toList.zip vs).foldl (λt (p,v)=>t.setIfInBounds p v) a.tmps:=by
    rw[<-Array.foldl_toList];simp
   rw[J];have X:=zx hH (vs:=vs) af al;rw[C,I] at X;rw[C,I];refine roundIn_of_wpIn trivial (RX (λe a1 w1 hp=>?_) (df (rn:=some (w.heap.size+1)) B hm A assign _ _ W _ _ _ X hr));obtain⟨E1,k1,k2,k3,k4⟩:=hp;cases e<;>simp only[sG] at k4<;>try exact k4.elim
   obtain⟨k5,k6⟩:=k4
   let Z:gb:={w1 with heap:=w1.heap.setIfInBounds (w.heap.size+1) (.loop (rec .busy none))}
   refine⟨Z,?_,RX (λe a2 S hp=>?_) (df (rn:=some (w.heap.size+1)) B hm A body E1 a1 Z _ _ _ k1 k6)⟩
   ·simp[Instr.beginRound,WM,getObj,setObj,Sn,k5,G,m,Z]
   ·obtain⟨E2,q1,q2,q3,z⟩:=hp;have O:Alike W S:=(k3.trans (.of_le rfl (QN _)):Alike W Z).trans q3;have fin:∀(j:Option kb) (s:LoopState),s=(if j.isNone then .ready else .done)->S.heap[w.heap.size+1]?=some (.loop (rec .busy none))->K j.isNone (S.heap.setIfInBounds (w.heap.size+1) (.loop (rec s j)))->
      ∃v w',(YW (w.heap.size+1) j).run P S=.ok v w'/\∃u,Ending.returned v=.returned u/\(∃b,u=.bool b/\K b w'.heap/\Alike W w'):=by
     intro j s hs a7 hk;refine⟨.bool j.isNone,{S with heap:=S.heap.setIfInBounds (w.heap.size+1) (.loop (rec s j))},?_,_,rfl,_,rfl,hk,O.trans (.of_le rfl (QN _))⟩;subst hs;simp[YW,WM,getObj,setObj,Sn,a7,T]
    cases e<;>simp only[sG] at z<;>try exact z.elim
    case normal=>exact fin none .ready rfl z.1 z.2
    case exit id=>exact fin (some (.exit id)) .done rfl z.1 z.2
    case ret=>exact fin (some .ret) .done rfl z.1 z.2
  have q:=h rec o H rfl;refine callsIn_wide.2 (q.mono λe w3 ⟨v,he,hk,O⟩=>?_);subst he;obtain⟨s,p,hl,hb,hk⟩:=hk;have R:Holds N ((w.heap.size::D).map pZ) E {a with defers:=[pZ w.heap.size]++a.defers}:=
   ⟨hH.size,by rw[hH.defers];rfl,λe he=>hH.all e he⟩
  have n:Alike w w3:=(.of_le rfl (QN _):Alike w H).trans O;have Y:(Y8 (w.heap.size+1)).run P w3=.ok p {w3 with heap:=w3.heap.setIfInBounds (w.heap.size+1) (.loop (rec .exhausted p))}:=by
   have a8:s≠YV:=by intro e;subst e;cases hb
   simp[Y8,WM,getObj,setObj,Sn,hl,F,m,a8];subst i;rfl
  refine⟨p,_,Y,?_⟩;cases p with
  |none=>exact⟨w.heap.size::D,E,R,n.trans (.of_le rfl (QN _)),hk⟩
  |some c=>
    cases c<;>simp only at hk<;>try exact hk.elim
    case exit id=>exact wpIn_exit ⟨w.heap.size::D,E,R,n.trans (.of_le rfl (QN _)),hk⟩
    case ret=>exact wpIn_ret ⟨w.heap.size::D,E,R,n.trans (.of_le rfl (QN _)),hk⟩
theorem wQ.then {w a:gb}{b:List Nat->List bU->aa->Prop}{c:Nat->List Nat->List bU->aa->Prop}{d:List Nat->List bU->aa->Prop}(h:Alike w a){e:kl}{f:gx}{w':gb}(g:wQ N a b c d e f w'):wQ N w b c d e f w':=by
 obtain⟨i,j,h1,k,l⟩:=g;exact⟨i,j,h1,h.trans k,l⟩
theorem iT (d:mY P)(hm:P.follows .mixedOrders=true)(A:CM):∀(c:kb) (D:List Nat) (E:List bU) (a:gx) (w:gb) (j:List Nat->List bU->aa->Prop) (k:Nat->List Nat->List bU->aa->Prop) (l:List Nat->List bU->aa->Prop),
  Holds N (D.map pZ) E a->GA P N A c D E w.heap j k l->c.wpIn (FW none) 0 P (wQ N w j k l) a w
 |.seq x y,D,E,a,w,j,k,l,hH,h=>by
   simp only[GA] at h;cases g:(cY x||cY y) with
   |false=>rw[g] at h;exact db d hm hH h
   |true=>
     rw[g] at h;simp only[cond_true] at h;refine wpIn_seq (RX (λe t w' r=>?_) (iT d hm A x D E a w _ _ _ hH h));obtain⟨n,o,h1,q,m⟩:=r;cases e<;>simp only[xh] at m<;>try exact m.elim
     case normal=>exact RX (λe u v r=>r.then q) (iT d hm A y n o t w' j k l h1 m)
     case exit i=>exact⟨n,o,h1,q,m⟩
     case ret=>exact⟨n,o,h1,q,m⟩
 |.cond c x y,D,E,a,w,j,k,l,hH,h=>by
   simp only[GA] at h;cases g:(cY x||cY y) with
   |false=>rw[g] at h;exact db d hm hH h
   |true=>
     rw[g] at h;simp only[cond_true] at h;split at h
     ·rename_i b g;have z:=ia hH (by simp) g;refine wpIn_cond z ?_;cases b with
      |true=>exact iT d hm A x D E a w j k l hH h
      |false=>exact iT d hm A y D E a w j k l hH h
     ·exact h.elim
 |.block id c,D,E,a,w,j,k,l,hH,h=>by
   simp only[GA] at h;cases g:cY c with
   |false=>rw[g] at h;exact db d hm hH h
   |true=>
     rw[g] at h;simp only[cond_true] at h;refine wpIn_block (RX (λe t w' r=>?_) (iT d hm A c D E a w _ _ _ hH h));obtain⟨n,o,h1,q,m⟩:=r;cases e<;>simp only[xh] at m<;>try exact m.elim
     case normal=>exact⟨n,o,h1,q,m⟩
     case exit i=>
      simp only[Zn];by_cases hi:i=id
      ·subst hi;rw[if_pos rfl];have s:Rh i i=true:=Z6 i;rw[s] at m;exact⟨n,o,h1,q,m⟩
      ·rw[if_neg hi];have s:Rh i id=false:=by
        cases g:Rh i id with
        |false=>rfl
        |true=>exact absurd (Q0 g) hi
       rw[s] at m;exact⟨n,o,h1,q,m⟩
     case ret=>exact⟨n,o,h1,q,m⟩
 |.rangeFunc f ps assign body,D,E,a,w,j,k,l,hH,h=>by
   simp only[GA] at h;split at h
   ·rename_i C sl B hsl;cases g:(NS ps.toList (sl.map (·.1))&&(oY ps.toList&&ps.toList.all (λp=>SF p N))) with
    |false=>rw[g] at h;exact h.elim
    |true=>
      rw[g] at h;simp only[cond_true] at h;simp only[QY,R6] at g;exact vo d hm hH B (FY g.1) g.2.1 (λp r=>Nat.lt_of_succ_le (by simpa[SF] using g.2.2 p r)) h
   ·exact h.elim
 |.skip,D,E,a,w,j,k,l,hH,h=>db d hm hH h
 |.label _,D,E,a,w,j,k,l,hH,h=>db d hm hH h
 |.exit id,D,E,a,w,j,k,l,hH,h=>db d hm hH h
 |.ret,D,E,a,w,j,k,l,hH,h=>db d hm hH h
 |.region id ops draw,D,E,a,w,j,k,l,hH,h=>db d hm hH h
 |.loop c,D,E,a,w,j,k,l,hH,h=>db d hm hH h
 |.scope c,D,E,a,w,j,k,l,hH,h=>db d hm hH h
 |.goto _,D,E,a,w,j,k,l,hH,h=>db d hm hH h
 |.refuse _,D,E,a,w,j,k,l,hH,h=>db d hm hH h
theorem Bg (g:mY P)(hm:P.follows .mixedOrders=true){f:kc}{A:CM}{args:List gp}{H:aa}{R:gp->aa->Prop}(h:ON P f A args H R):Spec P f args.toArray H R:=by
 intro w hw;subst hw;unfold ON at h;split at h
 ·rename_i fn p;split at h
  ·rename_i c q;cases i:VD args.length fn.ntmps with
   |false=>rw[i] at h;exact h.elim
   |true=>
     rw[i] at h;simp only[cond_true] at h;have hle:args.length<=fn.ntmps:=UK i;refine callsIn_wide.1 (callsIn_of_wp_marks (F:=FW none) p q trivial (RX (λe n w' s=>?_) (iT (N:=fn.ntmps) g hm A c [] (Ek 0 args) _ w _ _ _ ⟨?_,rfl,?_⟩ h)))
     ·obtain⟨o,t,h1,u,a⟩:=s;have fin:Br P fn.results o t w'.heap R->LeavesInM (FW none) 0 P fn n.tmps (λe b=>∃v,e=.returned v/\R v b.heap/\Alike w b) n.defers .returning w':=by
       intro x;rw[h1.defers];refine wH (w0:=w') (λb y hk=>?_) o w' (.refl _) x;obtain⟨v,z,r2⟩:=AB (fn:=fn) (w:=b) h1 hk;exact⟨v,z,v,rfl,r2,u.trans y⟩
      cases e<;>simp only[xh] at a<;>try exact a.elim
      case normal=>exact fin a
      case ret=>exact fin a
     ·simp;omega
     ·have key:∀(l:List gp) (k:Nat),(∀j v,l[j]?=some v->(args++List.replicate (fn.ntmps - args.length) undef)[k+j]?=some v)->
        ∀e∈Ek k l,fR {tmps:=args.toArray++Tm (fn.ntmps - args.toArray.size) undef,defers:=[]} e:=by
       intro l
       induction l with
       |nil=>intro k _ e he;simp[Ek] at he
       |cons v r B=>
         intro k hk e he;simp only[Ek] at he;rcases QX.1 he with he|he
         ·subst he;have:=hk 0 v rfl;simp only[fR];rw[<-V0];simpa using this
         ·exact B (k+1) (λj v d=>by
           have:=hk (j+1) v (by simpa using d)
           rwa [show k+(j+1)=k+1+j by omega] at this) e he
      exact key args 0 (λj v d=>by
       have m:=(QJ.1 d).1;rw[R3,Rf m];exact d)
  ·exact h.elim
 ·exact h.elim
theorem Aa (a:mY P)(hm:P.follows .mixedOrders=true){c:fg}{f:kc}{A:CM}{args:List gp}{H:aa}{R:c.α->aa->Prop}(h:N2 c P f A args H R):ak c P f args.toArray H R:=
 (Bg a hm h).mono λv H' h1=>by
  obtain⟨x,b,d⟩:=hZ h1;exact⟨x,c.ok _ _ b,d⟩
end
