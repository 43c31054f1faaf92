/-
 The disk: Read, a step's bytes, Copy.
-/
import Derived.Test.YtmkbhnholcaghaaGreatDoorDkf
open Go.Proofs.Tryz renaming prog->N5
open List renaming replicate->OD
namespace Go.Proofs.YtmkbhnholcaghaaGreatDoor
open Go.MapKept
def EB:eJ UInt8:=⟨1,λx=>[.int .u8 (x.toNat:Int)],λ_=>rfl,λx u hu=>by simp at hu;subst hu;rfl⟩
theorem iH (b:List UInt8):EB.all b=fZ b:=by
 induction b with
 |nil=>rfl
 |cons x b a=>
   have c:EB.all (x::b)=.int .u8 (x.toNat:Int)::EB.all b:=rfl;have e2:fZ (x::b)=.int .u8 (x.toNat:Int)::fZ b:=rfl;rw[c,e2,a]
theorem jo:qZ N5 dQ fx EB.size 1:=eK (by kernel_rfl)
theorem bV {H:aa}{s:Sl}{b:List UInt8}(h:az EB fx H s b):bL H s b:=by
 have c:=h.n (by decide);have a:=h.rd;unfold bP at a;rw[iH,<-gv] at a;exact⟨by rw[c];simp[eH],a⟩
theorem fP {s:Sl}{l:List UInt8}{H:aa}{K:Sl->aa->Prop}(h:bL H s l)(hl:l.length<=1099511627776)
  (e:∀s' H',az EB fx H' s' l->Mod (λ_=>False) H H'->(∀b,ag s' b->H.size<=b)->K s' H'):DC.sp s H K:=by
 refine DC.of ?_;unfold DC.vc;refine ah (λa=>?_) (λa=>?_)
 ·have:l=[]:=by
   cases l with
   |nil=>rfl
   |cons x r=>
     obtain⟨ad,f,_⟩:=h.addr (by simp);rw[f] at a;cases a
  subst this;exact e _ H (az.nil _ _ _) (.refl _ _) (by rintro b ⟨ad,q,_⟩;cases q)
 ·refine ax λH1 s1 g m1=>?_;have i:az EB fx H1 ⟨some ⟨H.size,0,none⟩,0,0⟩ []:=⟨rfl,.inr ⟨H.size,0,#[],rfl,Nat.zero_le _,g,Nat.le_refl _,by unfold maxLen;omega,rfl,rfl⟩⟩;have j:bP EB H1 s.a l:=by unfold bP;rw[iH];exact(h.keep λad f hl=>m1.same _ hl id).cells
  refine az.append jo (s:=⟨some ⟨H.size,0,none⟩,0,0⟩) (x:=s) i j h.n (by simp;omega) (by simp;omega) λs' H' k g' _=>?_;refine e s' H' k ⟨Nat.le_trans m1.size g'.1.size,λb c _=>(g'.1.same b (by omega) ?_).trans (m1.same b c id)⟩ (λb c=>?_)
  ·rintro⟨ad,d,e2⟩;cases d;have:H.size=b:=e2;omega
  ·rcases g'.2 b c with ⟨ad,d,e2⟩|q
   ·cases d;have:H.size=b:=e2;omega
   ·omega
theorem AY {F:Nat->Prop}{d:Nat}{s:Dk}{H:aa}{n:ByteArray}{page:Int}{K:(Sl×Int)->aa->Prop}(h:bo F H d s)
  (t:∀r H',az EB fx H' r (s.read n page).1->Mod (λ_=>False) H H'->(∀b,ag r b->H.size<=b)->K (r,(s.read n page).2) H'):HA.sp (aE d) n page H K:=by
 obtain⟨x,cin,kp,g,_⟩:=h;refine HA.of ?_;unfold HA.vc;have err:∀e:Int,s.read n page=([],e)->K (Sl.mk none 0 0,e) H:=by
  intro e he;have:=t (Sl.mk none 0 0) H (by rw[he];exact az.nil _ _ _) (.refl _ _) (by rintro b ⟨ad,q,_⟩;cases q);rw[he] at this;exact this
 refine od g (λhd=>?_) (λhd E=>?_) (λi f A hd hi G P Q m=>?_)
 ·refine⟨λ_ _=>False,err 4 ?_,λ_ _ h=>h.elim⟩;unfold Dk.read Dk.open;rw[hd];rfl
 ·refine⟨λ_ _=>False,err 11 ?_,λ_ _ h=>h.elim⟩;unfold Dk.read Dk.open;rw[hd,E];rfl
 ·have l:s.file i=f:=Dk.du G;have B:=m.now.n (by decide);have u:s.read n page=if page<0 then ([],(12:Int)) else match f.aq[page.toNat]? with|some p=>(p.1,(0:Int))|none=>([],(12:Int)):=by
   unfold Dk.read Dk.open;rw[hd,hi];simp[l];rfl
  refine⟨λ_ H'=>H'=H/\0<=page/\page<f.aq.length,?_,?_⟩
  ·refine aC rfl ?_;refine ah (λa=>?_) (λa=>?_)
   ·refine aP a (err 12 ?_);rw[u,if_pos (by simpa using a)]
   ·have w:¬page<0:=by simpa using a
    refine m.row.ld (c:=ak) (i:=0) (x:=A.now) rfl ?_;refine ah (λa=>err 12 ?_) (λa=>?_)
    ·simp at a;rw[u,if_neg w,List.getElem?_eq_none (by omega)]
    ·simp at a;exact⟨rfl,by omega,by omega⟩
  ·rintro _ H0 ⟨rfl,h1,R⟩;obtain⟨pg,rfl⟩:∃k:Nat,page=k:=⟨page.toNat,by omega⟩;have y:pg<f.aq.length:=by omega
   refine m.row.ld (c:=ak) (i:=0) (x:=A.now) rfl ?_;obtain⟨ad,C⟩:=bP.addr m.now.rd (by decide) (by omega);rw[C];refine⟨⟨by omega,by omega⟩,?_⟩;have a:f.aq[pg]?=some f.aq[pg]:=List.getElem?_eq_getElem y;have o:=m.now.rd.row C a;have z:bL H0 ⟨cA (some (ad.add ((pg:Int).toNat*512))) 512 0 1,512 - 0,512 - 0⟩ f.aq[pg].1:=by
    refine⟨by simp[eH,f.aq[pg].2],?_⟩;rw[gv,lk];intro j v D;have I:j<512:=by
     have:=(List.getElem?_eq_some_iff.1 D).1;simpa[fZ,f.aq[pg].2] using this
    refine⟨_,rfl,?_⟩;obtain⟨cs,J,e2,L⟩:=o;have:=L j I;rw[show tP.size=512 from rfl] at this;simp only[Int.toNat_natCast];rw[this];cases J;simp[tP];exact D
   refine fP z (by have:=f.aq[pg].2;omega) λs' H' M N f'=>?_;have O:s.read n pg=(f.aq[pg].1,0):=by
    rw[u,if_neg (by omega)];simp[a]
   rw[O] at t;exact t s' H' M N f'
theorem IM:El N5 dQ fx 1 (.int .u8 0):=Bb (z:=.int .u8 0) (zb:=rV .u8) qb rfl (by kernel_rfl)
theorem Hh (n:Nat)(x:UInt8):fZ (OD n x)=OD n (.int .u8 (x.toNat:Int)):=by simp[fZ]
theorem KP {H:aa}{s:Sl}{b:List UInt8}(h:aM H 0 fx 1 s (fZ b)):az EB fx H s b:=by
 unfold az;rw[iH];exact h
theorem bL.Jr {H:aa}{s:Sl}{b:List UInt8}(h:bL H s b):fH H s.a s.n (cD b):=by
 have e:bytesOf (eH b)=cD b:=by
  unfold bytesOf cD eH;congr 1;rw[List.map_map];have:((λx:Int=>UInt8.ofNat x.toNat)∘λx:UInt8=>(x.toNat:Int))=id:=by
   funext x;simp
  rw[this];simp
 rw[<-e];refine Ints.fH h λx a=>?_;unfold eH at a;obtain⟨y,_,rfl⟩:=List.mem_map.1 a;have:=y.toNat_lt;omega
theorem kF {H:aa}{s:Sl}{b:List UInt8}{K:ByteArray->Prop}(h:bL H s b)(a:K (cD b)):vM H s.a s.n K:=⟨_,h.Jr,a⟩
end Go.Proofs.YtmkbhnholcaghaaGreatDoor
