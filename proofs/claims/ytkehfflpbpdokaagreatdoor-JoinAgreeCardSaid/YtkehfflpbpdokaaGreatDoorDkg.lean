/-
 The disk: Read, a step's bytes, Copy.
-/
import Derived.Test.YtkehfflpbpdokaaGreatDoorDkf
open Go.Proofs.Tryz renaming prog->Qf
namespace Go.Proofs.YtkehfflpbpdokaaGreatDoor
open Go.MapKept
def EB:kK UInt8:=⟨1,λx=>[.int .u8 (x.toNat:Int)],λ_=>rfl,λx u hu=>by simp at hu;subst hu;rfl⟩
theorem xu (b:List UInt8):EB.all b=jo b:=by
 induction b with
 |nil=>rfl
 |cons x b a=>
   have c:EB.all (x::b)=.int .u8 (x.toNat:Int)::EB.all b:=rfl;have e2:jo (x::b)=.int .u8 (x.toNat:Int)::jo b:=rfl;rw[c,e2,a]
theorem Nb:IG Qf jX kJ EB.size 1:=tH (by kernel_rfl)
theorem mR {H:aa}{s:Sl}{b:List UInt8}(h:dm EB kJ H s b):dA H s b:=by
 have a:=h.n (by decide);have hr:=h.rd;unfold tM at hr;rw[xu,<-j8] at hr;exact⟨by rw[a];simp[fm],hr⟩
theorem gC {s:Sl}{l:List UInt8}{H:aa}{K:Sl->aa->Prop}(h:dA H s l)(f:l.length<=1099511627776)
  (g:∀a H',dm EB kJ H' a l->Mod (λ_=>False) H H'->(∀b,al a b->H.size<=b)->K a H'):EU.sp s H K:=by
 refine EU.of ?_;unfold EU.vc;refine ao (λc=>?_) (λc=>?_)
 ·have:l=[]:=by
   cases l with
   |nil=>rfl
   |cons x r=>
     obtain⟨ad,i,_⟩:=h.addr (by simp);rw[i] at c;cases c
  subst this;exact g _ H (dm.nil _ _ _) (.refl _ _) (by rintro b ⟨ad,q,_⟩;cases q)
 ·refine aj λH1 s1 j m1=>?_;have o1:dm EB kJ H1 ⟨some ⟨H.size,0,none⟩,0,0⟩ []:=⟨rfl,.inr ⟨H.size,0,#[],rfl,Nat.zero_le _,j,Nat.le_refl _,by unfold maxLen;omega,rfl,rfl⟩⟩;have hr:tM EB H1 s.a l:=by unfold tM;rw[xu];exact(h.aE λad i f=>m1.same _ f id).cells
  refine dm.append Nb (s:=⟨some ⟨H.size,0,none⟩,0,0⟩) (x:=s) o1 hr h.n (by simp;omega) (by simp;omega) λa H' k g' _=>?_;refine g a H' k ⟨Nat.le_trans m1.size g'.1.size,λb d _=>(g'.1.same b (by omega) ?_).trans (m1.same b d id)⟩ (λb d=>?_)
  ·rintro⟨ad,e,e2⟩;cases e;have:H.size=b:=e2;omega
  ·rcases g'.2 b d with ⟨ad,e,e2⟩|q
   ·cases e;have:H.size=b:=e2;omega
   ·omega
theorem KI {F:Nat->Prop}{d:Nat}{s:Dk}{H:aa}{n:ByteArray}{ag:Int}{K:(Sl×Int)->aa->Prop}(h:cC F H d s)
  (t:∀r H',dm EB kJ H' r (s.read n ag).1->Mod (λ_=>False) H H'->(∀b,al r b->H.size<=b)->K (r,(s.read n ag).2) H'):Lz.sp (av d) n ag H K:=by
 obtain⟨x,cin,kp,g,_⟩:=h;refine Lz.of ?_;unfold Lz.vc;have err:∀e:Int,s.read n ag=([],e)->K (Sl.mk none 0 0,e) H:=by
  intro e he;have:=t (Sl.mk none 0 0) H (by rw[he];exact dm.nil _ _ _) (.refl _ _) (by rintro b ⟨ad,q,_⟩;cases q);rw[he] at this;exact this
 refine sj g (λhd=>?_) (λhd E=>?_) (λi f A hd hi G Q R m=>?_)
 ·refine⟨λ_ _=>False,err 4 ?_,λ_ _ h=>h.elim⟩;unfold Dk.read Dk.open;rw[hd];rfl
 ·refine⟨λ_ _=>False,err 11 ?_,λ_ _ h=>h.elim⟩;unfold Dk.read Dk.open;rw[hd,E];rfl
 ·have l:s.file i=f:=Dk.iX G;have B:=m.now.n (by decide);have u:s.read n ag=if ag<0 then ([],(12:Int)) else match f.aG[ag.toNat]? with|some p=>(p.1,(0:Int))|none=>([],(12:Int)):=by
   unfold Dk.read Dk.open;rw[hd,hi];simp[l];rfl
  refine⟨λ_ H'=>H'=H/\0<=ag/\ag<f.aG.length,?_,?_⟩
  ·refine az rfl ?_;refine ao (λa=>?_) (λa=>?_)
   ·refine aT a (err 12 ?_);rw[u,if_pos (by simpa using a)]
   ·have w:¬ag<0:=by simpa using a
    refine m.row.ld (c:=au) (i:=0) (x:=A.now) rfl ?_;refine ao (λa=>err 12 ?_) (λa=>?_)
    ·simp at a;rw[u,if_neg w,List.getElem?_eq_none (by omega)]
    ·simp at a;exact⟨rfl,by omega,by omega⟩
  ·rintro _ H0 ⟨rfl,h1,S⟩;obtain⟨pg,rfl⟩:∃k:Nat,ag=k:=⟨ag.toNat,by omega⟩;have y:pg<f.aG.length:=by omega
   refine m.row.ld (c:=au) (i:=0) (x:=A.now) rfl ?_;obtain⟨ad,C⟩:=tM.addr m.now.rd (by decide) (by omega);rw[C];refine⟨⟨by omega,by omega⟩,?_⟩;have a:f.aG[pg]?=some f.aG[pg]:=List.getElem?_eq_getElem y;have o:=m.now.rd.row C a;have z:dA H0 ⟨bF (some (ad.add ((pg:Int).toNat*512))) 512 0 1,512 - 0,512 - 0⟩ f.aG[pg].1:=by
    refine⟨by simp[fm,f.aG[pg].2],?_⟩;rw[j8,iE];intro j v D;have I:j<512:=by
     have:=(List.getElem?_eq_some_iff.1 D).1;simpa[jo,f.aG[pg].2] using this
    refine⟨_,rfl,?_⟩;obtain⟨cs,J,e2,L⟩:=o;have:=L j I;rw[show Bi.size=512 from rfl] at this;simp only[Int.toNat_natCast];rw[this];cases J;simp[Bi];exact D
   refine gC z (by have:=f.aG[pg].2;omega) λM H' N O f'=>?_;have P:s.read n pg=(f.aG[pg].1,0):=by
    rw[u,if_neg (by omega)];simp[a]
   rw[P] at t;exact t M H' N O f'
end Go.Proofs.YtkehfflpbpdokaaGreatDoor
