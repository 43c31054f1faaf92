/-
 The disk: Read, a step's bytes, Copy.
-/
import Derived.Test.YtkehfflpbpdokaaGreatDoorDkf
open Go.Proofs.Tryz renaming prog->Kf
namespace Go.Proofs.YtkehfflpbpdokaaGreatDoor
open Go.MapKept
def EB:ja UInt8:=⟨1,λx=>[.int .u8 (x.toNat:Int)],λ_=>rfl,λx u hu=>by simp at hu;subst hu;rfl⟩
theorem uh (b:List UInt8):EB.all b=gO b:=by
 induction b with
 |nil=>rfl
 |cons x b ih=>
   have e1:EB.all (x::b)=.int .u8 (x.toNat:Int)::EB.all b:=rfl
   have e2:gO (x::b)=.int .u8 (x.toNat:Int)::gO b:=rfl
   rw[e1,e2,ih]
theorem Hp:Dq Kf iy kN EB.size 1:=qg (by kernel_rfl)
theorem jT {H:aa}{s:Sl}{b:List UInt8}(h:cw EB kN H s b):cG H s b:=by
 have hn:=h.n (by decide)
 have hr:=h.rd
 unfold ql at hr
 rw[uh,<-iL] at hr
 exact⟨by rw[hn];simp[dz],hr⟩
theorem eN {s:Sl}{l:List UInt8}{H:aa}{K:Sl->aa->Prop}(h:cG H s l)(hl:l.length<=1099511627776)
  (hK:∀s' H',cw EB kN H' s' l->Mod (λ_=>False) H H'->(∀b,ai s' b->H.size<=b)->K s' H'):AG.sp s H K:=by
 refine AG.of ?_
 unfold AG.vc
 refine ak (λhn=>?_) (λhn=>?_)
 ·have:l=[]:=by
   cases l with
   |nil=>rfl
   |cons x r=>
     obtain⟨ad,ha,_⟩:=h.addr (by simp)
     rw[ha] at hn;cases hn
  subst this
  exact hK _ H (cw.nil _ _ _) (.refl _ _) (by rintro b ⟨ad,q,_⟩;cases q)
 ·refine ar λH1 s1 r1 m1=>?_
  have o1:cw EB kN H1 ⟨some ⟨H.size,0,none⟩,0,0⟩ []:=⟨rfl,.inr ⟨H.size,0,#[],rfl,Nat.zero_le _,r1,Nat.le_refl _,by unfold maxLen;omega,rfl,rfl⟩⟩
  have hr:ql EB H1 s.a l:=by unfold ql;rw[uh];exact(h.aA λad ha hl=>m1.same _ hl id).cells
  refine cw.append Hp (s:=⟨some ⟨H.size,0,none⟩,0,0⟩) (x:=s) o1 hr h.n (by simp;omega) (by simp;omega) λs' H' o' g' _=>?_
  refine hK s' H' o' ⟨Nat.le_trans m1.size g'.1.size,λb hb _=>(g'.1.same b (by omega) ?_).trans (m1.same b hb id)⟩ (λb hb=>?_)
  ·rintro⟨ad,e1,e2⟩
   cases e1;have:H.size=b:=e2;omega
  ·rcases g'.2 b hb with ⟨ad,e1,e2⟩|q
   ·cases e1;have:H.size=b:=e2;omega
   ·omega
theorem DK {F:Nat->Prop}{d:Nat}{s:Dk}{H:aa}{n:ByteArray}{ab:Int}{K:(Sl×Int)->aa->Prop}(h:bN F H d s)
  (hK:∀r H',cw EB kN H' r (s.read n ab).1->Mod (λ_=>False) H H'->(∀b,ai r b->H.size<=b)->K (r,(s.read n ab).2) H'):FD.sp (aD d) n ab H K:=by
 obtain⟨x,cin,kp,g,_⟩:=h
 refine FD.of ?_
 unfold FD.vc
 have err:∀e:Int,s.read n ab=([],e)->K (Sl.mk none 0 0,e) H:=by
  intro e he
  have:=hK (Sl.mk none 0 0) H (by rw[he];exact cw.nil _ _ _) (.refl _ _) (by rintro b ⟨ad,q,_⟩;cases q)
  rw[he] at this;exact this
 refine oM g (λhd=>?_) (λhd hN=>?_) (λi f gf hd hi hf hn hg hF=>?_)
 ·refine⟨λ_ _=>False,err 4 ?_,λ_ _ h=>h.elim⟩
  unfold Dk.read Dk.open;rw[hd];rfl
 ·refine⟨λ_ _=>False,err 11 ?_,λ_ _ h=>h.elim⟩
  unfold Dk.read Dk.open;rw[hd,hN];rfl
 ·have hfile:s.file i=f:=Dk.gu hf
  have hnow:=hF.now.n (by decide)
  have e0:s.read n ab=if ab<0 then ([],(12:Int)) else match f.aB[ab.toNat]? with|some p=>(p.1,(0:Int))|none=>([],(12:Int)):=by
   unfold Dk.read Dk.open;rw[hd,hi];simp[hfile];rfl
  refine⟨λ_ H'=>H'=H/\0<=ab/\ab<f.aB.length,?_,?_⟩
  ·refine ax rfl ?_
   refine ak (λhp=>?_) (λhp=>?_)
   ·refine aT hp (err 12 ?_)
    rw[e0,if_pos (by simpa using hp)]
   ·have hp0:¬ab<0:=by simpa using hp
    refine hF.row.ld (c:=ao) (i:=0) (x:=gf.now) rfl ?_
    refine ak (λhp=>err 12 ?_) (λhp=>?_)
    ·simp at hp
     rw[e0,if_neg hp0,List.getElem?_eq_none (by omega)]
    ·simp at hp
     exact⟨rfl,by omega,by omega⟩
  ·rintro _ H0 ⟨rfl,h1,h2⟩
   obtain⟨pg,rfl⟩:∃k:Nat,ab=k:=⟨ab.toNat,by omega⟩
   have hlt:pg<f.aB.length:=by omega
   refine hF.row.ld (c:=ao) (i:=0) (x:=gf.now) rfl ?_
   obtain⟨ad,ha⟩:=ql.addr hF.now.rd (by decide) (by omega)
   rw[ha]
   refine⟨⟨by omega,by omega⟩,?_⟩
   have hp:f.aB[pg]?=some f.aB[pg]:=List.getElem?_eq_getElem hlt
   have hrow:=hF.now.rd.row ha hp
   have hby:cG H0 ⟨bw (some (ad.add ((pg:Int).toNat*512))) 512 0 1,512 - 0,512 - 0⟩ f.aB[pg].1:=by
    refine⟨by simp[dz,f.aB[pg].2],?_⟩
    rw[iL,fS]
    intro j v hv
    have hj:j<512:=by
     have:=(List.getElem?_eq_some_iff.1 hv).1
     simpa[gO,f.aB[pg].2] using this
    refine⟨_,rfl,?_⟩
    obtain⟨cs,e1,e2,e3⟩:=hrow
    have:=e3 j hj
    rw[show xI.size=512 from rfl] at this
    simp only[Int.toNat_natCast]
    rw[this]
    cases e1
    simp[xI];exact hv
   refine eN hby (by have:=f.aB[pg].2;omega) λs' H' o' m' f'=>?_
   have er:s.read n pg=(f.aB[pg].1,0):=by
    rw[e0,if_neg (by omega)];simp[hp]
   rw[er] at hK
   exact hK s' H' o' m' f'
end Go.Proofs.YtkehfflpbpdokaaGreatDoor
