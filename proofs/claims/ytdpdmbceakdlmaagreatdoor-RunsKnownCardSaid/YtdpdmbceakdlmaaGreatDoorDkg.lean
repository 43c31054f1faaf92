/-
 The disk: Read, a step's bytes, Copy.
-/
import Derived.Test.YtdpdmbceakdlmaaGreatDoorDkf
open Go.Proofs.Tryz renaming prog->KE
open List renaming replicate->KY
namespace Go.Proofs.YtdpdmbceakdlmaaGreatDoor
open Go.MapKept
def EB:fN UInt8:=⟨1,λx=>[.int .u8 (x.toNat:Int)],λ_=>rfl,λx u hu=>by simp at hu;subst hu;rfl⟩
theorem im (b:List UInt8):EB.all b=fk b:=by
 induction b with
 |nil=>rfl
 |cons x b ih=>
   have e1:EB.all (x::b)=.int .u8 (x.toNat:Int)::EB.all b:=rfl
   have e2:fk (x::b)=.int .u8 (x.toNat:Int)::fk b:=rfl
   rw[e1,e2,ih]
theorem iT:uy KE dM dF EB.size 1:=ic (by kernel_rfl)
theorem bY {H:Heap}{s:Sl}{b:List UInt8}(h:aK EB dF H s b):bG H s b:=by
 have hn:=h.n (by decide)
 have hr:=h.rd
 unfold cS at hr
 rw[im,<-dN] at hr
 exact⟨by rw[hn];simp[dy],hr⟩
theorem fM {s:Sl}{l:List UInt8}{H:Heap}{K:Sl->Heap->Prop}(h:bG H s l)(hl:l.length<=1099511627776)
  (hK:∀s' H',aK EB dF H' s' l->Mod (λ_=>False) H H'->(∀b,al s' b->H.size<=b)->K s' H'):Bu.sp s H K:=by
 refine Bu.of ?_
 unfold Bu.vc
 refine ae (λhn=>?_) (λhn=>?_)
 ·have:l=[]:=by
   cases l with
   |nil=>rfl
   |cons x r=>
     obtain⟨ad,ha,_⟩:=h.addr (by simp)
     rw[ha] at hn;cases hn
  subst this
  exact hK _ H (aK.nil _ _ _) (.refl _ _) (by rintro b ⟨ad,q,_⟩;cases q)
 ·refine ao λH1 s1 r1 m1=>?_
  have o1:aK EB dF H1 ⟨some ⟨H.size,0,none⟩,0,0⟩ []:=⟨rfl,.inr ⟨H.size,0,#[],rfl,Nat.zero_le _,r1,Nat.le_refl _,by unfold maxLen;omega,rfl,rfl⟩⟩
  have hr:cS EB H1 s.a l:=by unfold cS;rw[im];exact(h.ak λad ha hl=>m1.same _ hl id).cells
  refine aK.append iT (s:=⟨some ⟨H.size,0,none⟩,0,0⟩) (x:=s) o1 hr h.n (by simp;omega) (by simp;omega) λs' H' o' g' _=>?_
  refine hK s' H' o' ⟨Nat.le_trans m1.size g'.1.size,λb hb _=>(g'.1.same b (by omega) ?_).trans (m1.same b hb id)⟩ (λb hb=>?_)
  ·rintro⟨ad,e1,e2⟩
   cases e1;have:H.size=b:=e2;omega
  ·rcases g'.2 b hb with ⟨ad,e1,e2⟩|q
   ·cases e1;have:H.size=b:=e2;omega
   ·omega
theorem yY {F:Nat->Prop}{d:Nat}{s:Dk}{H:Heap}{n:ByteArray}{page:Int}{K:(Sl×Int)->Heap->Prop}(h:bj F H d s)
  (hK:∀r H',aK EB dF H' r (s.read n page).1->Mod (λ_=>False) H H'->(∀b,al r b->H.size<=b)->K (r,(s.read n page).2) H'):ET.sp (aD d) n page H K:=by
 obtain⟨x,cin,kp,g,_⟩:=h
 refine ET.of ?_
 unfold ET.vc
 have err:∀e:Int,s.read n page=([],e)->K (Sl.mk none 0 0,e) H:=by
  intro e he
  have:=hK (Sl.mk none 0 0) H (by rw[he];exact aK.nil _ _ _) (.refl _ _) (by rintro b ⟨ad,q,_⟩;cases q)
  rw[he] at this;exact this
 refine pX g (λhd=>?_) (λhd hN=>?_) (λi f gf hd hi hf hn hg hF=>?_)
 ·refine⟨λ_ _=>False,err 4 ?_,λ_ _ h=>h.elim⟩
  unfold Dk.read Dk.open;rw[hd];rfl
 ·refine⟨λ_ _=>False,err 11 ?_,λ_ _ h=>h.elim⟩
  unfold Dk.read Dk.open;rw[hd,hN];rfl
 ·have hfile:s.file i=f:=Dk.dd hf
  have hnow:=hF.now.n (by decide)
  have e0:s.read n page=if page<0 then ([],(12:Int)) else match f.au[page.toNat]? with|some p=>(p.1,(0:Int))|none=>([],(12:Int)):=by
   unfold Dk.read Dk.open;rw[hd,hi];simp[hfile];rfl
  refine⟨λ_ H'=>H'=H/\0<=page/\page<f.au.length,?_,?_⟩
  ·refine aw rfl ?_
   refine ae (λhp=>?_) (λhp=>?_)
   ·refine aP hp (err 12 ?_)
    rw[e0,if_pos (by simpa using hp)]
   ·have hp0:¬page<0:=by simpa using hp
    refine hF.row.ld (c:=av) (i:=0) (x:=gf.now) rfl ?_
    refine ae (λhp=>err 12 ?_) (λhp=>?_)
    ·simp at hp
     rw[e0,if_neg hp0,List.getElem?_eq_none (by omega)]
    ·simp at hp
     exact⟨rfl,by omega,by omega⟩
  ·rintro _ H0 ⟨rfl,h1,h2⟩
   obtain⟨pg,rfl⟩:∃k:Nat,page=k:=⟨page.toNat,by omega⟩
   have hlt:pg<f.au.length:=by omega
   refine hF.row.ld (c:=av) (i:=0) (x:=gf.now) rfl ?_
   obtain⟨ad,ha⟩:=cS.addr hF.now.rd (by decide) (by omega)
   rw[ha]
   refine⟨⟨by omega,by omega⟩,?_⟩
   have hp:f.au[pg]?=some f.au[pg]:=List.getElem?_eq_getElem hlt
   have hrow:=hF.now.rd.row ha hp
   have hby:bG H0 ⟨fP (some (ad.add ((pg:Int).toNat*512))) 512 0 1,512 - 0,512 - 0⟩ f.au[pg].1:=by
    refine⟨by simp[dy,f.au[pg].2],?_⟩
    rw[dN,kN]
    intro j v hv
    have hj:j<512:=by
     have:=(List.getElem?_eq_some_iff.1 hv).1
     simpa[fk,f.au[pg].2] using this
    refine⟨_,rfl,?_⟩
    obtain⟨cs,e1,e2,e3⟩:=hrow
    have:=e3 j hj
    rw[show rE.size=512 from rfl] at this
    simp only[Int.toNat_natCast]
    rw[this]
    cases e1
    simp[rE];exact hv
   refine fM hby (by have:=f.au[pg].2;omega) λs' H' o' m' f'=>?_
   have er:s.read n pg=(f.au[pg].1,0):=by
    rw[e0,if_neg (by omega)];simp[hp]
   rw[er] at hK
   exact hK s' H' o' m' f'
theorem uu:El KE dM dF 1 (.int .u8 0):=zG (z:=.int .u8 0) (zb:=qx .u8) oD rfl (by kernel_rfl)
theorem Fm (n:Nat)(x:UInt8):fk (KY n x)=KY n (.int .u8 (x.toNat:Int)):=by simp[fk]
theorem Ia {H:Heap}{s:Sl}{b:List UInt8}(h:aT H 0 dF 1 s (fk b)):aK EB dF H s b:=by
 unfold aK;rw[im];exact h
theorem bG.G5 {H:Heap}{s:Sl}{b:List UInt8}(h:bG H s b):gp H s.a s.n (cu b):=by
 have e:bytesOf (dy b)=cu b:=by
  unfold bytesOf cu dy
  congr 1
  rw[List.map_map]
  have:((λx:Int=>UInt8.ofNat x.toNat)∘λx:UInt8=>(x.toNat:Int))=id:=by
   funext x;simp
  rw[this];simp
 rw[<-e]
 refine Ints.gp h λx hx=>?_
 unfold dy at hx
 obtain⟨y,_,rfl⟩:=List.mem_map.1 hx
 have:=y.toNat_lt;omega
theorem jD {H:Heap}{s:Sl}{b:List UInt8}{K:ByteArray->Prop}(h:bG H s b)(hK:K (cu b)):Bn H s.a s.n K:=⟨_,h.G5,hK⟩
end Go.Proofs.YtdpdmbceakdlmaaGreatDoor
