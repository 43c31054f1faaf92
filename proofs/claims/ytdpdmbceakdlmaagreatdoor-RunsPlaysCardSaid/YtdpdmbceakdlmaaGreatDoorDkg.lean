/-
 The disk: Read, a step's bytes, Copy.
-/
import Derived.Test.YtdpdmbceakdlmaaGreatDoorDkf
namespace Go.Proofs.YtdpdmbceakdlmaaGreatDoor
open Go.MapKept
def EB:eC UInt8:=⟨1,fun x=>[.int .u8 (x.toNat:Int)],fun _=>rfl,fun x u hu=>by simp at hu;subst hu;rfl⟩
theorem gC (b:List UInt8):EB.all b=eX b:=by
 induction b with
 |nil=>rfl
 |cons x b ih=>
   have e1:EB.all (x::b)=.int .u8 (x.toNat:Int)::EB.all b:=rfl
   have e2:eX (x::b)=.int .u8 (x.toNat:Int)::eX b:=rfl
   rw[e1,e2,ih]
theorem hC:sN Tryz.prog dw eA EB.size 1:=gW (by kernel_rfl)
theorem bM {H:Heap} {s:Sl} {b:List UInt8} (h:aG EB eA H s b):bI H s b:=by
 have hn:=h.n (by decide)
 have hr:=h.rd
 unfold cL at hr
 rw[gC,←fx] at hr
 exact⟨by rw[hn];simp[di],hr⟩
theorem eO {s:Sl} {l:List UInt8} {H:Heap} {K:Sl→Heap→Prop} (h:bI H s l) (hl:l.length≤1099511627776)
  (hK:∀s' H',aG EB eA H' s' l→Mod (fun _=>False) H H'→(∀b,aj s' b→H.size≤b)→K s' H'):yU.sp s H K:=by
 refine yU.of ?_
 unfold yU.vc
 refine ag (fun hn=>?_) (fun hn=>?_)
 ·have:l=[]:=by
   cases l with
   |nil=>rfl
   |cons x r=>
     obtain⟨ad,ha,_⟩:=h.addr (by simp)
     rw[ha] at hn;cases hn
  subst this
  exact hK _ H (aG.nil _ _ _) (.refl _ _) (by rintro b ⟨ad,q,_⟩;cases q)
 ·refine au fun H1 s1 r1 m1=>?_
  have o1:aG EB eA H1 ⟨some ⟨H.size,0,none⟩,0,0⟩ []:=⟨rfl,.inr ⟨H.size,0,#[],rfl,Nat.zero_le _,r1,Nat.le_refl _,by unfold maxLen;omega,rfl,rfl⟩⟩
  have hr:cL EB H1 s.a l:=by unfold cL;rw[gC];exact(h.keep fun ad ha hl=>m1.same _ hl id).cells
  refine aG.append hC (s:=⟨some ⟨H.size,0,none⟩,0,0⟩) (x:=s) o1 hr h.n (by simp;omega) (by simp;omega) fun s' H' o' g' _=>?_
  refine hK s' H' o' ⟨Nat.le_trans m1.size g'.1.size,fun b hb _=>(g'.1.same b (by omega) ?_).trans (m1.same b hb id)⟩ (fun b hb=>?_)
  ·rintro⟨ad,e1,e2⟩
   cases e1;have:H.size=b:=e2;omega
  ·rcases g'.2 b hb with ⟨ad,e1,e2⟩|q
   ·cases e1;have:H.size=b:=e2;omega
   ·omega
theorem wS {F:Nat→Prop} {d:Nat} {s:Dk} {H:Heap} {n:ByteArray} {page:Int} {K:(Sl×Int)→Heap→Prop} (h:bf F H d s)
  (hK:∀r H',aG EB eA H' r (s.read n page).1→Mod (fun _=>False) H H'→(∀b,aj r b→H.size≤b)→K (r,(s.read n page).2) H'):Co.sp (ay d) n page H K:=by
 obtain⟨x,cin,kp,g,_⟩:=h
 refine Co.of ?_
 unfold Co.vc
 have err:∀e:Int,s.read n page=([],e)→K (Sl.mk none 0 0,e) H:=by
  intro e he
  have:=hK (Sl.mk none 0 0) H (by rw[he];exact aG.nil _ _ _) (.refl _ _) (by rintro b ⟨ad,q,_⟩;cases q)
  rw[he] at this;exact this
 refine oo g (fun hd=>?_) (fun hd hN=>?_) (fun i f gf hd hi hf hn hg hF=>?_)
 ·refine⟨fun _ _=>False,err 4 ?_,fun _ _ h=>h.elim⟩
  unfold Dk.read Dk.open;rw[hd];rfl
 ·refine⟨fun _ _=>False,err 11 ?_,fun _ _ h=>h.elim⟩
  unfold Dk.read Dk.open;rw[hd,hN];rfl
 ·have hfile:s.file i=f:=Dk.cQ hf
  have hnow:=hF.now.n (by decide)
  have e0:s.read n page=if page<0 then ([],(12:Int)) else match f.ao[page.toNat]? with|some p=>(p.1,(0:Int))|none=>([],(12:Int)):=by
   unfold Dk.read Dk.open;rw[hd,hi];simp[hfile];rfl
  refine⟨fun _ H'=>H'=H∧0≤page∧page<f.ao.length,?_,?_⟩
  ·refine ar rfl ?_
   refine ag (fun hp=>?_) (fun hp=>?_)
   ·refine aU hp (err 12 ?_)
    rw[e0,if_pos (by simpa using hp)]
   ·have hp0:¬page<0:=by simpa using hp
    refine hF.row.ld (c:=aq) (i:=0) (x:=gf.now) rfl ?_
    refine ag (fun hp=>err 12 ?_) (fun hp=>?_)
    ·simp at hp
     rw[e0,if_neg hp0,List.getElem?_eq_none (by omega)]
    ·simp at hp
     exact⟨rfl,by omega,by omega⟩
  ·rintro _ H0 ⟨rfl,h1,h2⟩
   obtain⟨pg,rfl⟩:∃k:Nat,page=k:=⟨page.toNat,by omega⟩
   have hlt:pg<f.ao.length:=by omega
   refine hF.row.ld (c:=aq) (i:=0) (x:=gf.now) rfl ?_
   obtain⟨ad,ha⟩:=cL.addr hF.now.rd (by decide) (by omega)
   rw[ha]
   refine⟨⟨by omega,by omega⟩,?_⟩
   have hp:f.ao[pg]?=some f.ao[pg]:=List.getElem?_eq_getElem hlt
   have hrow:=hF.now.rd.row ha hp
   have hby:bI H0 ⟨eQ (some (ad.add ((pg:Int).toNat*512))) 512 0 1,512 - 0,512 - 0⟩ f.ao[pg].1:=by
    refine⟨by simp[di,f.ao[pg].2],?_⟩
    rw[fx,jw]
    intro j v hv
    have hj:j<512:=by
     have:=(List.getElem?_eq_some_iff.1 hv).1
     simpa[eX,f.ao[pg].2] using this
    refine⟨_,rfl,?_⟩
    obtain⟨cs,e1,e2,e3⟩:=hrow
    have:=e3 j hj
    rw[show pZ.size=512 from rfl] at this
    simp only[Int.toNat_natCast]
    rw[this]
    cases e1
    simp[pZ];exact hv
   refine eO hby (by have:=f.ao[pg].2;omega) fun s' H' o' m' f'=>?_
   have er:s.read n pg=(f.ao[pg].1,0):=by
    rw[e0,if_neg (by omega)];simp[hp]
   rw[er] at hK
   exact hK s' H' o' m' f'
theorem BU:El Tryz.prog dw eA 1 (.int .u8 0):=wK (z:=.int .u8 0) (zb:=pH .u8) mP rfl (by kernel_rfl)
theorem Ck (n:Nat) (x:UInt8):eX (List.replicate n x)=List.replicate n (.int .u8 (x.toNat:Int)):=by simp[eX]
theorem Fc {H:Heap} {s:Sl} {b:List UInt8} (h:aN H 0 eA 1 s (eX b)):aG EB eA H s b:=by
 unfold aG;rw[gC];exact h
theorem bI.DC {H:Heap} {s:Sl} {b:List UInt8} (h:bI H s b):fu H s.a s.n (ca b):=by
 have e:bytesOf (di b)=ca b:=by
  unfold bytesOf ca di
  congr 1
  rw[List.map_map]
  have:((fun x:Int=>UInt8.ofNat x.toNat)∘fun x:UInt8=>(x.toNat:Int))=id:=by
   funext x;simp
  rw[this];simp
 rw[←e]
 refine Ints.fu h fun x hx=>?_
 unfold di at hx
 obtain⟨y,_,rfl⟩:=List.mem_map.1 hx
 have:=y.toNat_lt;omega
theorem iJ {H:Heap} {s:Sl} {b:List UInt8} {K:ByteArray→Prop} (h:bI H s b) (hK:K (ca b)):yG H s.a s.n K:=⟨_,h.DC,hK⟩
end Go.Proofs.YtdpdmbceakdlmaaGreatDoor
