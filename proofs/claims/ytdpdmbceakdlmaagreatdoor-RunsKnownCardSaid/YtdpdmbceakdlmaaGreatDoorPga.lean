/-
 Pages in plain words: their sum, what seals them, what opens them.
-/
import Derived.Test.YtdpdmbceakdlmaaGreatDoorFxk
open BitVec renaming toNat_ofNat->M9,ofNat->N5,xor_assoc->N6,getLsbD_ushiftRight->OZ,shiftRight_add->Qb,ushiftRight_xor_distrib->Qj,getLsbD_and->QD,xor_comm->Q4,eq_of_toNat_eq->Rg,getLsbD_xor->Rt
open List renaming replicate->KY
open UInt8 renaming ofNat->Lf,toNat_ofNat'->Ml,toNat_inj->MH
namespace Go.Proofs.YtdpdmbceakdlmaaGreatDoor
def Fo:BitVec 32:=0xedb88320#32
def j4 (r:BitVec 32):BitVec 32:=(r>>>1)^^^(if r.getLsbD 0 then Fo else 0#32)
def kQ (r:BitVec 32):BitVec 32:=j4 (j4 (j4 (j4 r)))
def Cu (r:BitVec 32)(c:UInt8):BitVec 32:=kQ (kQ (r^^^N5 32 c.toNat))
def fQ (l:List UInt8):BitVec 32:= ~~~ (l.foldl Cu (BitVec.allOnes 32))
def mc:List (BitVec 32):=[0x00000000#32,0x1db71064#32,0x3b6e20c8#32,0x26d930ac#32,0x76dc4190#32,0x6b6b51f4#32,0x4db26158#32,0x5005713c#32,0xedb88320#32,0xf00f9344#32,0xd6d6a3e8#32,0xcb61b38c#32,0x9b64c2b0#32,0x86d3d2d4#32,0xa00ae278#32,0xbdbdf21c#32]
theorem Ds (a b:BitVec 32):j4 (a^^^b)=j4 a^^^j4 b:=by
 unfold j4
 rw[Qj,Rt]
 generalize a>>>1=x
 generalize b>>>1=y
 cases a.getLsbD 0<;>cases b.getLsbD 0<;>simp
 ·rw[N6]
 ·rw[N6,N6,Q4 y]
 ·rw[N6,<-N6 Fo,Q4 Fo y,N6 y,BitVec.xor_self,BitVec.xor_zero]
theorem Dr (a b:BitVec 32):kQ (a^^^b)=kQ a^^^kQ b:=by
 unfold kQ;simp only[Ds]
theorem kZ {a:BitVec 32}(h:a.getLsbD 0=false):j4 a=a>>>1:=by
 unfold j4;rw[h];simp
theorem AN {a:BitVec 32}(h:∀i,i<4->a.getLsbD i=false):kQ a=a>>>4:=by
 have e1:j4 a=a>>>1:=kZ (h 0 (by decide))
 have e2:j4 (a>>>1)=a>>>2:=by
  rw[kZ (by rw[OZ];exact h 1 (by decide)),<-Qb]
 have e3:j4 (a>>>2)=a>>>3:=by
  rw[kZ (by rw[OZ];exact h 2 (by decide)),<-Qb]
 have e4:j4 (a>>>3)=a>>>4:=by
  rw[kZ (by rw[OZ];exact h 3 (by decide)),<-Qb]
 unfold kQ
 rw[e1,e2,e3,e4]
theorem Co:∀n:Nat,n<16->kQ (N5 32 n)=mc.getD n 0#32:=by decide
theorem Ev (r:BitVec 32):r=(r&&&0xfffffff0#32)^^^(r&&&15#32):=by
 apply BitVec.eq_of_getLsbD_eq
 intro i hi
 rw[Rt,QD,QD]
 have:(0xfffffff0#32).getLsbD i=!((15#32).getLsbD i):=by
  revert i;decide
 rw[this]
 cases r.getLsbD i<;>cases (15#32).getLsbD i<;>rfl
theorem AB:∀i,i<4->(0xfffffff0#32).getLsbD i=false:=by decide
theorem BL (r:BitVec 32):r&&&15#32=N5 32 (r.toNat%16):=by
 apply Rg
 have h1:(15#32).toNat=2^4 - 1:=by decide
 rw[BitVec.toNat_and,h1,Nat.and_two_pow_sub_one_eq_mod,M9]
 omega
theorem yh (r:BitVec 32):(r&&&15#32)>>>4=0#32:=by
 rw[BL]
 apply Rg
 rw[BitVec.toNat_ushiftRight,M9,Nat.shiftRight_eq_div_pow]
 simp
 omega
theorem Ge (r:BitVec 32):kQ r=(r>>>4)^^^mc.getD (r.toNat%16) 0#32:=by
 have h:=Ev r
 have e1:kQ r=kQ (r&&&0xfffffff0#32)^^^kQ (r&&&15#32):=by rw[<-Dr,<-h]
 have e2:r>>>4=(r&&&0xfffffff0#32)>>>4:=by
  conv=>lhs;rw[h,Qj,yh]
  simp
 rw[e1,e2,AN (λi hi=>by rw[QD,AB i hi,Bool.and_false]),BL,Co _ (Nat.mod_lt _ (by decide))]
def oa (x:BitVec 32):List UInt8:=[Lf x.toNat,Lf (x.toNat/256),Lf (x.toNat/65536),Lf (x.toNat/16777216)]
def cK (kind:UInt8)(b:List UInt8):List UInt8:=[Lf b.length,Lf (b.length/256),kind,157]++b++KY (504 - b.length) 0
def bA (kind:UInt8)(b:List UInt8):List UInt8:=oa (fQ (cK kind b))++cK kind b
def bK (p:List UInt8):Nat:=(p.getD 4 0).toNat+256*(p.getD 5 0).toNat
def ez (p:List UInt8):Option (UInt8×List UInt8):=
 if bK p<=504/\bA (p.getD 6 0) ((p.drop 8).take (bK p))=p then some (p.getD 6 0,(p.drop 8).take (bK p)) else none
theorem jR {kind:UInt8}{b:List UInt8}(h:b.length<=504):(cK kind b).length=508:=by
 simp[cK];omega
theorem fC {kind:UInt8}{b:List UInt8}(h:b.length<=504):(bA kind b).length=512:=by
 simp[bA,jR h,oa]
theorem AR {n:Nat}(h:n<=504):(Lf n).toNat+256*(Lf (n/256)).toNat=n:=by
 rw[Ml,Ml];omega
theorem ke {kind:UInt8}{b:List UInt8}(h:b.length<=504):ez (bA kind b)=some (kind,b):=by
 have h4:(bA kind b).getD 4 0=Lf b.length:=rfl
 have h5:(bA kind b).getD 5 0=Lf (b.length/256):=rfl
 have h6:(bA kind b).getD 6 0=kind:=rfl
 have hs:bK (bA kind b)=b.length:=by unfold bK;rw[h4,h5,AR h]
 have hd:((bA kind b).drop 8).take b.length=b:=by
  have:(bA kind b).drop 8=b++KY (504 - b.length) 0:=rfl
  rw[this,List.take_left]
 unfold ez
 rw[hs,h6,hd,if_pos ⟨h,rfl⟩]
theorem sO {p:List UInt8}(hp:p.length=512):
  (bK p<=504/\bA (p.getD 6 0) ((p.drop 8).take (bK p))=p)↔(p.take 4=oa (fQ (p.drop 4))/\bK p<=504/\p.getD 7 0=157/\∀c∈p.drop (8+bK p),c=0):=by
 match p,hp with
 |a0::a1::a2::a3::a4::a5::a6::a7::r,hp=>
   have hr:r.length=504:=by simp at hp;exact hp
   have hs:bK (a0::a1::a2::a3::a4::a5::a6::a7::r)=a4.toNat+256*a5.toNat:=rfl
   rw[hs]
   show (_/\bA a6 (r.take (a4.toNat+256*a5.toNat))=_)↔([a0,a1,a2,a3]=oa (fQ (a4::a5::a6::a7::r))/\_/\a7=157/\_)
   have hd:(a0::a1::a2::a3::a4::a5::a6::a7::r).drop (8+(a4.toNat+256*a5.toNat))=r.drop (a4.toNat+256*a5.toNat):=by
    rw[Nat.add_comm 8];rfl
   rw[hd]
   generalize hn:a4.toNat+256*a5.toNat=n
   have h4:=a4.toNat_lt
   have h5:=a5.toNat_lt
   by_cases hle:n<=504
   ·have hl:(r.take n).length=n:=by simp;omega
    have ha4:Lf n=a4:=by
     apply MH.1;rw[Ml];omega
    have ha5:Lf (n/256)=a5:=by
     apply MH.1;rw[Ml];omega
    have hb:cK a6 (r.take n)=a4::a5::a6::157::(r.take n++KY (504 - n) 0):=by
     simp[cK,hl,ha4,ha5]
    have hz:(∀c∈r.drop n,c=0)↔r.take n++KY (504 - n) 0=r:=by
     constructor
     ·intro h
      have:KY (504 - n) 0=r.drop n:=by
       symm;rw[List.eq_replicate_iff];exact⟨by simp;omega,h⟩
      rw[this,List.take_append_drop]
     ·intro h c hc
      have e:r.drop n=KY (504 - n) 0:=by
       conv=>lhs;rw[<-h]
       rw[List.drop_append_of_le_length (by omega),List.drop_of_length_le (by omega)];simp
      rw[e] at hc
      exact(List.mem_replicate.1 hc).2
    rw[hz]
    unfold bA
    rw[hb]
    constructor
    ·rintro⟨_,h⟩
     simp only[oa,List.cons_append,List.nil_append,List.cons.injEq] at h
     obtain⟨e0,e1,e2,e3,_,_,_,e7,e8⟩:=h
     rw[e8] at e0 e1 e2 e3
     rw[<-e7]
     refine⟨?_,hle,rfl,e8⟩
     simp only[oa,e0,e1,e2,e3]
    ·rintro⟨h1,_,h2,h3⟩
     refine⟨hle,?_⟩
     rw[h3,<-h2,<-h1];rfl
   ·constructor
    ·rintro⟨h,_⟩;exact absurd h hle
    ·rintro⟨_,h,_⟩;exact absurd h hle
end Go.Proofs.YtdpdmbceakdlmaaGreatDoor
