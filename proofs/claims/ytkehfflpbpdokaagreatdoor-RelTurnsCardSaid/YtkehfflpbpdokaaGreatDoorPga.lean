/-
 Pages in plain words: their sum, what seals them, what opens them.
-/
import Derived.Test.YtkehfflpbpdokaaGreatDoorFxk
open BitVec renaming toNat_ofNat->Mm,xor_assoc->NN,getLsbD_ushiftRight->OA,ofNat->OL,shiftRight_add->Pf,ushiftRight_xor_distrib->Pq,getLsbD_and->PQ,eq_of_toNat_eq->Rm,getLsbD_xor->RU,xor_comm->Sk
open List renaming replicate->KG
open UInt8 renaming ofNat->Ky,toNat_ofNat'->My,toNat_inj->N5
namespace Go.Proofs.YtkehfflpbpdokaaGreatDoor
def Hi:BitVec 32:=0xedb88320#32
def lL (r:BitVec 32):BitVec 32:=(r>>>1)^^^(if r.getLsbD 0 then Hi else 0#32)
def lg (r:BitVec 32):BitVec 32:=lL (lL (lL (lL r)))
def Eo (r:BitVec 32)(c:UInt8):BitVec 32:=lg (lg (r^^^OL 32 c.toNat))
def jL (l:List UInt8):BitVec 32:= ~~~ (l.foldl Eo (BitVec.allOnes 32))
def kX:List (BitVec 32):=[0x00000000#32,0x1db71064#32,0x3b6e20c8#32,0x26d930ac#32,0x76dc4190#32,0x6b6b51f4#32,0x4db26158#32,0x5005713c#32,0xedb88320#32,0xf00f9344#32,0xd6d6a3e8#32,0xcb61b38c#32,0x9b64c2b0#32,0x86d3d2d4#32,0xa00ae278#32,0xbdbdf21c#32]
theorem CG (a b:BitVec 32):lL (a^^^b)=lL a^^^lL b:=by
 unfold lL
 rw[Pq,RU]
 generalize a>>>1=x
 generalize b>>>1=y
 cases a.getLsbD 0<;>cases b.getLsbD 0<;>simp
 ·rw[NN]
 ·rw[NN,NN,Sk y]
 ·rw[NN,<-NN Hi,Sk Hi y,NN y,BitVec.xor_self,BitVec.xor_zero]
theorem Bh (a b:BitVec 32):lg (a^^^b)=lg a^^^lg b:=by
 unfold lg;simp only[CG]
theorem kI {a:BitVec 32}(h:a.getLsbD 0=false):lL a=a>>>1:=by
 unfold lL;rw[h];simp
theorem zU {a:BitVec 32}(h:∀i,i<4->a.getLsbD i=false):lg a=a>>>4:=by
 have e1:lL a=a>>>1:=kI (h 0 (by decide))
 have e2:lL (a>>>1)=a>>>2:=by
  rw[kI (by rw[OA];exact h 1 (by decide)),<-Pf]
 have e3:lL (a>>>2)=a>>>3:=by
  rw[kI (by rw[OA];exact h 2 (by decide)),<-Pf]
 have e4:lL (a>>>3)=a>>>4:=by
  rw[kI (by rw[OA];exact h 3 (by decide)),<-Pf]
 unfold lg
 rw[e1,e2,e3,e4]
theorem Ba:∀n:Nat,n<16->lg (OL 32 n)=kX.getD n 0#32:=by decide
theorem D0 (r:BitVec 32):r=(r&&&0xfffffff0#32)^^^(r&&&15#32):=by
 apply BitVec.eq_of_getLsbD_eq
 intro i hi
 rw[RU,PQ,PQ]
 have:(0xfffffff0#32).getLsbD i=!((15#32).getLsbD i):=by
  revert i;decide
 rw[this]
 cases r.getLsbD i<;>cases (15#32).getLsbD i<;>rfl
theorem Aj:∀i,i<4->(0xfffffff0#32).getLsbD i=false:=by decide
theorem Br (r:BitVec 32):r&&&15#32=OL 32 (r.toNat%16):=by
 apply Rm
 have h1:(15#32).toNat=2^4 - 1:=by decide
 rw[BitVec.toNat_and,h1,Nat.and_two_pow_sub_one_eq_mod,Mm]
 omega
theorem xr (r:BitVec 32):(r&&&15#32)>>>4=0#32:=by
 rw[Br]
 apply Rm
 rw[BitVec.toNat_ushiftRight,Mm,Nat.shiftRight_eq_div_pow]
 simp
 omega
theorem EM (r:BitVec 32):lg r=(r>>>4)^^^kX.getD (r.toNat%16) 0#32:=by
 have h:=D0 r
 have e1:lg r=lg (r&&&0xfffffff0#32)^^^lg (r&&&15#32):=by rw[<-Bh,<-h]
 have e2:r>>>4=(r&&&0xfffffff0#32)>>>4:=by
  conv=>lhs;rw[h,Pq,xr]
  simp
 rw[e1,e2,zU (λi hi=>by rw[PQ,Aj i hi,Bool.and_false]),Br,Ba _ (Nat.mod_lt _ (by decide))]
def qW (x:BitVec 32):List UInt8:=[Ky x.toNat,Ky (x.toNat/256),Ky (x.toNat/65536),Ky (x.toNat/16777216)]
def dZ (kind:UInt8)(b:List UInt8):List UInt8:=[Ky b.length,Ky (b.length/256),kind,157]++b++KG (504 - b.length) 0
def bQ (kind:UInt8)(b:List UInt8):List UInt8:=qW (jL (dZ kind b))++dZ kind b
def cZ (p:List UInt8):Nat:=(p.getD 4 0).toNat+256*(p.getD 5 0).toNat
def fk (p:List UInt8):Option (UInt8×List UInt8):=
 if cZ p<=504/\bQ (p.getD 6 0) ((p.drop 8).take (cZ p))=p then some (p.getD 6 0,(p.drop 8).take (cZ p)) else none
theorem l9 {kind:UInt8}{b:List UInt8}(h:b.length<=504):(dZ kind b).length=508:=by
 simp[dZ];omega
theorem gx {kind:UInt8}{b:List UInt8}(h:b.length<=504):(bQ kind b).length=512:=by
 simp[bQ,l9 h,qW]
theorem zK {n:Nat}(h:n<=504):(Ky n).toNat+256*(Ky (n/256)).toNat=n:=by
 rw[My,My];omega
theorem nR {kind:UInt8}{b:List UInt8}(h:b.length<=504):fk (bQ kind b)=some (kind,b):=by
 have h4:(bQ kind b).getD 4 0=Ky b.length:=rfl
 have h5:(bQ kind b).getD 5 0=Ky (b.length/256):=rfl
 have h6:(bQ kind b).getD 6 0=kind:=rfl
 have hs:cZ (bQ kind b)=b.length:=by unfold cZ;rw[h4,h5,zK h]
 have hd:((bQ kind b).drop 8).take b.length=b:=by
  have:(bQ kind b).drop 8=b++KG (504 - b.length) 0:=rfl
  rw[this,List.take_left]
 unfold fk
 rw[hs,h6,hd,if_pos ⟨h,rfl⟩]
theorem sL {p:List UInt8}(hp:p.length=512):
  (cZ p<=504/\bQ (p.getD 6 0) ((p.drop 8).take (cZ p))=p)↔(p.take 4=qW (jL (p.drop 4))/\cZ p<=504/\p.getD 7 0=157/\∀c∈p.drop (8+cZ p),c=0):=by
 match p,hp with
 |a0::a1::a2::a3::a4::a5::a6::a7::r,hp=>
   have hr:r.length=504:=by simp at hp;exact hp
   have hs:cZ (a0::a1::a2::a3::a4::a5::a6::a7::r)=a4.toNat+256*a5.toNat:=rfl
   rw[hs]
   show (_/\bQ a6 (r.take (a4.toNat+256*a5.toNat))=_)↔([a0,a1,a2,a3]=qW (jL (a4::a5::a6::a7::r))/\_/\a7=157/\_)
   have hd:(a0::a1::a2::a3::a4::a5::a6::a7::r).drop (8+(a4.toNat+256*a5.toNat))=r.drop (a4.toNat+256*a5.toNat):=by
    rw[Nat.add_comm 8];rfl
   rw[hd]
   generalize hn:a4.toNat+256*a5.toNat=n
   have h4:=a4.toNat_lt
   have h5:=a5.toNat_lt
   by_cases hle:n<=504
   ·have hl:(r.take n).length=n:=by simp;omega
    have ha4:Ky n=a4:=by
     apply N5.1;rw[My];omega
    have ha5:Ky (n/256)=a5:=by
     apply N5.1;rw[My];omega
    have hb:dZ a6 (r.take n)=a4::a5::a6::157::(r.take n++KG (504 - n) 0):=by
     simp[dZ,hl,ha4,ha5]
    have hz:(∀c∈r.drop n,c=0)↔r.take n++KG (504 - n) 0=r:=by
     constructor
     ·intro h
      have:KG (504 - n) 0=r.drop n:=by
       symm;rw[List.eq_replicate_iff];exact⟨by simp;omega,h⟩
      rw[this,List.take_append_drop]
     ·intro h c hc
      have e:r.drop n=KG (504 - n) 0:=by
       conv=>lhs;rw[<-h]
       rw[List.drop_append_of_le_length (by omega),List.drop_of_length_le (by omega)];simp
      rw[e] at hc
      exact(List.mem_replicate.1 hc).2
    rw[hz]
    unfold bQ
    rw[hb]
    constructor
    ·rintro⟨_,h⟩
     simp only[qW,List.cons_append,List.nil_append,List.cons.injEq] at h
     obtain⟨e0,e1,e2,e3,_,_,_,e7,e8⟩:=h
     rw[e8] at e0 e1 e2 e3
     rw[<-e7]
     refine⟨?_,hle,rfl,e8⟩
     simp only[qW,e0,e1,e2,e3]
    ·rintro⟨h1,_,h2,h3⟩
     refine⟨hle,?_⟩
     rw[h3,<-h2,<-h1];rfl
   ·constructor
    ·rintro⟨h,_⟩;exact absurd h hle
    ·rintro⟨_,h,_⟩;exact absurd h hle
end Go.Proofs.YtkehfflpbpdokaaGreatDoor
