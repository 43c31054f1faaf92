/-
 Pages in plain words: their sum, what seals them, what opens them.
-/
import Derived.Test.YtkehfflpbpdokaaGreatDoorFxk
open BitVec renaming toNat_ofNat->Mm,xor_assoc->NN,getLsbD_ushiftRight->OA,ofNat->OL,shiftRight_add->Pf,ushiftRight_xor_distrib->Pq,getLsbD_and->PQ,eq_of_toNat_eq->Rm,getLsbD_xor->RU,xor_comm->Sk
open List renaming replicate->KG
open UInt8 renaming ofNat->Ky,toNat_ofNat'->My,toNat_inj->N5
namespace Go.Proofs.YtkehfflpbpdokaaGreatDoor
def Gq:BitVec 32:=0xedb88320#32
def lH (r:BitVec 32):BitVec 32:=(r>>>1)^^^(if r.getLsbD 0 then Gq else 0#32)
def lz (r:BitVec 32):BitVec 32:=lH (lH (lH (lH r)))
def Ei (r:BitVec 32)(c:UInt8):BitVec 32:=lz (lz (r^^^OL 32 c.toNat))
def jN (l:List UInt8):BitVec 32:= ~~~ (l.foldl Ei (BitVec.allOnes 32))
def lr:List (BitVec 32):=[0x00000000#32,0x1db71064#32,0x3b6e20c8#32,0x26d930ac#32,0x76dc4190#32,0x6b6b51f4#32,0x4db26158#32,0x5005713c#32,0xedb88320#32,0xf00f9344#32,0xd6d6a3e8#32,0xcb61b38c#32,0x9b64c2b0#32,0x86d3d2d4#32,0xa00ae278#32,0xbdbdf21c#32]
theorem BY (a b:BitVec 32):lH (a^^^b)=lH a^^^lH b:=by
 unfold lH
 rw[Pq,RU]
 generalize a>>>1=x
 generalize b>>>1=y
 cases a.getLsbD 0<;>cases b.getLsbD 0<;>simp
 ·rw[NN]
 ·rw[NN,NN,Sk y]
 ·rw[NN,<-NN Gq,Sk Gq y,NN y,BitVec.xor_self,BitVec.xor_zero]
theorem Cy (a b:BitVec 32):lz (a^^^b)=lz a^^^lz b:=by
 unfold lz;simp only[BY]
theorem kI {a:BitVec 32}(h:a.getLsbD 0=false):lH a=a>>>1:=by
 unfold lH;rw[h];simp
theorem zy {a:BitVec 32}(h:∀i,i<4->a.getLsbD i=false):lz a=a>>>4:=by
 have e1:lH a=a>>>1:=kI (h 0 (by decide))
 have e2:lH (a>>>1)=a>>>2:=by
  rw[kI (by rw[OA];exact h 1 (by decide)),<-Pf]
 have e3:lH (a>>>2)=a>>>3:=by
  rw[kI (by rw[OA];exact h 2 (by decide)),<-Pf]
 have e4:lH (a>>>3)=a>>>4:=by
  rw[kI (by rw[OA];exact h 3 (by decide)),<-Pf]
 unfold lz
 rw[e1,e2,e3,e4]
theorem Bc:∀n:Nat,n<16->lz (OL 32 n)=lr.getD n 0#32:=by decide
theorem DQ (r:BitVec 32):r=(r&&&0xfffffff0#32)^^^(r&&&15#32):=by
 apply BitVec.eq_of_getLsbD_eq
 intro i hi
 rw[RU,PQ,PQ]
 have:(0xfffffff0#32).getLsbD i=!((15#32).getLsbD i):=by
  revert i;decide
 rw[this]
 cases r.getLsbD i<;>cases (15#32).getLsbD i<;>rfl
theorem yU:∀i,i<4->(0xfffffff0#32).getLsbD i=false:=by decide
theorem BB (r:BitVec 32):r&&&15#32=OL 32 (r.toNat%16):=by
 apply Rm
 have h1:(15#32).toNat=2^4 - 1:=by decide
 rw[BitVec.toNat_and,h1,Nat.and_two_pow_sub_one_eq_mod,Mm]
 omega
theorem wV (r:BitVec 32):(r&&&15#32)>>>4=0#32:=by
 rw[BB]
 apply Rm
 rw[BitVec.toNat_ushiftRight,Mm,Nat.shiftRight_eq_div_pow]
 simp
 omega
theorem EN (r:BitVec 32):lz r=(r>>>4)^^^lr.getD (r.toNat%16) 0#32:=by
 have h:=DQ r
 have e1:lz r=lz (r&&&0xfffffff0#32)^^^lz (r&&&15#32):=by rw[<-Cy,<-h]
 have e2:r>>>4=(r&&&0xfffffff0#32)>>>4:=by
  conv=>lhs;rw[h,Pq,wV]
  simp
 rw[e1,e2,zy (λi hi=>by rw[PQ,yU i hi,Bool.and_false]),BB,Bc _ (Nat.mod_lt _ (by decide))]
def qR (x:BitVec 32):List UInt8:=[Ky x.toNat,Ky (x.toNat/256),Ky (x.toNat/65536),Ky (x.toNat/16777216)]
def ez (kind:UInt8)(b:List UInt8):List UInt8:=[Ky b.length,Ky (b.length/256),kind,157]++b++KG (504 - b.length) 0
def bP (kind:UInt8)(b:List UInt8):List UInt8:=qR (jN (ez kind b))++ez kind b
def cY (p:List UInt8):Nat:=(p.getD 4 0).toNat+256*(p.getD 5 0).toNat
def fm (p:List UInt8):Option (UInt8×List UInt8):=
 if cY p<=504/\bP (p.getD 6 0) ((p.drop 8).take (cY p))=p then some (p.getD 6 0,(p.drop 8).take (cY p)) else none
theorem lL {kind:UInt8}{b:List UInt8}(h:b.length<=504):(ez kind b).length=508:=by
 simp[ez];omega
theorem gx {kind:UInt8}{b:List UInt8}(h:b.length<=504):(bP kind b).length=512:=by
 simp[bP,lL h,qR]
theorem Aj {n:Nat}(h:n<=504):(Ky n).toNat+256*(Ky (n/256)).toNat=n:=by
 rw[My,My];omega
theorem nM {kind:UInt8}{b:List UInt8}(h:b.length<=504):fm (bP kind b)=some (kind,b):=by
 have h4:(bP kind b).getD 4 0=Ky b.length:=rfl
 have h5:(bP kind b).getD 5 0=Ky (b.length/256):=rfl
 have h6:(bP kind b).getD 6 0=kind:=rfl
 have hs:cY (bP kind b)=b.length:=by unfold cY;rw[h4,h5,Aj h]
 have hd:((bP kind b).drop 8).take b.length=b:=by
  have:(bP kind b).drop 8=b++KG (504 - b.length) 0:=rfl
  rw[this,List.take_left]
 unfold fm
 rw[hs,h6,hd,if_pos ⟨h,rfl⟩]
theorem sS {p:List UInt8}(hp:p.length=512):
  (cY p<=504/\bP (p.getD 6 0) ((p.drop 8).take (cY p))=p)↔(p.take 4=qR (jN (p.drop 4))/\cY p<=504/\p.getD 7 0=157/\∀c∈p.drop (8+cY p),c=0):=by
 match p,hp with
 |a0::a1::a2::a3::a4::a5::a6::a7::r,hp=>
   have hr:r.length=504:=by simp at hp;exact hp
   have hs:cY (a0::a1::a2::a3::a4::a5::a6::a7::r)=a4.toNat+256*a5.toNat:=rfl
   rw[hs]
   show (_/\bP a6 (r.take (a4.toNat+256*a5.toNat))=_)↔([a0,a1,a2,a3]=qR (jN (a4::a5::a6::a7::r))/\_/\a7=157/\_)
   have hd:(a0::a1::a2::a3::a4::a5::a6::a7::r).drop (8+(a4.toNat+256*a5.toNat))=r.drop (a4.toNat+256*a5.toNat):=by
    rw[Nat.add_comm 8];rfl
   rw[hd]
   generalize hn:a4.toNat+256*a5.toNat=n
   have h4:=a4.toNat_lt
   have h5:=a5.toNat_lt
   by_cases hle:n<=504
   ·have hl:(r.take n).length=n:=by simp;omega
    have ha4:Ky n=a4:=by
     apply N5.1;rw[My];omega
    have ha5:Ky (n/256)=a5:=by
     apply N5.1;rw[My];omega
    have hb:ez a6 (r.take n)=a4::a5::a6::157::(r.take n++KG (504 - n) 0):=by
     simp[ez,hl,ha4,ha5]
    have hz:(∀c∈r.drop n,c=0)↔r.take n++KG (504 - n) 0=r:=by
     constructor
     ·intro h
      have:KG (504 - n) 0=r.drop n:=by
       symm;rw[List.eq_replicate_iff];exact⟨by simp;omega,h⟩
      rw[this,List.take_append_drop]
     ·intro h c hc
      have e:r.drop n=KG (504 - n) 0:=by
       conv=>lhs;rw[<-h]
       rw[List.drop_append_of_le_length (by omega),List.drop_of_length_le (by omega)];simp
      rw[e] at hc
      exact(List.mem_replicate.1 hc).2
    rw[hz]
    unfold bP
    rw[hb]
    constructor
    ·rintro⟨_,h⟩
     simp only[qR,List.cons_append,List.nil_append,List.cons.injEq] at h
     obtain⟨e0,e1,e2,e3,_,_,_,e7,e8⟩:=h
     rw[e8] at e0 e1 e2 e3
     rw[<-e7]
     refine⟨?_,hle,rfl,e8⟩
     simp only[qR,e0,e1,e2,e3]
    ·rintro⟨h1,_,h2,h3⟩
     refine⟨hle,?_⟩
     rw[h3,<-h2,<-h1];rfl
   ·constructor
    ·rintro⟨h,_⟩;exact absurd h hle
    ·rintro⟨_,h,_⟩;exact absurd h hle
end Go.Proofs.YtkehfflpbpdokaaGreatDoor
