/-
 Pages in plain words: their sum, what seals them, what opens them.
-/
import Derived.Test.YtacfhncgbgijhaaGreatFxk
namespace Go.Proofs.YtacfhncgbgijhaaGreat
class Tab where
 l:List (BitVec 32)
def tc [Tab]:List (BitVec 32):=Tab.l
def DX [Tab] (r:BitVec 32):BitVec 32:=(r>>>4)^^^tc.getD (r.toNat%16) 0#32
def GR [Tab] (r:BitVec 32) (c:UInt8):BitVec 32:=DX (DX (r^^^BitVec.ofNat 32 c.toNat))
def ky [Tab] (l:List UInt8):BitVec 32:= ~~~ (l.foldl GR (BitVec.allOnes 32))
theorem JJ (r:BitVec 32):r&&&15#32=BitVec.ofNat 32 (r.toNat%16):=by
 apply BitVec.eq_of_toNat_eq
 have h1:(15#32).toNat=2^4 - 1:=by decide
 rw[BitVec.toNat_and,h1,Nat.and_two_pow_sub_one_eq_mod,BitVec.toNat_ofNat]
 omega
theorem Gn [Tab] (r:BitVec 32):DX r=(r>>>4)^^^tc.getD (r.toNat%16) 0#32:=rfl
def tx (x:BitVec 32):List UInt8:=[UInt8.ofNat x.toNat,UInt8.ofNat (x.toNat/256),UInt8.ofNat (x.toNat/65536),UInt8.ofNat (x.toNat/16777216)]
def fk (kind:UInt8) (b:List UInt8):List UInt8:=[UInt8.ofNat b.length,UInt8.ofNat (b.length/256),kind,157]++b++List.replicate (504 - b.length) 0
def cc [Tab] (kind:UInt8) (b:List UInt8):List UInt8:=tx (ky (fk kind b))++fk kind b
def dv (p:List UInt8):Nat:=(p.getD 4 0).toNat+256*(p.getD 5 0).toNat
def fW [Tab] (p:List UInt8):Option (UInt8×List UInt8):=
 if dv p≤504∧cc (p.getD 6 0) ((p.drop 8).take (dv p))=p then some (p.getD 6 0,(p.drop 8).take (dv p)) else none
theorem nY {kind:UInt8} {b:List UInt8} (h:b.length≤504):(fk kind b).length=508:=by
 simp[fk];omega
theorem jY [Tab] {kind:UInt8} {b:List UInt8} (h:b.length≤504):(cc kind b).length=512:=by
 simp[cc,nY h,tx]
theorem BY {n:Nat} (h:n≤504):(UInt8.ofNat n).toNat+256*(UInt8.ofNat (n/256)).toNat=n:=by
 rw[UInt8.toNat_ofNat',UInt8.toNat_ofNat'];omega
theorem pW [Tab] {kind:UInt8} {b:List UInt8} (h:b.length≤504):fW (cc kind b)=some (kind,b):=by
 have h4:(cc kind b).getD 4 0=UInt8.ofNat b.length:=rfl
 have h5:(cc kind b).getD 5 0=UInt8.ofNat (b.length/256):=rfl
 have h6:(cc kind b).getD 6 0=kind:=rfl
 have hs:dv (cc kind b)=b.length:=by unfold dv;rw[h4,h5,BY h]
 have hd:((cc kind b).drop 8).take b.length=b:=by
  have:(cc kind b).drop 8=b++List.replicate (504 - b.length) 0:=rfl
  rw[this,List.take_left]
 unfold fW
 rw[hs,h6,hd,if_pos ⟨h,rfl⟩]
theorem uy [Tab] {p:List UInt8} (hp:p.length=512):
  (dv p≤504∧cc (p.getD 6 0) ((p.drop 8).take (dv p))=p)↔(p.take 4=tx (ky (p.drop 4))∧dv p≤504∧p.getD 7 0=157∧∀c∈p.drop (8+dv p),c=0):=by
 match p,hp with
 |a0::a1::a2::a3::a4::a5::a6::a7::r,hp=>
   have hr:r.length=504:=by simp at hp;exact hp
   have hs:dv (a0::a1::a2::a3::a4::a5::a6::a7::r)=a4.toNat+256*a5.toNat:=rfl
   rw[hs]
   show (_∧cc a6 (r.take (a4.toNat+256*a5.toNat))=_)↔([a0,a1,a2,a3]=tx (ky (a4::a5::a6::a7::r))∧_∧a7=157∧_)
   have hd:(a0::a1::a2::a3::a4::a5::a6::a7::r).drop (8+(a4.toNat+256*a5.toNat))=r.drop (a4.toNat+256*a5.toNat):=by
    rw[Nat.add_comm 8];rfl
   rw[hd]
   generalize hn:a4.toNat+256*a5.toNat=n
   have h4:=a4.toNat_lt
   have h5:=a5.toNat_lt
   by_cases hle:n≤504
   ·have hl:(r.take n).length=n:=by simp;omega
    have ha4:UInt8.ofNat n=a4:=by
     apply UInt8.toNat_inj.1;rw[UInt8.toNat_ofNat'];omega
    have ha5:UInt8.ofNat (n/256)=a5:=by
     apply UInt8.toNat_inj.1;rw[UInt8.toNat_ofNat'];omega
    have hb:fk a6 (r.take n)=a4::a5::a6::157::(r.take n++List.replicate (504 - n) 0):=by
     simp[fk,hl,ha4,ha5]
    have hz:(∀c∈r.drop n,c=0)↔r.take n++List.replicate (504 - n) 0=r:=by
     constructor
     ·intro h
      have:List.replicate (504 - n) 0=r.drop n:=by
       symm;rw[List.eq_replicate_iff];exact⟨by simp;omega,h⟩
      rw[this,List.take_append_drop]
     ·intro h c hc
      have e:r.drop n=List.replicate (504 - n) 0:=by
       conv=>lhs;rw[←h]
       rw[List.drop_append_of_le_length (by omega),List.drop_of_length_le (by omega)];simp
      rw[e] at hc
      exact(List.mem_replicate.1 hc).2
    rw[hz]
    unfold cc
    rw[hb]
    constructor
    ·rintro⟨_,h⟩
     simp only[tx,List.cons_append,List.nil_append,List.cons.injEq] at h
     obtain⟨e0,e1,e2,e3,_,_,_,e7,e8⟩:=h
     rw[e8] at e0 e1 e2 e3
     rw[←e7]
     refine⟨?_,hle,rfl,e8⟩
     simp only[tx,e0,e1,e2,e3]
    ·rintro⟨h1,_,h2,h3⟩
     refine⟨hle,?_⟩
     rw[h3,←h2,←h1];rfl
   ·constructor
    ·rintro⟨h,_⟩;exact absurd h hle
    ·rintro⟨_,h,_⟩;exact absurd h hle
end Go.Proofs.YtacfhncgbgijhaaGreat
