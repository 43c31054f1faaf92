/-
 Pages in plain words: their sum, what seals them, what opens them.
-/
import Derived.Test.YtdpdmbceakdlmaaGreatDoorFxk
namespace Go.Proofs.YtdpdmbceakdlmaaGreatDoor
def C4:BitVec 32:=0xedb88320#32
def jj (r:BitVec 32):BitVec 32:=(r>>>1)^^^(if r.getLsbD 0 then C4 else 0#32)
def jE (r:BitVec 32):BitVec 32:=jj (jj (jj (jj r)))
def y7 (r:BitVec 32) (c:UInt8):BitVec 32:=jE (jE (r^^^BitVec.ofNat 32 c.toNat))
def eR (l:List UInt8):BitVec 32:= ~~~ (l.foldl y7 (BitVec.allOnes 32))
def kD:List (BitVec 32):=[0x00000000#32,0x1db71064#32,0x3b6e20c8#32,0x26d930ac#32,0x76dc4190#32,0x6b6b51f4#32,0x4db26158#32,0x5005713c#32,0xedb88320#32,0xf00f9344#32,0xd6d6a3e8#32,0xcb61b38c#32,0x9b64c2b0#32,0x86d3d2d4#32,0xa00ae278#32,0xbdbdf21c#32]
theorem yY (a b:BitVec 32):jj (a^^^b)=jj a^^^jj b:=by
 unfold jj
 rw[BitVec.ushiftRight_xor_distrib,BitVec.getLsbD_xor]
 generalize a>>>1=x
 generalize b>>>1=y
 cases a.getLsbD 0<;>cases b.getLsbD 0<;>simp
 ·rw[BitVec.xor_assoc]
 ·rw[BitVec.xor_assoc,BitVec.xor_assoc,BitVec.xor_comm y]
 ·rw[BitVec.xor_assoc,←BitVec.xor_assoc C4,BitVec.xor_comm C4 y,BitVec.xor_assoc y,BitVec.xor_self,BitVec.xor_zero]
theorem Ap (a b:BitVec 32):jE (a^^^b)=jE a^^^jE b:=by
 unfold jE;simp only[yY]
theorem jX {a:BitVec 32} (h:a.getLsbD 0=false):jj a=a>>>1:=by
 unfold jj;rw[h];simp
theorem xx {a:BitVec 32} (h:∀i,i<4→a.getLsbD i=false):jE a=a>>>4:=by
 have e1:jj a=a>>>1:=jX (h 0 (by decide))
 have e2:jj (a>>>1)=a>>>2:=by
  rw[jX (by rw[BitVec.getLsbD_ushiftRight];exact h 1 (by decide)),←BitVec.shiftRight_add]
 have e3:jj (a>>>2)=a>>>3:=by
  rw[jX (by rw[BitVec.getLsbD_ushiftRight];exact h 2 (by decide)),←BitVec.shiftRight_add]
 have e4:jj (a>>>3)=a>>>4:=by
  rw[jX (by rw[BitVec.getLsbD_ushiftRight];exact h 3 (by decide)),←BitVec.shiftRight_add]
 unfold jE
 rw[e1,e2,e3,e4]
theorem y3:∀n:Nat,n<16→jE (BitVec.ofNat 32 n)=kD.getD n 0#32:=by decide
theorem Dg (r:BitVec 32):r=(r&&&0xfffffff0#32)^^^(r&&&15#32):=by
 apply BitVec.eq_of_getLsbD_eq
 intro i hi
 rw[BitVec.getLsbD_xor,BitVec.getLsbD_and,BitVec.getLsbD_and]
 have:(0xfffffff0#32).getLsbD i=!((15#32).getLsbD i):=by
  revert i;decide
 rw[this]
 cases r.getLsbD i<;>cases (15#32).getLsbD i<;>rfl
theorem yg:∀i,i<4→(0xfffffff0#32).getLsbD i=false:=by decide
theorem As (r:BitVec 32):r&&&15#32=BitVec.ofNat 32 (r.toNat%16):=by
 apply BitVec.eq_of_toNat_eq
 have h1:(15#32).toNat=2^4 - 1:=by decide
 rw[BitVec.toNat_and,h1,Nat.and_two_pow_sub_one_eq_mod,BitVec.toNat_ofNat]
 omega
theorem vV (r:BitVec 32):(r&&&15#32)>>>4=0#32:=by
 rw[As]
 apply BitVec.eq_of_toNat_eq
 rw[BitVec.toNat_ushiftRight,BitVec.toNat_ofNat,Nat.shiftRight_eq_div_pow]
 simp
 omega
theorem C5 (r:BitVec 32):jE r=(r>>>4)^^^kD.getD (r.toNat%16) 0#32:=by
 have h:=Dg r
 have e1:jE r=jE (r&&&0xfffffff0#32)^^^jE (r&&&15#32):=by rw[←Ap,←h]
 have e2:r>>>4=(r&&&0xfffffff0#32)>>>4:=by
  conv=>lhs;rw[h,BitVec.ushiftRight_xor_distrib,vV]
  simp
 rw[e1,e2,xx (fun i hi=>by rw[BitVec.getLsbD_and,yg i hi,Bool.and_false]),As,y3 _ (Nat.mod_lt _ (by decide))]
def mV (x:BitVec 32):List UInt8:=[UInt8.ofNat x.toNat,UInt8.ofNat (x.toNat/256),UInt8.ofNat (x.toNat/65536),UInt8.ofNat (x.toNat/16777216)]
def cv (kind:UInt8) (b:List UInt8):List UInt8:=[UInt8.ofNat b.length,UInt8.ofNat (b.length/256),kind,157]++b++List.replicate (504 - b.length) 0
def bp (kind:UInt8) (b:List UInt8):List UInt8:=mV (eR (cv kind b))++cv kind b
def bA (p:List UInt8):Nat:=(p.getD 4 0).toNat+256*(p.getD 5 0).toNat
def dG (p:List UInt8):Option (UInt8×List UInt8):=
 if bA p≤504∧bp (p.getD 6 0) ((p.drop 8).take (bA p))=p then some (p.getD 6 0,(p.drop 8).take (bA p)) else none
theorem iU {kind:UInt8} {b:List UInt8} (h:b.length≤504):(cv kind b).length=508:=by
 simp[cv];omega
theorem eG {kind:UInt8} {b:List UInt8} (h:b.length≤504):(bp kind b).length=512:=by
 simp[bp,iU h,mV]
theorem yA {n:Nat} (h:n≤504):(UInt8.ofNat n).toNat+256*(UInt8.ofNat (n/256)).toNat=n:=by
 rw[UInt8.toNat_ofNat',UInt8.toNat_ofNat'];omega
theorem jJ {kind:UInt8} {b:List UInt8} (h:b.length≤504):dG (bp kind b)=some (kind,b):=by
 have h4:(bp kind b).getD 4 0=UInt8.ofNat b.length:=rfl
 have h5:(bp kind b).getD 5 0=UInt8.ofNat (b.length/256):=rfl
 have h6:(bp kind b).getD 6 0=kind:=rfl
 have hs:bA (bp kind b)=b.length:=by unfold bA;rw[h4,h5,yA h]
 have hd:((bp kind b).drop 8).take b.length=b:=by
  have:(bp kind b).drop 8=b++List.replicate (504 - b.length) 0:=rfl
  rw[this,List.take_left]
 unfold dG
 rw[hs,h6,hd,if_pos ⟨h,rfl⟩]
theorem qY {p:List UInt8} (hp:p.length=512):
  (bA p≤504∧bp (p.getD 6 0) ((p.drop 8).take (bA p))=p)↔(p.take 4=mV (eR (p.drop 4))∧bA p≤504∧p.getD 7 0=157∧∀c∈p.drop (8+bA p),c=0):=by
 match p,hp with
 |a0::a1::a2::a3::a4::a5::a6::a7::r,hp=>
   have hr:r.length=504:=by simp at hp;exact hp
   have hs:bA (a0::a1::a2::a3::a4::a5::a6::a7::r)=a4.toNat+256*a5.toNat:=rfl
   rw[hs]
   show (_∧bp a6 (r.take (a4.toNat+256*a5.toNat))=_)↔([a0,a1,a2,a3]=mV (eR (a4::a5::a6::a7::r))∧_∧a7=157∧_)
   have hd:(a0::a1::a2::a3::a4::a5::a6::a7::r).drop (8+(a4.toNat+256*a5.toNat))=r.drop (a4.toNat+256*a5.toNat):=by
    rw[Nat.add_comm 8];rfl
   rw[hd]
   generalize hn:a4.toNat+256*a5.toNat=n
   have h4:=a4.toNat_lt
   have h5:=a5.toNat_lt
   by_cases hle:n≤504
   ·have hl:(r.take n).length=n:=by simp;omega
    have ha4:UInt8.ofNat n=a4:=by
     apply UInt8.toNat_inj.1;rw[UInt8.toNat_ofNat'];omega
    have ha5:UInt8.ofNat (n/256)=a5:=by
     apply UInt8.toNat_inj.1;rw[UInt8.toNat_ofNat'];omega
    have hb:cv a6 (r.take n)=a4::a5::a6::157::(r.take n++List.replicate (504 - n) 0):=by
     simp[cv,hl,ha4,ha5]
    have hz:(∀c∈r.drop n,c=0)↔r.take n++List.replicate (504 - n) 0=r:=by
     constructor
     ·intro h
      have:List.replicate (504 - n) 0=r.drop n:=by
       symm;rw[List.eq_replicate_iff];exact⟨by simp;omega,h⟩
      rw[this,List.take_append_drop]
     ·intro h c hc
      have e:r.drop n=List.replicate (504 - n) 0:=by
       conv=>lhs;rw[←h]
       rw[List.drop_append_of_le_length (by omega),List.drop_of_length_le (by omega)];simp
      rw[e] at hc
      exact(List.mem_replicate.1 hc).2
    rw[hz]
    unfold bp
    rw[hb]
    constructor
    ·rintro⟨_,h⟩
     simp only[mV,List.cons_append,List.nil_append,List.cons.injEq] at h
     obtain⟨e0,e1,e2,e3,_,_,_,e7,e8⟩:=h
     rw[e8] at e0 e1 e2 e3
     rw[←e7]
     refine⟨?_,hle,rfl,e8⟩
     simp only[mV,e0,e1,e2,e3]
    ·rintro⟨h1,_,h2,h3⟩
     refine⟨hle,?_⟩
     rw[h3,←h2,←h1];rfl
   ·constructor
    ·rintro⟨h,_⟩;exact absurd h hle
    ·rintro⟨_,h,_⟩;exact absurd h hle
end Go.Proofs.YtdpdmbceakdlmaaGreatDoor
