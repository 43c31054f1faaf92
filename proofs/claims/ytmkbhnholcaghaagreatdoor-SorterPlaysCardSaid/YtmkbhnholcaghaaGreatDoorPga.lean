/-
 Pages in plain words: their sum, what seals them, what opens them.
-/
import Derived.Test.YtmkbhnholcaghaaGreatDoorFxk
open BitVec renaming toNat_ofNat->QJ,ofNat->Sm,xor_assoc->Sn,getLsbD_ushiftRight->TJ,shiftRight_add->Uf,ushiftRight_xor_distrib->Ul,getLsbD_and->UE,xor_comm->U9,eq_of_toNat_eq->Vj,getLsbD_xor->VE
open List renaming replicate->OD
open UInt8 renaming ofNat->OQ,toNat_inj->Qw,toNat_ofNat'->Q0
namespace Go.Proofs.YtmkbhnholcaghaaGreatDoor
def Ih:BitVec 32:=0xedb88320#32
def kW (r:BitVec 32):BitVec 32:=(r>>>1)^^^(if r.getLsbD 0 then Ih else 0#32)
def lq (r:BitVec 32):BitVec 32:=kW (kW (kW (kW r)))
def FL (r:BitVec 32)(c:UInt8):BitVec 32:=lq (lq (r^^^Sm 32 c.toNat))
def fR (l:List UInt8):BitVec 32:= ~~~ (l.foldl FL (BitVec.allOnes 32))
def nz:List (BitVec 32):=[0x00000000#32,0x1db71064#32,0x3b6e20c8#32,0x26d930ac#32,0x76dc4190#32,0x6b6b51f4#32,0x4db26158#32,0x5005713c#32,0xedb88320#32,0xf00f9344#32,0xd6d6a3e8#32,0xcb61b38c#32,0x9b64c2b0#32,0x86d3d2d4#32,0xa00ae278#32,0xbdbdf21c#32]
theorem Et (a b:BitVec 32):kW (a^^^b)=kW a^^^kW b:=by
 unfold kW;rw[Ul,VE];generalize a>>>1=x;generalize b>>>1=y;cases a.getLsbD 0<;>cases b.getLsbD 0<;>simp
 ·rw[Sn]
 ·rw[Sn,Sn,U9 y]
 ·rw[Sn,<-Sn Ih,U9 Ih y,Sn y,BitVec.xor_self,BitVec.xor_zero]
theorem DO (a b:BitVec 32):lq (a^^^b)=lq a^^^lq b:=by
 unfold lq;simp only[Et]
theorem mg {a:BitVec 32}(h:a.getLsbD 0=false):kW a=a>>>1:=by
 unfold kW;rw[h];simp
theorem Cj {a:BitVec 32}(h:∀i,i<4->a.getLsbD i=false):lq a=a>>>4:=by
 have b:kW a=a>>>1:=mg (h 0 (by decide));have e2:kW (a>>>1)=a>>>2:=by
  rw[mg (by rw[TJ];exact h 1 (by decide)),<-Uf]
 have c:kW (a>>>2)=a>>>3:=by
  rw[mg (by rw[TJ];exact h 2 (by decide)),<-Uf]
 have d:kW (a>>>3)=a>>>4:=by
  rw[mg (by rw[TJ];exact h 3 (by decide)),<-Uf]
 unfold lq;rw[b,e2,c,d]
theorem E0:∀n:Nat,n<16->lq (Sm 32 n)=nz.getD n 0#32:=by decide
theorem IH (r:BitVec 32):r=(r&&&0xfffffff0#32)^^^(r&&&15#32):=by
 apply BitVec.eq_of_getLsbD_eq;intro i hi;rw[VE,UE,UE];have:(0xfffffff0#32).getLsbD i=!((15#32).getLsbD i):=by
  revert i;decide
 rw[this];cases r.getLsbD i<;>cases (15#32).getLsbD i<;>rfl
theorem C1:∀i,i<4->(0xfffffff0#32).getLsbD i=false:=by decide
theorem EU (r:BitVec 32):r&&&15#32=Sm 32 (r.toNat%16):=by
 apply Vj;have h1:(15#32).toNat=2^4 - 1:=by decide
 rw[BitVec.toNat_and,h1,Nat.and_two_pow_sub_one_eq_mod,QJ];omega
theorem AF (r:BitVec 32):(r&&&15#32)>>>4=0#32:=by
 rw[EU];apply Vj;rw[BitVec.toNat_ushiftRight,QJ,Nat.shiftRight_eq_div_pow];simp;omega
theorem G8 (r:BitVec 32):lq r=(r>>>4)^^^nz.getD (r.toNat%16) 0#32:=by
 have h:=IH r;have a:lq r=lq (r&&&0xfffffff0#32)^^^lq (r&&&15#32):=by rw[<-DO,<-h]
 have e2:r>>>4=(r&&&0xfffffff0#32)>>>4:=by
  conv=>lhs;rw[h,Ul,AF]
  simp
 rw[a,e2,Cj (λi hi=>by rw[UE,C1 i hi,Bool.and_false]),EU,E0 _ (Nat.mod_lt _ (by decide))]
def pw (x:BitVec 32):List UInt8:=[OQ x.toNat,OQ (x.toNat/256),OQ (x.toNat/65536),OQ (x.toNat/16777216)]
def cV (kind:UInt8)(b:List UInt8):List UInt8:=[OQ b.length,OQ (b.length/256),kind,157]++b++OD (504 - b.length) 0
def cI (kind:UInt8)(b:List UInt8):List UInt8:=pw (fR (cV kind b))++cV kind b
def bK (p:List UInt8):Nat:=(p.getD 4 0).toNat+256*(p.getD 5 0).toNat
def iE (p:List UInt8):Option (UInt8×List UInt8):=
 if bK p<=504/\cI (p.getD 6 0) ((p.drop 8).take (bK p))=p then some (p.getD 6 0,(p.drop 8).take (bK p)) else none
theorem jV {kind:UInt8}{b:List UInt8}(h:b.length<=504):(cV kind b).length=508:=by
 simp[cV];omega
theorem wL {kind:UInt8}{b:List UInt8}(h:b.length<=504):(cI kind b).length=512:=by
 simp[cI,jV h,pw]
theorem u5 {p:List UInt8}(b:p.length=512):
  (bK p<=504/\cI (p.getD 6 0) ((p.drop 8).take (bK p))=p)↔(p.take 4=pw (fR (p.drop 4))/\bK p<=504/\p.getD 7 0=157/\∀c∈p.drop (8+bK p),c=0):=by
 match p,b with
 |a0::f::a2::a3::a4::a5::a::d::r,b=>
   have w:r.length=504:=by simp at b;exact b
   have hs:bK (a0::f::a2::a3::a4::a5::a::d::r)=a4.toNat+256*a5.toNat:=rfl;rw[hs];show (_/\cI a (r.take (a4.toNat+256*a5.toNat))=_)↔([a0,f,a2,a3]=pw (fR (a4::a5::a::d::r))/\_/\d=157/\_);have hd:(a0::f::a2::a3::a4::a5::a::d::r).drop (8+(a4.toNat+256*a5.toNat))=r.drop (a4.toNat+256*a5.toNat):=by
    rw[Nat.add_comm 8];rfl
   rw[hd];generalize x:a4.toNat+256*a5.toNat=n;have y:=a4.toNat_lt;have z:=a5.toNat_lt;by_cases hle:n<=504
   ·have hl:(r.take n).length=n:=by simp;omega
    have g:OQ n=a4:=by
     apply Qw.1;rw[Q0];omega
    have i:OQ (n/256)=a5:=by
     apply Qw.1;rw[Q0];omega
    have q:cV a (r.take n)=a4::a5::a::157::(r.take n++OD (504 - n) 0):=by
     simp[cV,hl,g,i]
    have s:(∀c∈r.drop n,c=0)↔r.take n++OD (504 - n) 0=r:=by
     constructor
     ·intro h;have:OD (504 - n) 0=r.drop n:=by
       symm;rw[List.eq_replicate_iff];exact⟨by simp;omega,h⟩
      rw[this,List.take_append_drop]
     ·intro h c j;have e:r.drop n=OD (504 - n) 0:=by
       conv=>lhs;rw[<-h]
       rw[List.drop_append_of_le_length (by omega),List.drop_of_length_le (by omega)];simp
      rw[e] at j;exact(List.mem_replicate.1 j).2
    rw[s];unfold cI;rw[q];constructor
    ·rintro⟨_,h⟩;simp only[pw,List.cons_append,List.nil_append,List.cons.injEq] at h;obtain⟨k,l,e2,m,_,_,_,t,o⟩:=h;rw[o] at k l e2 m;rw[<-t];refine⟨?_,hle,rfl,o⟩;simp only[pw,k,l,e2,m]
    ·rintro⟨h1,_,u,v⟩;refine⟨hle,?_⟩;rw[v,<-u,<-h1];rfl
   ·constructor
    ·rintro⟨h,_⟩;exact absurd h hle
    ·rintro⟨_,h,_⟩;exact absurd h hle
end Go.Proofs.YtmkbhnholcaghaaGreatDoor
