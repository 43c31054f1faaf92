/-
 Pages in plain words: their sum, what seals them, what opens them.
-/
import Derived.Test.YtmkbhnholcaghaaGreatDoorFxk
open BitVec renaming toNat_ofNat->QW,ofNat->SH,xor_assoc->SJ,getLsbD_ushiftRight->TY,shiftRight_add->Us,ushiftRight_xor_distrib->Uy,getLsbD_and->UW,xor_comm->Vp,eq_of_toNat_eq->Vz,getLsbD_xor->VS
open List renaming replicate->OR
open UInt8 renaming ofNat->O5,toNat_inj->QK,toNat_ofNat'->Rh
namespace Go.Proofs.YtmkbhnholcaghaaGreatDoor
def Io:BitVec 32:=0xedb88320#32
def lh (r:BitVec 32):BitVec 32:=(r>>>1)^^^(if r.getLsbD 0 then Io else 0#32)
def lD (r:BitVec 32):BitVec 32:=lh (lh (lh (lh r)))
def FV (r:BitVec 32)(c:UInt8):BitVec 32:=lD (lD (r^^^SH 32 c.toNat))
def fV (l:List UInt8):BitVec 32:= ~~~ (l.foldl FV (BitVec.allOnes 32))
def nL:List (BitVec 32):=[0x00000000#32,0x1db71064#32,0x3b6e20c8#32,0x26d930ac#32,0x76dc4190#32,0x6b6b51f4#32,0x4db26158#32,0x5005713c#32,0xedb88320#32,0xf00f9344#32,0xd6d6a3e8#32,0xcb61b38c#32,0x9b64c2b0#32,0x86d3d2d4#32,0xa00ae278#32,0xbdbdf21c#32]
theorem EH (a b:BitVec 32):lh (a^^^b)=lh a^^^lh b:=by
 unfold lh;rw[Uy,VS];generalize a>>>1=x;generalize b>>>1=y;cases a.getLsbD 0<;>cases b.getLsbD 0<;>simp
 ·rw[SJ]
 ·rw[SJ,SJ,Vp y]
 ·rw[SJ,<-SJ Io,Vp Io y,SJ y,BitVec.xor_self,BitVec.xor_zero]
theorem D8 (a b:BitVec 32):lD (a^^^b)=lD a^^^lD b:=by
 unfold lD;simp only[EH]
theorem mL {a:BitVec 32}(h:a.getLsbD 0=false):lh a=a>>>1:=by
 unfold lh;rw[h];simp
theorem Cx {a:BitVec 32}(h:∀i,i<4->a.getLsbD i=false):lD a=a>>>4:=by
 have b:lh a=a>>>1:=mL (h 0 (by decide));have e2:lh (a>>>1)=a>>>2:=by
  rw[mL (by rw[TY];exact h 1 (by decide)),<-Us]
 have c:lh (a>>>2)=a>>>3:=by
  rw[mL (by rw[TY];exact h 2 (by decide)),<-Us]
 have d:lh (a>>>3)=a>>>4:=by
  rw[mL (by rw[TY];exact h 3 (by decide)),<-Us]
 unfold lD;rw[b,e2,c,d]
theorem Fg:∀n:Nat,n<16->lD (SH 32 n)=nL.getD n 0#32:=by decide
theorem IN (r:BitVec 32):r=(r&&&0xfffffff0#32)^^^(r&&&15#32):=by
 apply BitVec.eq_of_getLsbD_eq;intro i hi;rw[VS,UW,UW];have:(0xfffffff0#32).getLsbD i=!((15#32).getLsbD i):=by
  revert i;decide
 rw[this];cases r.getLsbD i<;>cases (15#32).getLsbD i<;>rfl
theorem Dg:∀i,i<4->(0xfffffff0#32).getLsbD i=false:=by decide
theorem E9 (r:BitVec 32):r&&&15#32=SH 32 (r.toNat%16):=by
 apply Vz;have h1:(15#32).toNat=2^4 - 1:=by decide
 rw[BitVec.toNat_and,h1,Nat.and_two_pow_sub_one_eq_mod,QW];omega
theorem AS (r:BitVec 32):(r&&&15#32)>>>4=0#32:=by
 rw[E9];apply Vz;rw[BitVec.toNat_ushiftRight,QW,Nat.shiftRight_eq_div_pow];simp;omega
theorem Hf (r:BitVec 32):lD r=(r>>>4)^^^nL.getD (r.toNat%16) 0#32:=by
 have h:=IN r;have a:lD r=lD (r&&&0xfffffff0#32)^^^lD (r&&&15#32):=by rw[<-D8,<-h]
 have e2:r>>>4=(r&&&0xfffffff0#32)>>>4:=by
  conv=>lhs;rw[h,Uy,AS]
  simp
 rw[a,e2,Cx (λi hi=>by rw[UW,Dg i hi,Bool.and_false]),E9,Fg _ (Nat.mod_lt _ (by decide))]
def pH (x:BitVec 32):List UInt8:=[O5 x.toNat,O5 (x.toNat/256),O5 (x.toNat/65536),O5 (x.toNat/16777216)]
def cY (kind:UInt8)(b:List UInt8):List UInt8:=[O5 b.length,O5 (b.length/256),kind,157]++b++OR (504 - b.length) 0
def cM (kind:UInt8)(b:List UInt8):List UInt8:=pH (fV (cY kind b))++cY kind b
def bL (p:List UInt8):Nat:=(p.getD 4 0).toNat+256*(p.getD 5 0).toNat
def iG (p:List UInt8):Option (UInt8×List UInt8):=
 if bL p<=504/\cM (p.getD 6 0) ((p.drop 8).take (bL p))=p then some (p.getD 6 0,(p.drop 8).take (bL p)) else none
theorem j5 {kind:UInt8}{b:List UInt8}(h:b.length<=504):(cY kind b).length=508:=by
 simp[cY];omega
theorem wV {kind:UInt8}{b:List UInt8}(h:b.length<=504):(cM kind b).length=512:=by
 simp[cM,j5 h,pH]
theorem vi {p:List UInt8}(b:p.length=512):
  (bL p<=504/\cM (p.getD 6 0) ((p.drop 8).take (bL p))=p)↔(p.take 4=pH (fV (p.drop 4))/\bL p<=504/\p.getD 7 0=157/\∀c∈p.drop (8+bL p),c=0):=by
 match p,b with
 |a0::f::a2::a3::a4::a5::a::d::r,b=>
   have w:r.length=504:=by simp at b;exact b
   have hs:bL (a0::f::a2::a3::a4::a5::a::d::r)=a4.toNat+256*a5.toNat:=rfl;rw[hs];show (_/\cM a (r.take (a4.toNat+256*a5.toNat))=_)↔([a0,f,a2,a3]=pH (fV (a4::a5::a::d::r))/\_/\d=157/\_);have hd:(a0::f::a2::a3::a4::a5::a::d::r).drop (8+(a4.toNat+256*a5.toNat))=r.drop (a4.toNat+256*a5.toNat):=by
    rw[Nat.add_comm 8];rfl
   rw[hd];generalize x:a4.toNat+256*a5.toNat=n;have y:=a4.toNat_lt;have z:=a5.toNat_lt;by_cases hle:n<=504
   ·have hl:(r.take n).length=n:=by simp;omega
    have g:O5 n=a4:=by
     apply QK.1;rw[Rh];omega
    have i:O5 (n/256)=a5:=by
     apply QK.1;rw[Rh];omega
    have q:cY a (r.take n)=a4::a5::a::157::(r.take n++OR (504 - n) 0):=by
     simp[cY,hl,g,i]
    have s:(∀c∈r.drop n,c=0)↔r.take n++OR (504 - n) 0=r:=by
     constructor
     ·intro h;have:OR (504 - n) 0=r.drop n:=by
       symm;rw[List.eq_replicate_iff];exact⟨by simp;omega,h⟩
      rw[this,List.take_append_drop]
     ·intro h c j;have e:r.drop n=OR (504 - n) 0:=by
       conv=>lhs;rw[<-h]
       rw[List.drop_append_of_le_length (by omega),List.drop_of_length_le (by omega)];simp
      rw[e] at j;exact(List.mem_replicate.1 j).2
    rw[s];unfold cM;rw[q];constructor
    ·rintro⟨_,h⟩;simp only[pH,List.cons_append,List.nil_append,List.cons.injEq] at h;obtain⟨k,l,e2,m,_,_,_,t,o⟩:=h;rw[o] at k l e2 m;rw[<-t];refine⟨?_,hle,rfl,o⟩;simp only[pH,k,l,e2,m]
    ·rintro⟨h1,_,u,v⟩;refine⟨hle,?_⟩;rw[v,<-u,<-h1];rfl
   ·constructor
    ·rintro⟨h,_⟩;exact absurd h hle
    ·rintro⟨_,h,_⟩;exact absurd h hle
end Go.Proofs.YtmkbhnholcaghaaGreatDoor
