/-
 Pages in plain words: their sum, what seals them, what opens them.
-/
import Derived.Test.YtmkbhnholcaghaaGreatDoorFxk
open BitVec renaming toNat_ofNat->QA,ofNat->Sd,xor_assoc->Se,getLsbD_ushiftRight->TB,shiftRight_add->T7,ushiftRight_xor_distrib->Ud,getLsbD_and->Uw,xor_comm->U1,eq_of_toNat_eq->Vb,getLsbD_xor->Vw
open List renaming replicate->Ov
open UInt8 renaming ofNat->OI,toNat_inj->Qm,toNat_ofNat'->QS
namespace Go.Proofs.YtmkbhnholcaghaaGreatDoor
def Ib:BitVec 32:=0xedb88320#32
def kU (r:BitVec 32):BitVec 32:=(r>>>1)^^^(if r.getLsbD 0 then Ib else 0#32)
def lh (r:BitVec 32):BitVec 32:=kU (kU (kU (kU r)))
def FH (r:BitVec 32)(c:UInt8):BitVec 32:=lh (lh (r^^^Sd 32 c.toNat))
def fQ (l:List UInt8):BitVec 32:= ~~~ (l.foldl FH (BitVec.allOnes 32))
def nv:List (BitVec 32):=[0x00000000#32,0x1db71064#32,0x3b6e20c8#32,0x26d930ac#32,0x76dc4190#32,0x6b6b51f4#32,0x4db26158#32,0x5005713c#32,0xedb88320#32,0xf00f9344#32,0xd6d6a3e8#32,0xcb61b38c#32,0x9b64c2b0#32,0x86d3d2d4#32,0xa00ae278#32,0xbdbdf21c#32]
theorem Em (a b:BitVec 32):kU (a^^^b)=kU a^^^kU b:=by
 unfold kU;rw[Ud,Vw];generalize a>>>1=x;generalize b>>>1=y;cases a.getLsbD 0<;>cases b.getLsbD 0<;>simp
 ·rw[Se]
 ·rw[Se,Se,U1 y]
 ·rw[Se,<-Se Ib,U1 Ib y,Se y,BitVec.xor_self,BitVec.xor_zero]
theorem DK (a b:BitVec 32):lh (a^^^b)=lh a^^^lh b:=by
 unfold lh;simp only[Em]
theorem mc {a:BitVec 32}(h:a.getLsbD 0=false):kU a=a>>>1:=by
 unfold kU;rw[h];simp
theorem Cg {a:BitVec 32}(h:∀i,i<4->a.getLsbD i=false):lh a=a>>>4:=by
 have b:kU a=a>>>1:=mc (h 0 (by decide));have e2:kU (a>>>1)=a>>>2:=by
  rw[mc (by rw[TB];exact h 1 (by decide)),<-T7]
 have c:kU (a>>>2)=a>>>3:=by
  rw[mc (by rw[TB];exact h 2 (by decide)),<-T7]
 have d:kU (a>>>3)=a>>>4:=by
  rw[mc (by rw[TB];exact h 3 (by decide)),<-T7]
 unfold lh;rw[b,e2,c,d]
theorem ET:∀n:Nat,n<16->lh (Sd 32 n)=nv.getD n 0#32:=by decide
theorem Iw (r:BitVec 32):r=(r&&&0xfffffff0#32)^^^(r&&&15#32):=by
 apply BitVec.eq_of_getLsbD_eq;intro i hi;rw[Vw,Uw,Uw];have:(0xfffffff0#32).getLsbD i=!((15#32).getLsbD i):=by
  revert i;decide
 rw[this];cases r.getLsbD i<;>cases (15#32).getLsbD i<;>rfl
theorem CY:∀i,i<4->(0xfffffff0#32).getLsbD i=false:=by decide
theorem EM (r:BitVec 32):r&&&15#32=Sd 32 (r.toNat%16):=by
 apply Vb;have h1:(15#32).toNat=2^4 - 1:=by decide
 rw[BitVec.toNat_and,h1,Nat.and_two_pow_sub_one_eq_mod,QA];omega
theorem AA (r:BitVec 32):(r&&&15#32)>>>4=0#32:=by
 rw[EM];apply Vb;rw[BitVec.toNat_ushiftRight,QA,Nat.shiftRight_eq_div_pow];simp;omega
theorem G0 (r:BitVec 32):lh r=(r>>>4)^^^nv.getD (r.toNat%16) 0#32:=by
 have h:=Iw r;have a:lh r=lh (r&&&0xfffffff0#32)^^^lh (r&&&15#32):=by rw[<-DK,<-h]
 have e2:r>>>4=(r&&&0xfffffff0#32)>>>4:=by
  conv=>lhs;rw[h,Ud,AA]
  simp
 rw[a,e2,Cg (λi hi=>by rw[Uw,CY i hi,Bool.and_false]),EM,ET _ (Nat.mod_lt _ (by decide))]
def pt (x:BitVec 32):List UInt8:=[OI x.toNat,OI (x.toNat/256),OI (x.toNat/65536),OI (x.toNat/16777216)]
def cT (kind:UInt8)(b:List UInt8):List UInt8:=[OI b.length,OI (b.length/256),kind,157]++b++Ov (504 - b.length) 0
def cG (kind:UInt8)(b:List UInt8):List UInt8:=pt (fQ (cT kind b))++cT kind b
def bK (p:List UInt8):Nat:=(p.getD 4 0).toNat+256*(p.getD 5 0).toNat
def iC (p:List UInt8):Option (UInt8×List UInt8):=
 if bK p<=504/\cG (p.getD 6 0) ((p.drop 8).take (bK p))=p then some (p.getD 6 0,(p.drop 8).take (bK p)) else none
theorem jT {kind:UInt8}{b:List UInt8}(h:b.length<=504):(cT kind b).length=508:=by
 simp[cT];omega
theorem wI {kind:UInt8}{b:List UInt8}(h:b.length<=504):(cG kind b).length=512:=by
 simp[cG,jT h,pt]
theorem uZ {p:List UInt8}(b:p.length=512):
  (bK p<=504/\cG (p.getD 6 0) ((p.drop 8).take (bK p))=p)↔(p.take 4=pt (fQ (p.drop 4))/\bK p<=504/\p.getD 7 0=157/\∀c∈p.drop (8+bK p),c=0):=by
 match p,b with
 |a0::f::a2::a3::a4::a5::a::d::r,b=>
   have w:r.length=504:=by simp at b;exact b
   have hs:bK (a0::f::a2::a3::a4::a5::a::d::r)=a4.toNat+256*a5.toNat:=rfl;rw[hs];show (_/\cG a (r.take (a4.toNat+256*a5.toNat))=_)↔([a0,f,a2,a3]=pt (fQ (a4::a5::a::d::r))/\_/\d=157/\_);have hd:(a0::f::a2::a3::a4::a5::a::d::r).drop (8+(a4.toNat+256*a5.toNat))=r.drop (a4.toNat+256*a5.toNat):=by
    rw[Nat.add_comm 8];rfl
   rw[hd];generalize x:a4.toNat+256*a5.toNat=n;have y:=a4.toNat_lt;have z:=a5.toNat_lt;by_cases hle:n<=504
   ·have hl:(r.take n).length=n:=by simp;omega
    have g:OI n=a4:=by
     apply Qm.1;rw[QS];omega
    have i:OI (n/256)=a5:=by
     apply Qm.1;rw[QS];omega
    have q:cT a (r.take n)=a4::a5::a::157::(r.take n++Ov (504 - n) 0):=by
     simp[cT,hl,g,i]
    have s:(∀c∈r.drop n,c=0)↔r.take n++Ov (504 - n) 0=r:=by
     constructor
     ·intro h;have:Ov (504 - n) 0=r.drop n:=by
       symm;rw[List.eq_replicate_iff];exact⟨by simp;omega,h⟩
      rw[this,List.take_append_drop]
     ·intro h c j;have e:r.drop n=Ov (504 - n) 0:=by
       conv=>lhs;rw[<-h]
       rw[List.drop_append_of_le_length (by omega),List.drop_of_length_le (by omega)];simp
      rw[e] at j;exact(List.mem_replicate.1 j).2
    rw[s];unfold cG;rw[q];constructor
    ·rintro⟨_,h⟩;simp only[pt,List.cons_append,List.nil_append,List.cons.injEq] at h;obtain⟨k,l,e2,m,_,_,_,t,o⟩:=h;rw[o] at k l e2 m;rw[<-t];refine⟨?_,hle,rfl,o⟩;simp only[pt,k,l,e2,m]
    ·rintro⟨h1,_,u,v⟩;refine⟨hle,?_⟩;rw[v,<-u,<-h1];rfl
   ·constructor
    ·rintro⟨h,_⟩;exact absurd h hle
    ·rintro⟨_,h,_⟩;exact absurd h hle
end Go.Proofs.YtmkbhnholcaghaaGreatDoor
