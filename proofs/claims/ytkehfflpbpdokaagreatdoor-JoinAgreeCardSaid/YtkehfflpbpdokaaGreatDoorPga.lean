/-
 Pages in plain words: their sum, what seals them, what opens them.
-/
import Derived.Test.YtkehfflpbpdokaaGreatDoorFxk
open BitVec renaming toNat_ofNat->Ss,xor_assoc->Ul,getLsbD_ushiftRight->Va,ofNat->Vh,shiftRight_add->VM,ushiftRight_xor_distrib->VW,getLsbD_and->Wm,eq_of_toNat_eq->XT,getLsbD_xor->Ys,xor_comm->YO
open List renaming replicate->QE
open UInt8 renaming ofNat->Qx,toNat_ofNat'->SM,toNat_inj->UD
namespace Go.Proofs.YtkehfflpbpdokaaGreatDoor
def Nj:BitVec 32:=0xedb88320#32
def oX (r:BitVec 32):BitVec 32:=(r>>>1)^^^(if r.getLsbD 0 then Nj else 0#32)
def od (r:BitVec 32):BitVec 32:=oX (oX (oX (oX r)))
def I5 (r:BitVec 32)(c:UInt8):BitVec 32:=od (od (r^^^Vh 32 c.toNat))
def lR (l:List UInt8):BitVec 32:= ~~~ (l.foldl I5 (BitVec.allOnes 32))
def oq:List (BitVec 32):=[0x00000000#32,0x1db71064#32,0x3b6e20c8#32,0x26d930ac#32,0x76dc4190#32,0x6b6b51f4#32,0x4db26158#32,0x5005713c#32,0xedb88320#32,0xf00f9344#32,0xd6d6a3e8#32,0xcb61b38c#32,0x9b64c2b0#32,0x86d3d2d4#32,0xa00ae278#32,0xbdbdf21c#32]
theorem Gm (a b:BitVec 32):oX (a^^^b)=oX a^^^oX b:=by
 unfold oX;rw[VW,Ys];generalize a>>>1=x;generalize b>>>1=y;cases a.getLsbD 0<;>cases b.getLsbD 0<;>simp
 ·rw[Ul]
 ·rw[Ul,Ul,YO y]
 ·rw[Ul,<-Ul Nj,YO Nj y,Ul y,BitVec.xor_self,BitVec.xor_zero]
theorem HA (a b:BitVec 32):od (a^^^b)=od a^^^od b:=by
 unfold od;simp only[Gm]
theorem nH {a:BitVec 32}(h:a.getLsbD 0=false):oX a=a>>>1:=by
 unfold oX;rw[h];simp
theorem D8 {a:BitVec 32}(h:∀i,i<4->a.getLsbD i=false):od a=a>>>4:=by
 have b:oX a=a>>>1:=nH (h 0 (by decide));have e2:oX (a>>>1)=a>>>2:=by
  rw[nH (by rw[Va];exact h 1 (by decide)),<-VM]
 have c:oX (a>>>2)=a>>>3:=by
  rw[nH (by rw[Va];exact h 2 (by decide)),<-VM]
 have d:oX (a>>>3)=a>>>4:=by
  rw[nH (by rw[Va];exact h 3 (by decide)),<-VM]
 unfold od;rw[b,e2,c,d]
theorem Gr:∀n:Nat,n<16->od (Vh 32 n)=oq.getD n 0#32:=by decide
theorem IZ (r:BitVec 32):r=(r&&&0xfffffff0#32)^^^(r&&&15#32):=by
 apply BitVec.eq_of_getLsbD_eq;intro i hi;rw[Ys,Wm,Wm];have:(0xfffffff0#32).getLsbD i=!((15#32).getLsbD i):=by
  revert i;decide
 rw[this];cases r.getLsbD i<;>cases (15#32).getLsbD i<;>rfl
theorem EA:∀i,i<4->(0xfffffff0#32).getLsbD i=false:=by decide
theorem HI (r:BitVec 32):r&&&15#32=Vh 32 (r.toNat%16):=by
 apply XT;have h1:(15#32).toNat=2^4 - 1:=by decide
 rw[BitVec.toNat_and,h1,Nat.and_two_pow_sub_one_eq_mod,Ss];omega
theorem Bw (r:BitVec 32):(r&&&15#32)>>>4=0#32:=by
 rw[HI];apply XT;rw[BitVec.toNat_ushiftRight,Ss,Nat.shiftRight_eq_div_pow];simp;omega
theorem Jm (r:BitVec 32):od r=(r>>>4)^^^oq.getD (r.toNat%16) 0#32:=by
 have h:=IZ r;have a:od r=od (r&&&0xfffffff0#32)^^^od (r&&&15#32):=by rw[<-HA,<-h]
 have e2:r>>>4=(r&&&0xfffffff0#32)>>>4:=by
  conv=>lhs;rw[h,VW,Bw]
  simp
 rw[a,e2,D8 (λi hi=>by rw[Wm,EA i hi,Bool.and_false]),HI,Gr _ (Nat.mod_lt _ (by decide))]
def vo (x:BitVec 32):List UInt8:=[Qx x.toNat,Qx (x.toNat/256),Qx (x.toNat/65536),Qx (x.toNat/16777216)]
def gv (kind:UInt8)(b:List UInt8):List UInt8:=[Qx b.length,Qx (b.length/256),kind,157]++b++QE (504 - b.length) 0
def cD (kind:UInt8)(b:List UInt8):List UInt8:=vo (lR (gv kind b))++gv kind b
def dP (p:List UInt8):Nat:=(p.getD 4 0).toNat+256*(p.getD 5 0).toNat
def gV (p:List UInt8):Option (UInt8×List UInt8):=
 if dP p<=504/\cD (p.getD 6 0) ((p.drop 8).take (dP p))=p then some (p.getD 6 0,(p.drop 8).take (dP p)) else none
theorem pv {kind:UInt8}{b:List UInt8}(h:b.length<=504):(gv kind b).length=508:=by
 simp[gv];omega
theorem iW {kind:UInt8}{b:List UInt8}(h:b.length<=504):(cD kind b).length=512:=by
 simp[cD,pv h,vo]
theorem Ee {n:Nat}(h:n<=504):(Qx n).toNat+256*(Qx (n/256)).toNat=n:=by
 rw[SM,SM];omega
theorem ry {kind:UInt8}{b:List UInt8}(h:b.length<=504):gV (cD kind b)=some (kind,b):=by
 have a:(cD kind b).getD 4 0=Qx b.length:=rfl;have c:(cD kind b).getD 5 0=Qx (b.length/256):=rfl;have d:(cD kind b).getD 6 0=kind:=rfl;have hs:dP (cD kind b)=b.length:=by unfold dP;rw[a,c,Ee h]
 have hd:((cD kind b).drop 8).take b.length=b:=by
  have:(cD kind b).drop 8=b++QE (504 - b.length) 0:=rfl;rw[this,List.take_left]
 unfold gV;rw[hs,d,hd,if_pos ⟨h,rfl⟩]
theorem wq {p:List UInt8}(b:p.length=512):
  (dP p<=504/\cD (p.getD 6 0) ((p.drop 8).take (dP p))=p)↔(p.take 4=vo (lR (p.drop 4))/\dP p<=504/\p.getD 7 0=157/\∀c∈p.drop (8+dP p),c=0):=by
 match p,b with
 |a0::f::a2::a3::a4::a5::a::d::r,b=>
   have hr:r.length=504:=by simp at b;exact b
   have hs:dP (a0::f::a2::a3::a4::a5::a::d::r)=a4.toNat+256*a5.toNat:=rfl;rw[hs];show (_/\cD a (r.take (a4.toNat+256*a5.toNat))=_)↔([a0,f,a2,a3]=vo (lR (a4::a5::a::d::r))/\_/\d=157/\_);have hd:(a0::f::a2::a3::a4::a5::a::d::r).drop (8+(a4.toNat+256*a5.toNat))=r.drop (a4.toNat+256*a5.toNat):=by
    rw[Nat.add_comm 8];rfl
   rw[hd];generalize w:a4.toNat+256*a5.toNat=n;have x:=a4.toNat_lt;have y:=a5.toNat_lt;by_cases hle:n<=504
   ·have q:(r.take n).length=n:=by simp;omega
    have g:Qx n=a4:=by
     apply UD.1;rw[SM];omega
    have i:Qx (n/256)=a5:=by
     apply UD.1;rw[SM];omega
    have s:gv a (r.take n)=a4::a5::a::157::(r.take n++QE (504 - n) 0):=by
     simp[gv,q,g,i]
    have hz:(∀c∈r.drop n,c=0)↔r.take n++QE (504 - n) 0=r:=by
     constructor
     ·intro h;have:QE (504 - n) 0=r.drop n:=by
       symm;rw[List.eq_replicate_iff];exact⟨by simp;omega,h⟩
      rw[this,List.take_append_drop]
     ·intro h c j;have e:r.drop n=QE (504 - n) 0:=by
       conv=>lhs;rw[<-h]
       rw[List.drop_append_of_le_length (by omega),List.drop_of_length_le (by omega)];simp
      rw[e] at j;exact(List.mem_replicate.1 j).2
    rw[hz];unfold cD;rw[s];constructor
    ·rintro⟨_,h⟩;simp only[vo,List.cons_append,List.nil_append,List.cons.injEq] at h;obtain⟨k,l,e2,m,_,_,_,t,o⟩:=h;rw[o] at k l e2 m;rw[<-t];refine⟨?_,hle,rfl,o⟩;simp only[vo,k,l,e2,m]
    ·rintro⟨h1,_,u,v⟩;refine⟨hle,?_⟩;rw[v,<-u,<-h1];rfl
   ·constructor
    ·rintro⟨h,_⟩;exact absurd h hle
    ·rintro⟨_,h,_⟩;exact absurd h hle
end Go.Proofs.YtkehfflpbpdokaaGreatDoor
