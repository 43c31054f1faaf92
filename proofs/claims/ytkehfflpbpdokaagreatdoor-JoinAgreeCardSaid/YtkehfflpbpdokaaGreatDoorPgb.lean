/-
 Pages: the walk of their sum, of what seals them, of what opens them.
-/
import Derived.Test.YtkehfflpbpdokaaGreatDoorDkg
import Derived.Test.YtkehfflpbpdokaaGreatDoorPga
import Derived.Laws.CopyRow
import Derived.Laws.IdiomCopy
open BitVec renaming ofInt->R9,toNat_ofNat->Ss,ofInt_natCast->Th,ofNat->Vh,allOnes->XS
open Go.Builtin renaming copy_->Rh
open Go.IntKind renaming i64->Qe,u32->Qh,u8->QF,signed->Yz,wrap->YP,bits->YQ
open Go.Proofs.Tryz renaming prog->Qf
open Go.World renaming setRow->UB
open Int renaming toNat_natCast->QD,fdiv_eq_ediv_of_nonneg->Tt,pow_nonneg->XU
open List renaming getElem?_eq_getElem->Qg,take_succ_eq_append_getElem->QA,getElem?_map->QC,replicate->QE,getD->QM,take_of_length_le->QO,getElem?_take->Rb,drop_eq_getElem_cons->RG,any_eq_true->Sv,set_cons_zero->TQ
open Nat renaming le_refl->Qm,mul_one->Q9,mod_eq_of_lt->Um,mod_lt->Yd
open Option.some renaming inj->Qq
open UInt8 renaming ofNat->Qx,toNat_inj->UD
namespace Go.Proofs.YtkehfflpbpdokaaGreatDoor
theorem xA (a:BitVec 32):R9 32 (a.toNat:Int)=a:=by
 rw[Th,BitVec.ofNat_toNat,BitVec.setWidth_eq]
theorem wrap32 {n:Nat}(h:n<4294967296):Qh.wrap (n:Int)=(n:Int):=by
 simp[YP,YQ,Yz];omega
theorem lN (n:Nat):QF.wrap (n:Int)=((Qx n).toNat:Int):=by
 rw[UInt8.toNat_ofNat'];simp[YP,YQ,Yz]
theorem AV (a b:BitVec 32):lT .u32 (a.toNat:Int) (b.toNat:Int)=((a^^^b).toNat:Int):=by
 unfold lT;show Qh.wrap ((R9 32 (a.toNat:Int)^^^R9 32 (b.toNat:Int)).toNat:Int)=_;rw[xA,xA];exact wrap32 (a^^^b).isLt
theorem Gk (a:BitVec 32):zM .u32 (a.toNat:Int) 15=((a.toNat%16:Nat):Int):=by
 unfold zM;show Qh.wrap ((R9 32 (a.toNat:Int)&&&15#32).toNat:Int)=_;rw[xA,HI];rw[Ss];have:a.toNat%16%2^32=a.toNat%16:=by omega
 rw[this];exact wrap32 (by omega)
theorem BH (a:BitVec 32)(k:Nat)(hk:k<=32):bm .u32 (a.toNat:Int) (k:Int)=((a.toNat/2^k:Nat):Int):=by
 unfold bm;have:min (k:Int).toNat Qh.bits=k:=by
  show min (k:Int).toNat 32=k;omega
 rw[this,Tt _ (XU (by decide)),Int.natCast_ediv,Int.natCast_pow];rfl
def ia:Nat:=1
def Gl (H:aa):Prop:=∀i,i<16->cg H ⟨ia,i,none⟩=some (.int .u32 ((oq.getD i 0#32).toNat:Int))
theorem Gl.lt {H:aa}(h:Gl H):ia<H.size:=kq (h 0 (by decide))
theorem Gl.aE {H H':aa}(h:Gl H)(k:H'[ia]?=H[ia]?):Gl H':=λi hi=>(eX k).trans (h i hi)
theorem Gl.mod {F:Nat->Prop}{H H':aa}(h:Gl H)(hm:Mod F H H')(a:¬F ia):Gl H':=h.aE (hm.same _ h.lt a)
theorem yF {H:aa}(h:Gl H){i:Nat}(hi:i<16){K:Int->Prop}(b:K ((oq.getD i 0#32).toNat:Int)){a:Addr}(c:a=⟨ia,i,none⟩):ld (ai .u32) H a K:=by
 subst c;exact⟨_,h i hi,b⟩
def zL (l:List UInt8):BitVec 32:=l.foldl I5 (XS 32)
theorem EP (l:List UInt8)(c:UInt8):zL (l++[c])=I5 (zL l) c:=by simp[zL]
theorem toNat_ofNat32 (c:UInt8):(Vh 32 c.toNat).toNat=c.toNat:=by
 rw[Ss];have:=c.toNat_lt;omega
theorem MR {l:List UInt8}{i:Nat}(h:i<l.length):(fm l).getD i 0=((l[i]).toNat:Int):=by
 simp[fm,QM,h]
theorem ny {l:List UInt8}{H:aa}{s:Sl}(h:dA H s l){i:Nat}(hi:i<l.length){z:Int}(hz:z=(i:Int)){K:Addr->Int->Prop}(b:∀ad,s.a=some ad->K ad ((l[i]).toNat:Int)):
  ah s.a λa=>(0<=z/\z<(s.n:Int))/\ld (ai .u8) H (a.add (z.toNat*1)) λx=>K a x:=
 bM (l:=fm l) h hz (by simpa[fm] using hi) (λad c=>by rw[MR hi];exact b ad c)
theorem FN {s:Sl}{l:List UInt8}{H:aa}{K:Int->aa->Prop}(f:Gl H)(g:dA H s l)(o:l.length<4611686018427387904)(j:K ((lR l).toNat:Int) H):Jt.sp s H K:=by
 refine Jt.of ?_;unfold Jt.vc;have h:=g.n;refine ay l.length (λk x H1=>H1=H/\x=(((zL (l.take k)).toNat:Int),(k:Int))) ⟨rfl,rfl⟩ ?_;rintro k _ _ next hk ⟨rfl,rfl⟩ a
 refine ao (λc=>?_) (λc=>?_)
 ·have b:k<l.length:=by rw[h] at c;simpa using c
  refine ny g b rfl λad p=>?_;have m:(l[k]).toNat<256:=(l[k]).toNat_lt;have n:lT .u32 ((zL (l.take k)).toNat:Int) (Qh.wrap (((l[k]).toNat:Nat):Int))=((zL (l.take k)^^^Vh 32 (l[k]).toNat).toNat:Int):=by
   rw[wrap32 (by omega),<-toNat_ofNat32 l[k],AV,toNat_ofNat32]
  simp only[n];generalize hr:zL (l.take k)^^^Vh 32 (l[k]).toNat=r;have half:∀(r:BitVec 32),lT .u32 (bm .u32 (r.toNat:Int) 4) ((oq.getD (r.toNat%16) 0#32).toNat:Int)=((od r).toNat:Int):=by
   intro r;have h1:bm .u32 (r.toNat:Int) 4=((r>>>4).toNat:Int):=by
    rw[show (4:Int)=((4:Nat):Int) from rfl,BH r 4 (by decide),BitVec.toNat_ushiftRight,Nat.shiftRight_eq_div_pow]
   rw[h1,AV,<-Jm]
  rw[Gk];refine⟨⟨by omega,by omega⟩,?_⟩;refine yF f (i:=r.toNat%16) (Yd _ (by decide)) ?_ (by rw[QD,Q9,bJ];rfl);rw[half,Gk];refine⟨⟨by omega,by omega⟩,?_⟩;refine yF f (i:=(od r).toNat%16) (Yd _ (by decide)) ?_ (by rw[QD,Q9,bJ];rfl);rw[half];refine a b _ _ ⟨rfl,?_⟩;have hs:=aH k (by omega);rw[hs,QA b,EP];unfold I5;rw[hr]
 ·have d:k=l.length:=by rw[h] at c;simp at c;omega
  rw[d,QO (Qm _)];have e:lT .u32 (4294967295:Int) ((zL l).toNat:Int)=((lR l).toNat:Int):=by
   rw[show (4294967295:Int)=((XS 32).toNat:Int) from rfl,AV];congr 2
  rw[e];exact j
theorem Fy {P:Program}{f g ty elem t:TypeId}{H:aa}{b o dl dc:Nat}{x:Sl}{cur:Array Value}{cs:List Value}{K:Int->aa->Prop}(hu:P.underlying f=some (.slice elem))(hs:(P.info? elem).map (·.size)=some 1)
  (h:ab H b t cur) (l:Reads H x.a cs) (m:x.n=cs.length) (hle:x.n<=dl) (a:o+cs.length<=cur.size) (h1:∀v∈cs,v.oneCell'=true)
  (n:∀H',ab H' b t (cur.toList.take o++cs++cur.toList.drop (o+cs.length)).toArray->Mod (λk=>k=b) H H'->H'.size=H.size->K (cs.length:Int) H'):
  bI (ai .i64) P (Rh #[f,g] ty #[.slice (some ⟨b,o,none⟩) dl dc,x.v]) H K:=by
 intro w hw;subst hw;obtain⟨r,p,q⟩:=x;simp only[Sl.v] at*;by_cases hz:cs=[]
 ·subst hz;have i:p=0:=m;subst i;have hr:=run_copy_none (P:=P) w f g ty elem (some ⟨b,o,none⟩) r dl dc 0 q hu hs (by simp);refine⟨_,w,hr,⟨0,rfl,?_⟩,.refl w⟩;refine n w.heap ?_ (.refl _ _) rfl;have e:(cur.toList.take o++[]++cur.toList.drop (o+([]:List Value).length)).toArray=cur:=by simp
  rw[e];exact h
 ·have c:0<cs.length:=List.length_pos_iff.2 hz;obtain⟨ad,rfl,_⟩:=l.at c;have d:∀j v,cs[j]?=some v->w.cell? (ad.add j)=some v:=λj v s=>by
   obtain⟨u,e,y⟩:=l j v s;cases e;exact y
  have hr:=run_copy_row (P:=P) w f g ty elem b o dl dc ad p q cur t cs hu hs h (by rw[<-m];exact(Nat.min_eq_left hle).symm) d a h1;refine⟨_,_,hr,⟨(cs.length:Int),rfl,n _ (setRow_heap w b cur _ t _ h) ⟨by simp[UB],λk _ hk=>setRow_other w b k _ hk⟩ (by simp[UB])⟩,(.of_le rfl (Qm _))⟩
abbrev nS (H:aa)(b:Nat)(t:TypeId)(l:List UInt8):Prop:=ab H b t (jo l).toArray
theorem nS.st {H:aa}{b:Nat}{t:TypeId}{l:List UInt8}{K:aa->Prop}(h:nS H b t l){i:Nat}{x:UInt8}(hi:i<l.length)(a:∀H',nS H' b t (l.set i x)->Mod (λk=>k=b) H H'->H'.size=H.size->K H'):
  Go.Proofs.YtkehfflpbpdokaaGreatDoor.st H (Addr.add ⟨b,0,none⟩ i) (.int .u8 (x.toNat:Int)) K:=by
 refine ab.st h (i:=i) (by simpa[jo] using hi) rfl λH' r m s=>a H' ?_ m s;have e:((jo l).toArray.setIfInBounds i (.int .u8 (x.toNat:Int)))=(jo (l.set i x)).toArray:=by
  apply Array.toList_inj.1;simp[jo]
 rw[e] at r;exact r
theorem nS.Nz {H:aa}{b:Nat}{t:TypeId}{l:List UInt8}(h:nS H b t l){o n c:Nat}(d:o+n<=l.length):dA H (Sl.mk (some ⟨b,o,none⟩) n c) ((l.drop o).take n):=by
 refine⟨by simp[fm];omega,λi v a=>⟨_,rfl,?_⟩⟩;rw[j8] at a;rw[add_lit];refine dh h ?_;have hi:i<n:=by have:=(List.getElem?_eq_some_iff.1 a).1;simp[jo] at this;omega
 simp only[jo,QC,Rb,if_pos hi,List.getElem?_drop] at a;simp only[jo,List.getElem?_toArray,QC];exact a
theorem vq {α:Type}{A B:List α}{k:Nat}{x:α}(hk:k<A.length)(b:k<B.length)(a:A[k]?=some x):(A.take k++B.drop k).set k x=A.take (k+1)++B.drop (k+1):=by
 have c:(A.take k).length=k:=by simp;omega
 rw[List.set_append_right _ _ (by omega),c,Nat.sub_self];have e:B.drop k=B[k]::B.drop (k+1):=RG b;rw[e,TQ,QA hk];have:A[k]=x:=by rw[Qg hk] at a;exact Qq a
 rw[this];simp
theorem JZ:Qf.underlying jX=some (.slice kJ):=by kernel_rfl
theorem Mj:(Qf.info? kJ).map (·.size)=some 1:=by kernel_rfl
theorem Nn:zc Qf Nf=(jo (QE 512 0)).toArray:=by kernel_rfl
theorem My:QE 512 (0:UInt8)=0::0::0::0::0::0::0::0::QE 504 0:=rfl
set_option maxRecDepth 20000 in
theorem JU {kind:UInt8}{s:Sl}{l:List UInt8}{H:aa}{K:Sl×Int->aa->Prop}(M:Gl H)(a:dA H s l)(hlen:l.length<=504)
  (N:∀j H',dm EB kJ H' j (cD kind l)->Ext H H'->(∀b,al j b->H.size<=b)->K (j,0) H'):LS.sp (kind.toNat:Int) s H K:=by
 refine LS.of ?_;unfold LS.vc;have u:=a.n;refine az (by simp;omega) ?_;rw[Nn];refine aj λH1 s1 G d=>?_;rw[My] at G;have W:dA H1 s l:=a.aE λad _ y=>d.same _ y id;refine⟨⟨by decide,by decide⟩,?_⟩;have v4:QF.wrap (s.n:Int)=((Qx l.length).toNat:Int):=by rw[u,lN]
 have v5:QF.wrap (bm .i64 (s.n:Int) 8)=((Qx (l.length/256)).toNat:Int):=by
  have:bm .i64 (s.n:Int) 8=((l.length/256:Nat):Int):=by
   unfold bm;rw[u,show (min (8:Int).toNat Qe.bits)=8 from rfl,Tt _ (XU (by decide))];rfl
  rw[this,lN]
 rw[v4];refine nS.st (i:=4) G (by simp) λX r2 m2 z2=>?_;refine⟨⟨by decide,by decide⟩,?_⟩;rw[v5];refine nS.st (i:=5) r2 (by simp) λY O m3 z3=>?_;refine⟨⟨by decide,by decide⟩,?_⟩;refine nS.st (i:=6) O (by simp) λZ P m4 z4=>?_;refine⟨⟨by decide,by decide⟩,?_⟩;refine nS.st (i:=7) (x:=157) P (by simp) λz Q m5 z5=>?_;refine⟨⟨by decide,by decide⟩,?_⟩;have m15:Mod (λb=>b=H.size) H1 z:=((m2.trans m3).trans m4).trans m5;have A:Ext H z:=⟨by have:=d.size;have:=m15.size;omega,λb a _=>(m15.same b (by omega) (by omega)).trans (d.same b a id)⟩;have R:dA z s l:=a.aE λad _ y=>A.same _ y id;have S:bF (some ⟨H.size,0,none⟩) 512 ((8:Int).toNat) 1=some ⟨H.size,8,none⟩:=rfl;rw[S];refine Fy (t:=Nf) JZ Mj Q R.cells (by rw[u];simp[jo]) (by rw[u];show _<=504;omega) (by simp[jo];omega) (by
  intro v B;obtain⟨x,_,rfl⟩:=List.mem_map.1 B;rfl) λw I m6 z6=>?_
 have L6:(0::0::0::0::gv kind l:List UInt8)=[0,0,0,0]++gv kind l:=rfl;have m:nS w H.size Nf ([0,0,0,0]++gv kind l):=by
  have e:(((jo (((((0::0::0::0::0::0::0::0::QE 504 0:List UInt8).set 4 (Qx l.length)).set 5 (Qx (l.length/256))).set 6 kind).set 7 157)).toArray.toList.take 8++jo l)++(jo (((((0::0::0::0::0::0::0::0::QE 504 0:List UInt8).set 4 (Qx l.length)).set 5 (Qx (l.length/256))).set 6 kind).set 7 157)).toArray.toList.drop (8+(jo l).length)).toArray=(jo ([0,0,0,0]++gv kind l)).toArray:=by
   congr 1;simp only[List.set_cons_succ,TQ,jo,List.map_cons,List.take_succ_cons,List.take_zero,List.map_append,gv,List.length_map,List.map_replicate];rw[show 8+l.length=l.length+8 from Nat.add_comm _ _];simp only[List.drop_succ_cons,List.drop_replicate];simp
  rw[e] at I;exact I
 have m16:Mod (λb=>b=H.size) H1 w:=m15.trans m6;have C:Ext H w:=⟨by have:=d.size;have:=m16.size;omega,λb a _=>(m16.same b (by omega) (by omega)).trans (d.same b a id)⟩;refine⟨⟨by decide,by decide⟩,?_⟩;have a4:bF (some ⟨H.size,0,none⟩) 512 ((4:Int).toNat) 1=some ⟨H.size,4,none⟩:=rfl;rw[a4];have f:=pv (kind:=kind) hlen;have p:=nS.Nz m (o:=4) (n:=508) (c:=508) (by simp[f]);have T:(([0,0,0,0]++gv kind l:List UInt8).drop 4).take 508=gv kind l:=by
  show (gv kind l).take 508=_;rw[QO (by omega)]
 rw[T] at p;refine FN (M.mod C id) p (by omega) ?_;refine ay 4 (λk x q=>x=(k:Int)/\nS q H.size Nf ((vo (lR (gv kind l))).take k++([0,0,0,0]++gv kind l).drop k)/\Mod (λb=>b=H.size) w q) ⟨rfl,m,.refl _ _⟩ ?_;rintro k _ q next hk ⟨rfl,D,m7⟩ g
 refine ao (λE=>?_) (λE=>?_)
 ·have h:k<4:=by simp at E;omega
  have hw:Qe.wrap ((8:Int)*(k:Int))=((8*k:Nat):Int):=by rw[wrap64 (by omega) (by omega)];omega
  rw[hw];refine⟨by omega,⟨by omega,by omega⟩,?_⟩;have B:(vo (lR (gv kind l)))[k]?=some (Qx ((lR (gv kind l)).toNat/2^(8*k))):=by
   have:k=0\/k=1\/k=2\/k=3:=by omega
   rcases this with rfl|rfl|rfl|rfl<;>simp[vo]
  rw[BH _ (8*k) (by omega),lN,QD,Q9];refine nS.st (i:=k) D (by simp[vo,f];omega) λH8 J m8 z8=>?_;rw[vq (by simp[vo];omega) (by simp[f];omega) B] at J;exact g h _ _ ⟨aH k (by omega),J,m7.trans m8⟩
 ·have h:k=4:=by simp at E;omega
  subst h;have F:nS q H.size Nf (cD kind l):=by
   have e:(vo (lR (gv kind l))).take 4++([0,0,0,0]++gv kind l:List UInt8).drop 4=cD kind l:=rfl;rw[e] at D;exact D
  have U:=iW (kind:=kind) hlen;have r:=nS.Nz F (o:=0) (n:=512) (c:=512) (by omega);rw[List.drop_zero,QO (by omega)] at r;have a0:bF (some ⟨H.size,0,none⟩) 512 0 1=some ⟨H.size,0,none⟩:=rfl;rw[a0];refine gC r (by omega) λj H' V L f'=>?_;have m17:Mod (λb=>b=H.size) H1 q:=m16.trans m7;have z1:=d.size;have z7:=m17.size;have z':=L.size;refine N j H' V ⟨by omega,λb a _=>(L.same b (by omega) id).trans ((m17.same b (by omega) (by omega)).trans (d.same b a id))⟩ (λb a=>?_);have:=f' b a;omega
theorem dA.drop {H:aa}{s:Sl}{l:List UInt8}(h:dA H s l)(d:s.n<=s.c)(i:Nat):dA H (Sl.mk (bF s.a s.c i 1) (s.n - i) (s.c - i)) (l.drop i):=by
 have b:=h.n;refine⟨by simp[fm,b],?_⟩;have:=tM.drop (E:=EB) (i:=i) (c:=s.c) (a:=s.a) (l:=l) (by unfold tM;rw[xu];exact h.cells) (by omega);unfold tM at this;rw[xu] at this;rw[j8];exact this
theorem dA.take {H:aa}{s:Sl}{l:List UInt8}(h:dA H s l)(i:Nat)(hi:i<=s.n)(c:Nat):dA H (Sl.mk s.a i c) (l.take i):=by
 have a:=h.n;refine⟨by simp[fm];omega,?_⟩;rw[j8];have:jo (l.take i)=(jo l).take i:=by simp[jo]
 rw[this];exact h.cells.take i
theorem DJ {s:Sl}{l:List UInt8}{H:aa}{K:Int->aa->Prop}(i:dA H s l)(n:l.length<4611686018427387904)(j:∀r:Int,(decide (r>=0))=l.any (λc=>c !=0)->K r H):LZ.sp s H K:=by
 refine LZ.of ?_;unfold LZ.vc;have m:=i.n;refine ay l.length (λk x H1=>H1=H/\x=(k:Int)/\(l.take k).any (λc=>c !=0)=false) ⟨rfl,rfl,by simp⟩ ?_;rintro k _ _ next hk ⟨rfl,rfl,b⟩ d
 refine ao (λf=>?_) (λf=>?_)
 ·have a:k<l.length:=by rw[m] at f;simpa using f
  refine ny i a rfl λad o=>?_;refine IN.of ?_;unfold IN.vc;have ex:l=l.take k++l[k]::l.drop (k+1):=by
   rw[<-RG a,List.take_append_drop]
  refine ao (λhz=>?_) (λhz=>?_)
  ·have g:l[k]≠0:=by
    intro e;rw[e] at hz;simp at hz
   refine j _ ?_;have e2:l.any (λc=>c !=0)=true:=Sv.2 ⟨l[k],List.getElem_mem a,by simpa using g⟩;rw[e2];simp
  ·have he:l[k]=0:=by
    have:((l[k]).toNat:Int)=0:=by simpa using hz
    exact UD.1 (by rw[UInt8.toNat_zero];omega)
   refine d a _ _ ⟨rfl,aH k (by omega),?_⟩;rw[QA a,List.any_append,b,he];rfl
 ·have h:k=l.length:=by rw[m] at f;simp at f;omega
  rw[h,QO (Qm _)] at b;refine j _ ?_;rw[b];rfl
theorem xB {s:Sl}{l:List UInt8}{H:aa}{K:Bool->aa->Prop}(a:dA H s l)(b:l.length<4611686018427387904)(d:K (l.any (λc=>c !=0)) H):L7.sp s H K:=by
 refine L7.of ?_;unfold L7.vc;refine DJ a b λr hr=>?_;rw[hr];exact d
theorem Ku {a b:Nat}(d:a<256)(e:b<256):nL .i64 (Qe.wrap (a:Int)) (eZ .i64 (Qe.wrap (b:Int)) 8)=((a+256*b:Nat):Int):=by
 rw[wrap64 (by omega) (by omega),wrap64 (x:=(b:Int)) (by omega) (by omega)];have c:eZ .i64 (b:Int) 8=((b*256:Nat):Int):=by
  unfold eZ;rw[show (min (8:Int).toNat Qe.bits)=8 from rfl,wrap64 (by omega) (by omega)];omega
 rw[c];unfold nL;show Qe.wrap ((R9 64 (a:Int)|||R9 64 ((b*256:Nat):Int)).toNat:Int)=_;rw[Th,Th,BitVec.toNat_or,Ss,Ss,Um (by omega),Um (by omega)];have e2:a|||b*256=a+256*b:=by
  have:=Nat.shiftLeft_add_eq_or_of_lt (i:=8) (b:=a) (by omega) b;rw[Nat.shiftLeft_eq] at this;rw[Nat.or_comm,show b*256=b*2^8 from rfl,<-this];omega
 rw[e2];exact wrap64 (by omega) (by omega)
theorem lE {l:List UInt8}(h:l.length=512)(a:¬(l.take 4=vo (lR (l.drop 4))/\dP l<=504/\l.getD 7 0=157/\∀c∈l.drop (8+dP l),c=0)):gV l=none:=by
 unfold gV;rw[if_neg (λq=>a ((wq h).1 q))]
theorem BG {l:List UInt8}(h:l.length=512)(a:l.take 4=vo (lR (l.drop 4))/\dP l<=504/\l.getD 7 0=157/\∀c∈l.drop (8+dP l),c=0):gV l=some (l.getD 6 0,(l.drop 8).take (dP l)):=by
 unfold gV;rw[if_pos ((wq h).2 a)]
set_option maxRecDepth 20000 in
theorem Ki {s:Sl}{l:List UInt8}{H:aa}{K:(Int×Sl×Int)->aa->Prop}(Q:Gl H)(f:dA H s l)(M:l.length<4611686018427387904)(d:s.n<=s.c)
  (R:l.length≠512->K (0,Sl.mk none 0 0,2) H) (A:l.length=512->gV l=none->K (0,Sl.mk none 0 0,20) H)
  (S:∀k b r H',l.length=512->gV l=some (k,b)->b.length<=504->dm EB kJ H' r b->Ext H H'->(∀b,al r b->H.size<=b)->K ((k.toNat:Int),r,0) H'):Lc.sp s H K:=by
 refine Lc.of ?_;unfold Lc.vc;have N:=f.n;refine ao (λg=>R (by rw[N] at g;simp at g;omega)) (λg=>?_);have a:l.length=512:=by rw[N] at g;simp at g;omega
 refine⟨⟨by decide,by omega⟩,?_⟩;have d4:=f.drop d 4;refine FN Q d4 (by simp;omega) ?_;refine ay 4 (λk x H1=>H=H1/\x=(k:Int)/\l.take k=(vo (lR (l.drop 4))).take k) ⟨rfl,rfl,rfl⟩ ?_;rintro k _ _ next hk ⟨rfl,rfl,heq⟩ m
 refine ao (λg=>?_) (λg=>?_)
 ·have h:k<4:=by simp at g;omega
  have n:k<l.length:=by omega
  refine ny f n rfl λad C=>?_;have hw:Qe.wrap ((8:Int)*(k:Int))=((8*k:Nat):Int):=by rw[wrap64 (by omega) (by omega)];omega
  rw[hw];refine⟨by omega,?_⟩;rw[BH _ (8*k) (by omega),lN];have D:(vo (lR (l.drop 4)))[k]?=some (Qx ((lR (l.drop 4)).toNat/2^(8*k))):=by
   have:k=0\/k=1\/k=2\/k=3:=by omega
   rcases this with rfl|rfl|rfl|rfl<;>simp[vo]
  refine ao (λhz=>?_) (λhz=>?_)
  ·refine A a (lE a λq=>?_);have B:(l.take 4)[k]?=some l[k]:=by rw[Rb,if_pos h,Qg n]
   rw[q.1,D] at B;rw[Qq B] at hz;simp at hz
  ·have B:l[k]=Qx ((lR (l.drop 4)).toNat/2^(8*k)):=by
    refine UD.1 ?_;have:((l[k]).toNat:Int)=((Qx ((lR (l.drop 4)).toNat/2^(8*k))).toNat:Int):=by simpa using hz
    omega
   refine m h _ _ ⟨rfl,aH k (by omega),?_⟩;have j:k<(vo (lR (l.drop 4))).length:=by simp[vo];omega
   rw[QA n,QA j,heq];rw[Qg j] at D;rw[Qq D,B]
 ·have h:k=4:=by simp at g;omega
  subst h;have t:l.take 4=vo (lR (l.drop 4)):=by
   rw[heq];exact QO (by simp[vo])
  refine ny (i:=4) (z:=4) f (by omega) rfl λ_ _=>?_;refine ny (i:=5) (z:=5) f (by omega) rfl λ_ _=>?_;have E:nL .i64 (Qe.wrap ((l[4]).toNat:Int)) (eZ .i64 (Qe.wrap ((l[5]).toNat:Int)) 8)=(dP l:Int):=by
   rw[Ku (l[4]).toNat_lt (l[5]).toNat_lt];unfold dP;simp[QM,Qg (show 4<l.length by omega),Qg (show 5<l.length by omega)]
  rw[E];refine ao (λhz=>A a (lE a λq=>?_)) (λhz=>?_)
  ·have:=q.2.1;simp at hz;omega
  have hle:dP l<=504:=by simp at hz;omega
  refine ny (i:=7) (z:=7) f (by omega) rfl λ_ _=>?_;have O:l.getD 7 0=l[7]:=by simp[QM,Qg (show 7<l.length by omega)]
  refine ao (λhz=>A a (lE a λq=>?_)) (λhz=>?_)
  ·have:=q.2.2.1;rw[O] at this;rw[this] at hz;simp at hz
  have F:l.getD 7 0=157:=by
   rw[O];refine UD.1 ?_;have:((l[7]).toNat:Int)=157:=by simpa using hz
   rw[show (157:UInt8).toNat=157 from rfl];omega
  have G:Qe.wrap ((8:Int)+(dP l:Int))=((8+dP l:Nat):Int):=by rw[wrap64 (by omega) (by omega)];omega
  rw[G,QD];refine⟨⟨by omega,by omega⟩,?_⟩;refine xB (f.drop d (8+dP l)) (by simp;omega) ?_;refine ao (λhz=>A a (lE a λq=>?_)) (λhz=>?_)
  ·obtain⟨c,o,u⟩:=Sv.1 hz;rw[q.2.2.2 c o] at u;simp at u
  have I:∀c∈l.drop (8+dP l),c=0:=by
   intro c o;have:=List.any_eq_false.1 hz c o;simpa using this
  have v:=BG a ⟨t,hle,F,I⟩;refine⟨λH'=>Ext H H',.refl _ _,?_⟩;have w:6<l.length:=by omega
  have J:∀H',Ext H H'->dA H' s l:=λH' e=>f.aE λad _ M=>e.same _ M id;obtain⟨ad,C,_⟩:=f.addr (by omega);refine aY ad C ⟨⟨by decide,by omega⟩,((l[6]).toNat:Int),λH' e=>?_,?_⟩
  ·have p:=(J H' e).at (i:=6) (by simp[fm];omega);obtain⟨T,y,p⟩:=p;rw[C] at y;cases y;rw[show (6:Int).toNat*1=6 from rfl,p];simp[fm]
  ·refine⟨⟨by omega,by omega⟩,⟨by decide,by omega⟩,?_⟩;have L:=(f.drop d 8).take (dP l) (by show _<=s.n - 8;omega) (s.c - 8);have U:(8+dP l) - (8:Int).toNat=dP l:=by show 8+dP l - 8=_;omega
   rw[U];refine gC L (by simp;omega) λr H' V P f'=>⟨P,?_⟩;have W:l.getD 6 0=l[6]:=by simp[QM,Qg w]
   rw[W] at v;exact S l[6] _ r H' a v (by simp;omega) V P f'
end Go.Proofs.YtkehfflpbpdokaaGreatDoor
