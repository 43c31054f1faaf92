/-
 Pages: the walk of their sum, of what seals them, of what opens them.
-/
import Derived.Test.YtmkbhnholcaghaaGreatDoorDkg
import Derived.Test.YtmkbhnholcaghaaGreatDoorPga
import Derived.Laws.CopyRow
import Derived.Laws.IdiomCopy
open BitVec renaming ofInt->Qc,toNat_ofNat->QJ,ofInt_natCast->Sf,ofNat->Sm,allOnes->UB
open Go.Builtin renaming copy_->UW
open Go.IntKind renaming i64->N6,u8->O5,u32->PN,signed->VP,wrap->V8,bits->V9
open Go.Proofs.Tryz renaming prog->N5
open Go.World renaming setRow->RP
open Int renaming toNat_natCast->Od,fdiv_eq_ediv_of_nonneg->TK,pow_nonneg->Wh
open List renaming getElem?_eq_getElem->N8,take_succ_eq_append_getElem->Oc,take_of_length_le->Og,getElem?_map->Oi,replicate->OD,drop_eq_getElem_cons->OY,getElem?_take->O2,getD->Pn,any_eq_true->Qg,set_cons_zero->Qx
open Nat renaming le_refl->Ob,mul_one->O7,mod_eq_of_lt->Sp,mod_lt->SZ
open Option.some renaming inj->OE
open UInt8 renaming ofNat->OQ,toNat_inj->Qw
namespace Go.Proofs.YtmkbhnholcaghaaGreatDoor
theorem q9 (a:BitVec 32):Qc 32 (a.toNat:Int)=a:=by
 rw[Sf,BitVec.ofNat_toNat,BitVec.setWidth_eq]
theorem wrap32 {n:Nat}(h:n<4294967296):PN.wrap (n:Int)=(n:Int):=by
 simp[V8,V9,VP];omega
theorem oF (n:Nat):O5.wrap (n:Int)=((OQ n).toNat:Int):=by
 rw[UInt8.toNat_ofNat'];simp[V8,V9,VP]
theorem pL (a b:BitVec 32):iP .u32 (a.toNat:Int) (b.toNat:Int)=((a^^^b).toNat:Int):=by
 unfold iP;show PN.wrap ((Qc 32 (a.toNat:Int)^^^Qc 32 (b.toNat:Int)).toNat:Int)=_;rw[q9,q9];exact wrap32 (a^^^b).isLt
theorem Fz (a:BitVec 32):lJ .u32 (a.toNat:Int) 15=((a.toNat%16:Nat):Int):=by
 unfold lJ;show PN.wrap ((Qc 32 (a.toNat:Int)&&&15#32).toNat:Int)=_;rw[q9,EU];rw[QJ];have:a.toNat%16%2^32=a.toNat%16:=by omega
 rw[this];exact wrap32 (by omega)
theorem sE (a:BitVec 32)(k:Nat)(hk:k<=32):dG .u32 (a.toNat:Int) (k:Int)=((a.toNat/2^k:Nat):Int):=by
 unfold dG;have:min (k:Int).toNat PN.bits=k:=by
  show min (k:Int).toNat 32=k;omega
 rw[this,TK _ (Wh (by decide)),Int.natCast_ediv,Int.natCast_pow];rfl
def bh:Nat:=0
def Gl (H:aa):Prop:=∀i,i<16->cK H ⟨bh,i,none⟩=some (.int .u32 ((nz.getD i 0#32).toNat:Int))
theorem Gl.lt {H:aa}(h:Gl H):bh<H.size:=jC (h 0 (by decide))
theorem Gl.keep {H H':aa}(h:Gl H)(k:H'[bh]?=H[bh]?):Gl H':=λi hi=>(gI k).trans (h i hi)
theorem Gl.mod {F:Nat->Prop}{H H':aa}(h:Gl H)(hm:Mod F H H')(a:¬F bh):Gl H':=h.keep (hm.same _ h.lt a)
theorem wW {H:aa}(h:Gl H){i:Nat}(hi:i<16){K:Int->Prop}(b:K ((nz.getD i 0#32).toNat:Int)){a:Addr}(c:a=⟨bh,i,none⟩):ld (ab .u32) H a K:=by
 subst c;exact⟨_,h i hi,b⟩
def pO (l:List UInt8):BitVec 32:=l.foldl FL (UB 32)
theorem vj (l:List UInt8)(c:UInt8):pO (l++[c])=FL (pO l) c:=by simp[pO]
theorem toNat_ofNat32 (c:UInt8):(Sm 32 c.toNat).toNat=c.toNat:=by
 rw[QJ];have:=c.toNat_lt;omega
theorem KD {l:List UInt8}{i:Nat}(h:i<l.length):(eH l).getD i 0=((l[i]).toNat:Int):=by
 simp[eH,Pn,h]
theorem dY {l:List UInt8}{H:aa}{s:Sl}(h:bL H s l){i:Nat}(hi:i<l.length){z:Int}(b:z=(i:Int)){K:Addr->Int->Prop}(c:∀ad,s.a=some ad->K ad ((l[i]).toNat:Int)):
  ae s.a λa=>(0<=z/\z<(s.n:Int))/\ld (ab .u8) H (a.add (z.toNat*1)) λx=>K a x:=
 jy (l:=eH l) h b (by simpa[eH] using hi) (λad d=>by rw[KD hi];exact c ad d)
theorem Ed {s:Sl}{l:List UInt8}{H:aa}{K:Int->aa->Prop}(f:Gl H)(g:bL H s l)(hl:l.length<4611686018427387904)(j:K ((fR l).toNat:Int) H):HI.sp s H K:=by
 refine HI.of ?_;unfold HI.vc;have h:=g.n;refine ar l.length (λk x H1=>H1=H/\x=(((pO (l.take k)).toNat:Int),(k:Int))) ⟨rfl,rfl⟩ ?_;rintro k _ _ next hk ⟨rfl,rfl⟩ a
 refine ah (λc=>?_) (λc=>?_)
 ·have b:k<l.length:=by rw[h] at c;simpa using c
  refine dY g b rfl λad p=>?_;have m:(l[k]).toNat<256:=(l[k]).toNat_lt;have n:iP .u32 ((pO (l.take k)).toNat:Int) (PN.wrap (((l[k]).toNat:Nat):Int))=((pO (l.take k)^^^Sm 32 (l[k]).toNat).toNat:Int):=by
   rw[wrap32 (by omega),<-toNat_ofNat32 l[k],pL,toNat_ofNat32]
  simp only[n];generalize o:pO (l.take k)^^^Sm 32 (l[k]).toNat=r;have half:∀(r:BitVec 32),iP .u32 (dG .u32 (r.toNat:Int) 4) ((nz.getD (r.toNat%16) 0#32).toNat:Int)=((lq r).toNat:Int):=by
   intro r;have h1:dG .u32 (r.toNat:Int) 4=((r>>>4).toNat:Int):=by
    rw[show (4:Int)=((4:Nat):Int) from rfl,sE r 4 (by decide),BitVec.toNat_ushiftRight,Nat.shiftRight_eq_div_pow]
   rw[h1,pL,<-G8]
  rw[Fz];refine⟨⟨by omega,by omega⟩,?_⟩;refine wW f (i:=r.toNat%16) (SZ _ (by decide)) ?_ (by rw[Od,O7,bk];rfl);rw[half,Fz];refine⟨⟨by omega,by omega⟩,?_⟩;refine wW f (i:=(lq r).toNat%16) (SZ _ (by decide)) ?_ (by rw[Od,O7,bk];rfl);rw[half];refine a b _ _ ⟨rfl,?_⟩;have hs:=aD k (by omega);rw[hs,Oc b,vj];unfold FL;rw[o]
 ·have d:k=l.length:=by rw[h] at c;simp at c;omega
  rw[d,Og (Ob _)];have e:iP .u32 (4294967295:Int) ((pO l).toNat:Int)=((fR l).toNat:Int):=by
   rw[show (4294967295:Int)=((UB 32).toNat:Int) from rfl,pL];congr 2
  rw[e];exact j
theorem Ez {P:Program}{f g ty elem t:TypeId}{H:aa}{b o dl i:Nat}{x:Sl}{cur:Array Value}{cs:List Value}{K:Int->aa->Prop}(hu:P.underlying f=some (.slice elem))(hs:(P.info? elem).map (·.size)=some 1)
  (h:aj H b t cur) (n:Reads H x.a cs) (p:x.n=cs.length) (hle:x.n<=dl) (a:o+cs.length<=cur.size) (h1:∀v∈cs,v.oneCell'=true)
  (q:∀H',aj H' b t (cur.toList.take o++cs++cur.toList.drop (o+cs.length)).toArray->Mod (λk=>k=b) H H'->H'.size=H.size->K (cs.length:Int) H'):
  ba (ab .i64) P (UW #[f,g] ty #[.slice (some ⟨b,o,none⟩) dl i,x.v]) H K:=by
 intro w hw;subst hw;obtain⟨y,r,s⟩:=x;simp only[Sl.v] at*;by_cases u:cs=[]
 ·subst u;have l:r=0:=p;subst l;have m:=run_copy_none (P:=P) w f g ty elem (some ⟨b,o,none⟩) y dl i 0 s hu hs (by simp);refine⟨_,w,m,⟨0,rfl,?_⟩,.refl w⟩;refine q w.heap ?_ (.refl _ _) rfl;have e:(cur.toList.take o++[]++cur.toList.drop (o+([]:List Value).length)).toArray=cur:=by simp
  rw[e];exact h
 ·have c:0<cs.length:=List.length_pos_iff.2 u;obtain⟨ad,rfl,_⟩:=n.at c;have d:∀j v,cs[j]?=some v->w.cell? (ad.add j)=some v:=λj v z=>by
   obtain⟨A,e,B⟩:=n j v z;cases e;exact B
  have m:=run_copy_row (P:=P) w f g ty elem b o dl i ad r s cur t cs hu hs h (by rw[<-p];exact(Nat.min_eq_left hle).symm) d a h1;refine⟨_,_,m,⟨(cs.length:Int),rfl,q _ (setRow_heap w b cur _ t _ h) ⟨by simp[RP],λk _ hk=>setRow_other w b k _ hk⟩ (by simp[RP])⟩,(.of_le rfl (Ob _))⟩
abbrev nZ (H:aa)(b:Nat)(t:TypeId)(l:List UInt8):Prop:=aj H b t (fZ l).toArray
theorem nZ.st {H:aa}{b:Nat}{t:TypeId}{l:List UInt8}{K:aa->Prop}(h:nZ H b t l){i:Nat}{x:UInt8}(hi:i<l.length)(a:∀H',nZ H' b t (l.set i x)->Mod (λk=>k=b) H H'->H'.size=H.size->K H'):
  Go.Proofs.YtmkbhnholcaghaaGreatDoor.st H (Addr.add ⟨b,0,none⟩ i) (.int .u8 (x.toNat:Int)) K:=by
 refine aj.st h (i:=i) (by simpa[fZ] using hi) rfl λH' r m s=>a H' ?_ m s;have e:((fZ l).toArray.setIfInBounds i (.int .u8 (x.toNat:Int)))=(fZ (l.set i x)).toArray:=by
  apply Array.toList_inj.1;simp[fZ]
 rw[e] at r;exact r
theorem nZ.Ly {H:aa}{b:Nat}{t:TypeId}{l:List UInt8}(h:nZ H b t l){o n c:Nat}(d:o+n<=l.length):bL H (Sl.mk (some ⟨b,o,none⟩) n c) ((l.drop o).take n):=by
 refine⟨by simp[eH];omega,λi v a=>⟨_,rfl,?_⟩⟩;rw[gv] at a;rw[add_lit];refine cq h ?_;have hi:i<n:=by have:=(List.getElem?_eq_some_iff.1 a).1;simp[fZ] at this;omega
 simp only[fZ,Oi,O2,if_pos hi,List.getElem?_drop] at a;simp only[fZ,List.getElem?_toArray,Oi];exact a
theorem ua {α:Type}{A B:List α}{k:Nat}{x:α}(hk:k<A.length)(b:k<B.length)(a:A[k]?=some x):(A.take k++B.drop k).set k x=A.take (k+1)++B.drop (k+1):=by
 have hl:(A.take k).length=k:=by simp;omega
 rw[List.set_append_right _ _ (by omega),hl,Nat.sub_self];have e:B.drop k=B[k]::B.drop (k+1):=OY b;rw[e,Qx,Oc hk];have:A[k]=x:=by rw[N8 hk] at a;exact OE a
 rw[this];simp
theorem IN:N5.underlying dQ=some (.slice fx):=by kernel_rfl
theorem KG:(N5.info? fx).map (·.size)=some 1:=by kernel_rfl
theorem K9:zc N5 Lf=(fZ (OD 512 0)).toArray:=by kernel_rfl
theorem KN:OD 512 (0:UInt8)=0::0::0::0::0::0::0::0::OD 504 0:=rfl
set_option maxRecDepth 20000 in
theorem IC {kind:UInt8}{s:Sl}{l:List UInt8}{H:aa}{K:Sl×Int->aa->Prop}(J:Gl H)(a:bL H s l)(hlen:l.length<=504)
  (L:∀s' H',az EB fx H' s' (cI kind l)->Ext H H'->(∀b,ag s' b->H.size<=b)->K (s',0) H'):J6.sp (kind.toNat:Int) s H K:=by
 refine J6.of ?_;unfold J6.vc;have r:=a.n;refine aC (by simp;omega) ?_;rw[K9];refine ax λH1 s1 E d=>?_;rw[KN] at E;have T:bL H1 s l:=a.keep λad _ hl=>d.same _ hl id;refine⟨⟨by decide,by decide⟩,?_⟩;have v4:O5.wrap (s.n:Int)=((OQ l.length).toNat:Int):=by rw[r,oF]
 have v5:O5.wrap (dG .i64 (s.n:Int) 8)=((OQ (l.length/256)).toNat:Int):=by
  have:dG .i64 (s.n:Int) 8=((l.length/256:Nat):Int):=by
   unfold dG;rw[r,show (min (8:Int).toNat N6.bits)=8 from rfl,TK _ (Wh (by decide))];rfl
  rw[this,oF]
 rw[v4];refine nZ.st (i:=4) E (by simp) λU r2 m2 z2=>?_;refine⟨⟨by decide,by decide⟩,?_⟩;rw[v5];refine nZ.st (i:=5) r2 (by simp) λV M m3 z3=>?_;refine⟨⟨by decide,by decide⟩,?_⟩;refine nZ.st (i:=6) M (by simp) λW N m4 z4=>?_;refine⟨⟨by decide,by decide⟩,?_⟩;refine nZ.st (i:=7) (x:=157) N (by simp) λw O m5 z5=>?_;refine⟨⟨by decide,by decide⟩,?_⟩;have m15:Mod (λb=>b=H.size) H1 w:=((m2.trans m3).trans m4).trans m5;have y:Ext H w:=⟨by have:=d.size;have:=m15.size;omega,λb a _=>(m15.same b (by omega) (by omega)).trans (d.same b a id)⟩;have P:bL w s l:=a.keep λad _ hl=>y.same _ hl id;have Q:cA (some ⟨H.size,0,none⟩) 512 ((8:Int).toNat) 1=some ⟨H.size,8,none⟩:=rfl;rw[Q];refine Ez (t:=Lf) IN KG O P.cells (by rw[r];simp[fZ]) (by rw[r];show _<=504;omega) (by simp[fZ];omega) (by
  intro v z;obtain⟨x,_,rfl⟩:=List.mem_map.1 z;rfl) λu F m6 X=>?_
 have Y:(0::0::0::0::cV kind l:List UInt8)=[0,0,0,0]++cV kind l:=rfl;have j:nZ u H.size Lf ([0,0,0,0]++cV kind l):=by
  have e:(((fZ (((((0::0::0::0::0::0::0::0::OD 504 0:List UInt8).set 4 (OQ l.length)).set 5 (OQ (l.length/256))).set 6 kind).set 7 157)).toArray.toList.take 8++fZ l)++(fZ (((((0::0::0::0::0::0::0::0::OD 504 0:List UInt8).set 4 (OQ l.length)).set 5 (OQ (l.length/256))).set 6 kind).set 7 157)).toArray.toList.drop (8+(fZ l).length)).toArray=(fZ ([0,0,0,0]++cV kind l)).toArray:=by
   congr 1;simp only[List.set_cons_succ,Qx,fZ,List.map_cons,List.take_succ_cons,List.take_zero,List.map_append,cV,List.length_map,List.map_replicate];rw[show 8+l.length=l.length+8 from Nat.add_comm _ _];simp only[List.drop_succ_cons,List.drop_replicate];simp
  rw[e] at F;exact F
 have m16:Mod (λb=>b=H.size) H1 u:=m15.trans m6;have A:Ext H u:=⟨by have:=d.size;have:=m16.size;omega,λb a _=>(m16.same b (by omega) (by omega)).trans (d.same b a id)⟩;refine⟨⟨by decide,by decide⟩,?_⟩;have a4:cA (some ⟨H.size,0,none⟩) 512 ((4:Int).toNat) 1=some ⟨H.size,4,none⟩:=rfl;rw[a4];have f:=jV (kind:=kind) hlen;have m:=nZ.Ly j (o:=4) (n:=508) (c:=508) (by simp[f]);have R:(([0,0,0,0]++cV kind l:List UInt8).drop 4).take 508=cV kind l:=by
  show (cV kind l).take 508=_;rw[Og (by omega)]
 rw[R] at m;refine Ed (J.mod A id) m (by omega) ?_;refine ar 4 (λk x p=>x=(k:Int)/\nZ p H.size Lf ((pw (fR (cV kind l))).take k++([0,0,0,0]++cV kind l).drop k)/\Mod (λb=>b=H.size) u p) ⟨rfl,j,.refl _ _⟩ ?_;rintro k _ p next hk ⟨rfl,B,m7⟩ g
 refine ah (λC=>?_) (λC=>?_)
 ·have h:k<4:=by simp at C;omega
  have hw:N6.wrap ((8:Int)*(k:Int))=((8*k:Nat):Int):=by rw[wrap64 (by omega) (by omega)];omega
  rw[hw];refine⟨by omega,⟨by omega,by omega⟩,?_⟩;have z:(pw (fR (cV kind l)))[k]?=some (OQ ((fR (cV kind l)).toNat/2^(8*k))):=by
   have:k=0\/k=1\/k=2\/k=3:=by omega
   rcases this with rfl|rfl|rfl|rfl<;>simp[pw]
  rw[sE _ (8*k) (by omega),oF,Od,O7];refine nZ.st (i:=k) B (by simp[pw,f];omega) λZ G m8 z8=>?_;rw[ua (by simp[pw];omega) (by simp[f];omega) z] at G;exact g h _ _ ⟨aD k (by omega),G,m7.trans m8⟩
 ·have h:k=4:=by simp at C;omega
  subst h;have D:nZ p H.size Lf (cI kind l):=by
   have e:(pw (fR (cV kind l))).take 4++([0,0,0,0]++cV kind l:List UInt8).drop 4=cI kind l:=rfl;rw[e] at B;exact B
  have hsl:=wL (kind:=kind) hlen;have q:=nZ.Ly D (o:=0) (n:=512) (c:=512) (by omega);rw[List.drop_zero,Og (by omega)] at q;have a0:cA (some ⟨H.size,0,none⟩) 512 0 1=some ⟨H.size,0,none⟩:=rfl;rw[a0];refine fP q (by omega) λs' H' S I f'=>?_;have m17:Mod (λb=>b=H.size) H1 p:=m16.trans m7;have z1:=d.size;have z7:=m17.size;have z':=I.size;refine L s' H' S ⟨by omega,λb a _=>(I.same b (by omega) id).trans ((m17.same b (by omega) (by omega)).trans (d.same b a id))⟩ (λb a=>?_);have:=f' b a;omega
theorem bL.drop {H:aa}{s:Sl}{l:List UInt8}(h:bL H s l)(d:s.n<=s.c)(i:Nat):bL H (Sl.mk (cA s.a s.c i 1) (s.n - i) (s.c - i)) (l.drop i):=by
 have b:=h.n;refine⟨by simp[eH,b],?_⟩;have:=bP.drop (E:=EB) (i:=i) (c:=s.c) (a:=s.a) (l:=l) (by unfold bP;rw[iH];exact h.cells) (by omega);unfold bP at this;rw[iH] at this;rw[gv];exact this
theorem bL.take {H:aa}{s:Sl}{l:List UInt8}(h:bL H s l)(i:Nat)(hi:i<=s.n)(c:Nat):bL H (Sl.mk s.a i c) (l.take i):=by
 have a:=h.n;refine⟨by simp[eH];omega,?_⟩;rw[gv];have:fZ (l.take i)=(fZ l).take i:=by simp[fZ]
 rw[this];exact h.cells.take i
theorem CO {s:Sl}{l:List UInt8}{H:aa}{K:Int->aa->Prop}(j:bL H s l)(hl:l.length<4611686018427387904)(m:∀r:Int,(decide (r>=0))=l.any (λc=>c !=0)->K r H):Ku.sp s H K:=by
 refine Ku.of ?_;unfold Ku.vc;have n:=j.n;refine ar l.length (λk x H1=>H1=H/\x=(k:Int)/\(l.take k).any (λc=>c !=0)=false) ⟨rfl,rfl,by simp⟩ ?_;rintro k _ _ next hk ⟨rfl,rfl,b⟩ d
 refine ah (λf=>?_) (λf=>?_)
 ·have a:k<l.length:=by rw[n] at f;simpa using f
  refine dY j a rfl λad o=>?_;refine GK.of ?_;unfold GK.vc;have ex:l=l.take k++l[k]::l.drop (k+1):=by
   rw[<-OY a,List.take_append_drop]
  refine ah (λg=>?_) (λg=>?_)
  ·have h:l[k]≠0:=by
    intro e;rw[e] at g;simp at g
   refine m _ ?_;have e2:l.any (λc=>c !=0)=true:=Qg.2 ⟨l[k],List.getElem_mem a,by simpa using h⟩;rw[e2];simp
  ·have he:l[k]=0:=by
    have:((l[k]).toNat:Int)=0:=by simpa using g
    exact Qw.1 (by rw[UInt8.toNat_zero];omega)
   refine d a _ _ ⟨rfl,aD k (by omega),?_⟩;rw[Oc a,List.any_append,b,he];rfl
 ·have i:k=l.length:=by rw[n] at f;simp at f;omega
  rw[i,Og (Ob _)] at b;refine m _ ?_;rw[b];rfl
theorem wC {s:Sl}{l:List UInt8}{H:aa}{K:Bool->aa->Prop}(a:bL H s l)(hl:l.length<4611686018427387904)(b:K (l.any (λc=>c !=0)) H):JI.sp s H K:=by
 refine JI.of ?_;unfold JI.vc;refine CO a hl λr d=>?_;rw[d];exact b
theorem HN {a b:Nat}(d:a<256)(e:b<256):yO .i64 (N6.wrap (a:Int)) (kV .i64 (N6.wrap (b:Int)) 8)=((a+256*b:Nat):Int):=by
 rw[wrap64 (by omega) (by omega),wrap64 (x:=(b:Int)) (by omega) (by omega)];have c:kV .i64 (b:Int) 8=((b*256:Nat):Int):=by
  unfold kV;rw[show (min (8:Int).toNat N6.bits)=8 from rfl,wrap64 (by omega) (by omega)];omega
 rw[c];unfold yO;show N6.wrap ((Qc 64 (a:Int)|||Qc 64 ((b*256:Nat):Int)).toNat:Int)=_;rw[Sf,Sf,BitVec.toNat_or,QJ,QJ,Sp (by omega),Sp (by omega)];have e2:a|||b*256=a+256*b:=by
  have:=Nat.shiftLeft_add_eq_or_of_lt (i:=8) (b:=a) (by omega) b;rw[Nat.shiftLeft_eq] at this;rw[Nat.or_comm,show b*256=b*2^8 from rfl,<-this];omega
 rw[e2];exact wrap64 (by omega) (by omega)
theorem jY {l:List UInt8}(h:l.length=512)(a:¬(l.take 4=pw (fR (l.drop 4))/\bK l<=504/\l.getD 7 0=157/\∀c∈l.drop (8+bK l),c=0)):iE l=none:=by
 unfold iE;rw[if_neg (λq=>a ((u5 h).1 q))]
theorem AK {l:List UInt8}(h:l.length=512)(a:l.take 4=pw (fR (l.drop 4))/\bK l<=504/\l.getD 7 0=157/\∀c∈l.drop (8+bK l),c=0):iE l=some (l.getD 6 0,(l.drop 8).take (bK l)):=by
 unfold iE;rw[if_pos ((u5 h).2 a)]
set_option maxRecDepth 20000 in
theorem IT {s:Sl}{l:List UInt8}{H:aa}{K:(Int×Sl×Int)->aa->Prop}(P:Gl H)(g:bL H s l)(hl:l.length<4611686018427387904)(f:s.n<=s.c)
  (Q:l.length≠512->K (0,Sl.mk none 0 0,2) H) (A:l.length=512->iE l=none->K (0,Sl.mk none 0 0,20) H)
  (R:∀k b s' H',l.length=512->iE l=some (k,b)->b.length<=504->az EB fx H' s' b->Ext H H'->(∀b,ag s' b->H.size<=b)->K ((k.toNat:Int),s',0) H'):JG.sp s H K:=by
 refine JG.of ?_;unfold JG.vc;have M:=g.n;refine ah (λh=>Q (by rw[M] at h;simp at h;omega)) (λh=>?_);have a:l.length=512:=by rw[M] at h;simp at h;omega
 refine⟨⟨by decide,by omega⟩,?_⟩;have d4:=g.drop f 4;refine Ed P d4 (by simp;omega) ?_;refine ar 4 (λk x H1=>H=H1/\x=(k:Int)/\l.take k=(pw (fR (l.drop 4))).take k) ⟨rfl,rfl,rfl⟩ ?_;rintro k _ _ next hk ⟨rfl,rfl,heq⟩ n
 refine ah (λh=>?_) (λh=>?_)
 ·have j:k<4:=by simp at h;omega
  have o:k<l.length:=by omega
  refine dY g o rfl λad C=>?_;have hw:N6.wrap ((8:Int)*(k:Int))=((8*k:Nat):Int):=by rw[wrap64 (by omega) (by omega)];omega
  rw[hw];refine⟨by omega,?_⟩;rw[sE _ (8*k) (by omega),oF];have D:(pw (fR (l.drop 4)))[k]?=some (OQ ((fR (l.drop 4)).toNat/2^(8*k))):=by
   have:k=0\/k=1\/k=2\/k=3:=by omega
   rcases this with rfl|rfl|rfl|rfl<;>simp[pw]
  refine ah (λd=>?_) (λd=>?_)
  ·refine A a (jY a λq=>?_);have B:(l.take 4)[k]?=some l[k]:=by rw[O2,if_pos j,N8 o]
   rw[q.1,D] at B;rw[OE B] at d;simp at d
  ·have B:l[k]=OQ ((fR (l.drop 4)).toNat/2^(8*k)):=by
    refine Qw.1 ?_;have:((l[k]).toNat:Int)=((OQ ((fR (l.drop 4)).toNat/2^(8*k))).toNat:Int):=by simpa using d
    omega
   refine n j _ _ ⟨rfl,aD k (by omega),?_⟩;have m:k<(pw (fR (l.drop 4))).length:=by simp[pw];omega
   rw[Oc o,Oc m,heq];rw[N8 m] at D;rw[OE D,B]
 ·have j:k=4:=by simp at h;omega
  subst j;have t:l.take 4=pw (fR (l.drop 4)):=by
   rw[heq];exact Og (by simp[pw])
  refine dY (i:=4) (z:=4) g (by omega) rfl λ_ _=>?_;refine dY (i:=5) (z:=5) g (by omega) rfl λ_ _=>?_;have E:yO .i64 (N6.wrap ((l[4]).toNat:Int)) (kV .i64 (N6.wrap ((l[5]).toNat:Int)) 8)=(bK l:Int):=by
   rw[HN (l[4]).toNat_lt (l[5]).toNat_lt];unfold bK;simp[Pn,N8 (show 4<l.length by omega),N8 (show 5<l.length by omega)]
  rw[E];refine ah (λd=>A a (jY a λq=>?_)) (λd=>?_)
  ·have:=q.2.1;simp at d;omega
  have hle:bK l<=504:=by simp at d;omega
  refine dY (i:=7) (z:=7) g (by omega) rfl λ_ _=>?_;have N:l.getD 7 0=l[7]:=by simp[Pn,N8 (show 7<l.length by omega)]
  refine ah (λd=>A a (jY a λq=>?_)) (λd=>?_)
  ·have:=q.2.2.1;rw[N] at this;rw[this] at d;simp at d
  have F:l.getD 7 0=157:=by
   rw[N];refine Qw.1 ?_;have:((l[7]).toNat:Int)=157:=by simpa using d
   rw[show (157:UInt8).toNat=157 from rfl];omega
  have G:N6.wrap ((8:Int)+(bK l:Int))=((8+bK l:Nat):Int):=by rw[wrap64 (by omega) (by omega)];omega
  rw[G,Od];refine⟨⟨by omega,by omega⟩,?_⟩;refine wC (g.drop f (8+bK l)) (by simp;omega) ?_;refine ah (λd=>A a (jY a λq=>?_)) (λd=>?_)
  ·obtain⟨c,p,u⟩:=Qg.1 d;rw[q.2.2.2 c p] at u;simp at u
  have I:∀c∈l.drop (8+bK l),c=0:=by
   intro c p;have:=List.any_eq_false.1 d c p;simpa using this
  have v:=AK a ⟨t,hle,F,I⟩;refine⟨λH'=>Ext H H',.refl _ _,?_⟩;have w:6<l.length:=by omega
  have J:∀H',Ext H H'->bL H' s l:=λH' e=>g.keep λad _ hl=>e.same _ hl id;obtain⟨ad,C,_⟩:=g.addr (by omega);refine aX ad C ⟨⟨by decide,by omega⟩,((l[6]).toNat:Int),λH' e=>?_,?_⟩
  ·have r:=(J H' e).at (i:=6) (by simp[eH];omega);obtain⟨S,y,r⟩:=r;rw[C] at y;cases y;rw[show (6:Int).toNat*1=6 from rfl,r];simp[eH]
  ·refine⟨⟨by omega,by omega⟩,⟨by decide,by omega⟩,?_⟩;have L:=(g.drop f 8).take (bK l) (by show _<=s.n - 8;omega) (s.c - 8);have T:(8+bK l) - (8:Int).toNat=bK l:=by show 8+bK l - 8=_;omega
   rw[T];refine fP L (by simp;omega) λs' H' U O f'=>⟨O,?_⟩;have V:l.getD 6 0=l[6]:=by simp[Pn,N8 w]
   rw[V] at v;exact R l[6] _ s' H' a v (by simp;omega) U O f'
end Go.Proofs.YtmkbhnholcaghaaGreatDoor
