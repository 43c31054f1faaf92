/-
 Pages: the walk of their sum, of what seals them, of what opens them.
-/
import Derived.Test.YtmkbhnholcaghaaGreatDoorDkg
import Derived.Test.YtmkbhnholcaghaaGreatDoorPga
import Derived.Laws.CopyRow
import Derived.Laws.IdiomCopy
open BitVec renaming ofInt->Qq,toNat_ofNat->QW,ofInt_natCast->Sv,ofNat->SH,allOnes->UR
open Go.Builtin renaming copy_->Vd
open Go.IntKind renaming i64->Ol,u8->Pn,u32->P6,signed->V3,wrap->Wm,bits->Wn
open Go.Proofs.Tryz renaming prog->Oj
open Go.World renaming setRow->R8
open Int renaming toNat_natCast->Ov,fdiv_eq_ediv_of_nonneg->TZ,pow_nonneg->Wv
open List renaming getElem?_eq_getElem->On,take_succ_eq_append_getElem->Ou,getElem?_map->Oy,take_of_length_le->OA,replicate->OR,getElem?_take->Pd,drop_eq_getElem_cons->Pf,getD->PB,any_eq_true->Qv,set_cons_zero->QL
open Nat renaming le_refl->Ot,mul_one->Pq,mod_eq_of_lt->SK,mod_lt->Tm
open Option.some renaming inj->OS
open UInt8 renaming ofNat->O5,toNat_inj->QK
namespace Go.Proofs.YtmkbhnholcaghaaGreatDoor
theorem rv (a:BitVec 32):Qq 32 (a.toNat:Int)=a:=by
 rw[Sv,BitVec.ofNat_toNat,BitVec.setWidth_eq]
theorem wrap32 {n:Nat}(h:n<4294967296):P6.wrap (n:Int)=(n:Int):=by
 simp[Wm,Wn,V3];omega
theorem oL (n:Nat):Pn.wrap (n:Int)=((O5 n).toNat:Int):=by
 rw[UInt8.toNat_ofNat'];simp[Wm,Wn,V3]
theorem pR (a b:BitVec 32):iS .u32 (a.toNat:Int) (b.toNat:Int)=((a^^^b).toNat:Int):=by
 unfold iS;show P6.wrap ((Qq 32 (a.toNat:Int)^^^Qq 32 (b.toNat:Int)).toNat:Int)=_;rw[rv,rv];exact wrap32 (a^^^b).isLt
theorem FK (a:BitVec 32):lQ .u32 (a.toNat:Int) 15=((a.toNat%16:Nat):Int):=by
 unfold lQ;show P6.wrap ((Qq 32 (a.toNat:Int)&&&15#32).toNat:Int)=_;rw[rv,E9];rw[QW];have:a.toNat%16%2^32=a.toNat%16:=by omega
 rw[this];exact wrap32 (by omega)
theorem sR (a:BitVec 32)(k:Nat)(hk:k<=32):dI .u32 (a.toNat:Int) (k:Int)=((a.toNat/2^k:Nat):Int):=by
 unfold dI;have:min (k:Int).toNat P6.bits=k:=by
  show min (k:Int).toNat 32=k;omega
 rw[this,TZ _ (Wv (by decide)),Int.natCast_ediv,Int.natCast_pow];rfl
def bh:Nat:=0
def Gl (H:aa):Prop:=∀i,i<16->cI H ⟨bh,i,none⟩=some (.int .u32 ((nL.getD i 0#32).toNat:Int))
theorem Gl.lt {H:aa}(h:Gl H):bh<H.size:=jG (h 0 (by decide))
theorem Gl.keep {H H':aa}(h:Gl H)(k:H'[bh]?=H[bh]?):Gl H':=λi hi=>(gL k).trans (h i hi)
theorem Gl.mod {F:Nat->Prop}{H H':aa}(h:Gl H)(hm:Mod F H H')(a:¬F bh):Gl H':=h.keep (hm.same _ h.lt a)
theorem xd {H:aa}(h:Gl H){i:Nat}(hi:i<16){K:Int->Prop}(b:K ((nL.getD i 0#32).toNat:Int)){a:Addr}(c:a=⟨bh,i,none⟩):ld (ab .u32) H a K:=by
 subst c;exact⟨_,h i hi,b⟩
def pU (l:List UInt8):BitVec 32:=l.foldl FV (UR 32)
theorem vr (l:List UInt8)(c:UInt8):pU (l++[c])=FV (pU l) c:=by simp[pU]
theorem toNat_ofNat32 (c:UInt8):(SH 32 c.toNat).toNat=c.toNat:=by
 rw[QW];have:=c.toNat_lt;omega
theorem KJ {l:List UInt8}{i:Nat}(h:i<l.length):(eH l).getD i 0=((l[i]).toNat:Int):=by
 simp[eH,PB,h]
theorem dZ {l:List UInt8}{H:aa}{s:Sl}(h:bP H s l){i:Nat}(hi:i<l.length){z:Int}(b:z=(i:Int)){K:Addr->Int->Prop}(c:∀ad,s.a=some ad->K ad ((l[i]).toNat:Int)):
  ae s.a λa=>(0<=z/\z<(s.n:Int))/\ld (ab .u8) H (a.add (z.toNat*1)) λx=>K a x:=
 jC (l:=eH l) h b (by simpa[eH] using hi) (λad d=>by rw[KJ hi];exact c ad d)
theorem Es {s:Sl}{l:List UInt8}{H:aa}{K:Int->aa->Prop}(f:Gl H)(g:bP H s l)(hl:l.length<4611686018427387904)(j:K ((fV l).toNat:Int) H):HP.sp s H K:=by
 refine HP.of ?_;unfold HP.vc;have h:=g.n;refine ar l.length (λk x H1=>H1=H/\x=(((pU (l.take k)).toNat:Int),(k:Int))) ⟨rfl,rfl⟩ ?_;rintro k _ _ next hk ⟨rfl,rfl⟩ a
 refine ag (λc=>?_) (λc=>?_)
 ·have b:k<l.length:=by rw[h] at c;simpa using c
  refine dZ g b rfl λad p=>?_;have m:(l[k]).toNat<256:=(l[k]).toNat_lt;have n:iS .u32 ((pU (l.take k)).toNat:Int) (P6.wrap (((l[k]).toNat:Nat):Int))=((pU (l.take k)^^^SH 32 (l[k]).toNat).toNat:Int):=by
   rw[wrap32 (by omega),<-toNat_ofNat32 l[k],pR,toNat_ofNat32]
  simp only[n];generalize o:pU (l.take k)^^^SH 32 (l[k]).toNat=r;have half:∀(r:BitVec 32),iS .u32 (dI .u32 (r.toNat:Int) 4) ((nL.getD (r.toNat%16) 0#32).toNat:Int)=((lD r).toNat:Int):=by
   intro r;have h1:dI .u32 (r.toNat:Int) 4=((r>>>4).toNat:Int):=by
    rw[show (4:Int)=((4:Nat):Int) from rfl,sR r 4 (by decide),BitVec.toNat_ushiftRight,Nat.shiftRight_eq_div_pow]
   rw[h1,pR,<-Hf]
  rw[FK];refine⟨⟨by omega,by omega⟩,?_⟩;refine xd f (i:=r.toNat%16) (Tm _ (by decide)) ?_ (by rw[Ov,Pq,bk];rfl);rw[half,FK];refine⟨⟨by omega,by omega⟩,?_⟩;refine xd f (i:=(lD r).toNat%16) (Tm _ (by decide)) ?_ (by rw[Ov,Pq,bk];rfl);rw[half];refine a b _ _ ⟨rfl,?_⟩;have hs:=aD k (by omega);rw[hs,Ou b,vr];unfold FV;rw[o]
 ·have d:k=l.length:=by rw[h] at c;simp at c;omega
  rw[d,OA (Ot _)];have e:iS .u32 (4294967295:Int) ((pU l).toNat:Int)=((fV l).toNat:Int):=by
   rw[show (4294967295:Int)=((UR 32).toNat:Int) from rfl,pR];congr 2
  rw[e];exact j
theorem EP {P:Program}{f g ty elem t:TypeId}{H:aa}{b o dl i:Nat}{x:Sl}{cur:Array Value}{cs:List Value}{K:Int->aa->Prop}(hu:P.underlying f=some (.slice elem))(hs:(P.info? elem).map (·.size)=some 1)
  (h:aj H b t cur) (n:Reads H x.a cs) (p:x.n=cs.length) (hle:x.n<=dl) (a:o+cs.length<=cur.size) (h1:∀v∈cs,v.oneCell'=true)
  (q:∀H',aj H' b t (cur.toList.take o++cs++cur.toList.drop (o+cs.length)).toArray->Mod (λk=>k=b) H H'->H'.size=H.size->K (cs.length:Int) H'):
  bf (ab .i64) P (Vd #[f,g] ty #[.slice (some ⟨b,o,none⟩) dl i,x.v]) H K:=by
 intro w hw;subst hw;obtain⟨y,r,s⟩:=x;simp only[Sl.v] at*;by_cases u:cs=[]
 ·subst u;have l:r=0:=p;subst l;have m:=run_copy_none (P:=P) w f g ty elem (some ⟨b,o,none⟩) y dl i 0 s hu hs (by simp);refine⟨_,w,m,⟨0,rfl,?_⟩,.refl w⟩;refine q w.heap ?_ (.refl _ _) rfl;have e:(cur.toList.take o++[]++cur.toList.drop (o+([]:List Value).length)).toArray=cur:=by simp
  rw[e];exact h
 ·have c:0<cs.length:=List.length_pos_iff.2 u;obtain⟨ad,rfl,_⟩:=n.at c;have d:∀j v,cs[j]?=some v->w.cell? (ad.add j)=some v:=λj v z=>by
   obtain⟨A,e,B⟩:=n j v z;cases e;exact B
  have m:=run_copy_row (P:=P) w f g ty elem b o dl i ad r s cur t cs hu hs h (by rw[<-p];exact(Nat.min_eq_left hle).symm) d a h1;refine⟨_,_,m,⟨(cs.length:Int),rfl,q _ (setRow_heap w b cur _ t _ h) ⟨by simp[R8],λk _ hk=>setRow_other w b k _ hk⟩ (by simp[R8])⟩,(.of_le rfl (Ot _))⟩
abbrev oh (H:aa)(b:Nat)(t:TypeId)(l:List UInt8):Prop:=aj H b t (gk l).toArray
theorem oh.st {H:aa}{b:Nat}{t:TypeId}{l:List UInt8}{K:aa->Prop}(h:oh H b t l){i:Nat}{x:UInt8}(hi:i<l.length)(a:∀H',oh H' b t (l.set i x)->Mod (λk=>k=b) H H'->H'.size=H.size->K H'):
  Go.Proofs.YtmkbhnholcaghaaGreatDoor.st H (Addr.add ⟨b,0,none⟩ i) (.int .u8 (x.toNat:Int)) K:=by
 refine aj.st h (i:=i) (by simpa[gk] using hi) rfl λH' r m s=>a H' ?_ m s;have e:((gk l).toArray.setIfInBounds i (.int .u8 (x.toNat:Int)))=(gk (l.set i x)).toArray:=by
  apply Array.toList_inj.1;simp[gk]
 rw[e] at r;exact r
theorem oh.LI {H:aa}{b:Nat}{t:TypeId}{l:List UInt8}(h:oh H b t l){o n c:Nat}(d:o+n<=l.length):bP H (Sl.mk (some ⟨b,o,none⟩) n c) ((l.drop o).take n):=by
 refine⟨by simp[eH];omega,λi v a=>⟨_,rfl,?_⟩⟩;rw[gI] at a;rw[add_lit];refine cC h ?_;have hi:i<n:=by have:=(List.getElem?_eq_some_iff.1 a).1;simp[gk] at this;omega
 simp only[gk,Oy,Pd,if_pos hi,List.getElem?_drop] at a;simp only[gk,List.getElem?_toArray,Oy];exact a
theorem um {α:Type}{A B:List α}{k:Nat}{x:α}(hk:k<A.length)(b:k<B.length)(a:A[k]?=some x):(A.take k++B.drop k).set k x=A.take (k+1)++B.drop (k+1):=by
 have hl:(A.take k).length=k:=by simp;omega
 rw[List.set_append_right _ _ (by omega),hl,Nat.sub_self];have e:B.drop k=B[k]::B.drop (k+1):=Pf b;rw[e,QL,Ou hk];have:A[k]=x:=by rw[On hk] at a;exact OS a
 rw[this];simp
theorem IV:Oj.underlying dS=some (.slice fD):=by kernel_rfl
theorem KO:(Oj.info? fD).map (·.size)=some 1:=by kernel_rfl
theorem Lh:zc Oj Ln=(gk (OR 512 0)).toArray:=by kernel_rfl
theorem KS:OR 512 (0:UInt8)=0::0::0::0::0::0::0::0::OR 504 0:=rfl
set_option maxRecDepth 20000 in
theorem II {kind:UInt8}{s:Sl}{l:List UInt8}{H:aa}{K:Sl×Int->aa->Prop}(J:Gl H)(a:bP H s l)(hlen:l.length<=504)
  (L:∀s' H',az EB fD H' s' (cM kind l)->Ext H H'->(∀b,ah s' b->H.size<=b)->K (s',0) H'):Kc.sp (kind.toNat:Int) s H K:=by
 refine Kc.of ?_;unfold Kc.vc;have r:=a.n;refine aC (by simp;omega) ?_;rw[Lh];refine av λH1 s1 E d=>?_;rw[KS] at E;have T:bP H1 s l:=a.keep λad _ hl=>d.same _ hl id;refine⟨⟨by decide,by decide⟩,?_⟩;have v4:Pn.wrap (s.n:Int)=((O5 l.length).toNat:Int):=by rw[r,oL]
 have v5:Pn.wrap (dI .i64 (s.n:Int) 8)=((O5 (l.length/256)).toNat:Int):=by
  have:dI .i64 (s.n:Int) 8=((l.length/256:Nat):Int):=by
   unfold dI;rw[r,show (min (8:Int).toNat Ol.bits)=8 from rfl,TZ _ (Wv (by decide))];rfl
  rw[this,oL]
 rw[v4];refine oh.st (i:=4) E (by simp) λU r2 m2 z2=>?_;refine⟨⟨by decide,by decide⟩,?_⟩;rw[v5];refine oh.st (i:=5) r2 (by simp) λV M m3 z3=>?_;refine⟨⟨by decide,by decide⟩,?_⟩;refine oh.st (i:=6) M (by simp) λW N m4 z4=>?_;refine⟨⟨by decide,by decide⟩,?_⟩;refine oh.st (i:=7) (x:=157) N (by simp) λw O m5 z5=>?_;refine⟨⟨by decide,by decide⟩,?_⟩;have m15:Mod (λb=>b=H.size) H1 w:=((m2.trans m3).trans m4).trans m5;have y:Ext H w:=⟨by have:=d.size;have:=m15.size;omega,λb a _=>(m15.same b (by omega) (by omega)).trans (d.same b a id)⟩;have P:bP w s l:=a.keep λad _ hl=>y.same _ hl id;have Q:cE (some ⟨H.size,0,none⟩) 512 ((8:Int).toNat) 1=some ⟨H.size,8,none⟩:=rfl;rw[Q];refine EP (t:=Ln) IV KO O P.cells (by rw[r];simp[gk]) (by rw[r];show _<=504;omega) (by simp[gk];omega) (by
  intro v z;obtain⟨x,_,rfl⟩:=List.mem_map.1 z;rfl) λu F m6 X=>?_
 have Y:(0::0::0::0::cY kind l:List UInt8)=[0,0,0,0]++cY kind l:=rfl;have j:oh u H.size Ln ([0,0,0,0]++cY kind l):=by
  have e:(((gk (((((0::0::0::0::0::0::0::0::OR 504 0:List UInt8).set 4 (O5 l.length)).set 5 (O5 (l.length/256))).set 6 kind).set 7 157)).toArray.toList.take 8++gk l)++(gk (((((0::0::0::0::0::0::0::0::OR 504 0:List UInt8).set 4 (O5 l.length)).set 5 (O5 (l.length/256))).set 6 kind).set 7 157)).toArray.toList.drop (8+(gk l).length)).toArray=(gk ([0,0,0,0]++cY kind l)).toArray:=by
   congr 1;simp only[List.set_cons_succ,QL,gk,List.map_cons,List.take_succ_cons,List.take_zero,List.map_append,cY,List.length_map,List.map_replicate];rw[show 8+l.length=l.length+8 from Nat.add_comm _ _];simp only[List.drop_succ_cons,List.drop_replicate];simp
  rw[e] at F;exact F
 have m16:Mod (λb=>b=H.size) H1 u:=m15.trans m6;have A:Ext H u:=⟨by have:=d.size;have:=m16.size;omega,λb a _=>(m16.same b (by omega) (by omega)).trans (d.same b a id)⟩;refine⟨⟨by decide,by decide⟩,?_⟩;have a4:cE (some ⟨H.size,0,none⟩) 512 ((4:Int).toNat) 1=some ⟨H.size,4,none⟩:=rfl;rw[a4];have f:=j5 (kind:=kind) hlen;have m:=oh.LI j (o:=4) (n:=508) (c:=508) (by simp[f]);have R:(([0,0,0,0]++cY kind l:List UInt8).drop 4).take 508=cY kind l:=by
  show (cY kind l).take 508=_;rw[OA (by omega)]
 rw[R] at m;refine Es (J.mod A id) m (by omega) ?_;refine ar 4 (λk x p=>x=(k:Int)/\oh p H.size Ln ((pH (fV (cY kind l))).take k++([0,0,0,0]++cY kind l).drop k)/\Mod (λb=>b=H.size) u p) ⟨rfl,j,.refl _ _⟩ ?_;rintro k _ p next hk ⟨rfl,B,m7⟩ g
 refine ag (λC=>?_) (λC=>?_)
 ·have h:k<4:=by simp at C;omega
  have hw:Ol.wrap ((8:Int)*(k:Int))=((8*k:Nat):Int):=by rw[wrap64 (by omega) (by omega)];omega
  rw[hw];refine⟨by omega,⟨by omega,by omega⟩,?_⟩;have z:(pH (fV (cY kind l)))[k]?=some (O5 ((fV (cY kind l)).toNat/2^(8*k))):=by
   have:k=0\/k=1\/k=2\/k=3:=by omega
   rcases this with rfl|rfl|rfl|rfl<;>simp[pH]
  rw[sR _ (8*k) (by omega),oL,Ov,Pq];refine oh.st (i:=k) B (by simp[pH,f];omega) λZ G m8 z8=>?_;rw[um (by simp[pH];omega) (by simp[f];omega) z] at G;exact g h _ _ ⟨aD k (by omega),G,m7.trans m8⟩
 ·have h:k=4:=by simp at C;omega
  subst h;have D:oh p H.size Ln (cM kind l):=by
   have e:(pH (fV (cY kind l))).take 4++([0,0,0,0]++cY kind l:List UInt8).drop 4=cM kind l:=rfl;rw[e] at B;exact B
  have hsl:=wV (kind:=kind) hlen;have q:=oh.LI D (o:=0) (n:=512) (c:=512) (by omega);rw[List.drop_zero,OA (by omega)] at q;have a0:cE (some ⟨H.size,0,none⟩) 512 0 1=some ⟨H.size,0,none⟩:=rfl;rw[a0];refine fT q (by omega) λs' H' S I f'=>?_;have m17:Mod (λb=>b=H.size) H1 p:=m16.trans m7;have z1:=d.size;have z7:=m17.size;have z':=I.size;refine L s' H' S ⟨by omega,λb a _=>(I.same b (by omega) id).trans ((m17.same b (by omega) (by omega)).trans (d.same b a id))⟩ (λb a=>?_);have:=f' b a;omega
theorem bP.drop {H:aa}{s:Sl}{l:List UInt8}(h:bP H s l)(d:s.n<=s.c)(i:Nat):bP H (Sl.mk (cE s.a s.c i 1) (s.n - i) (s.c - i)) (l.drop i):=by
 have b:=h.n;refine⟨by simp[eH,b],?_⟩;have:=bQ.drop (E:=EB) (i:=i) (c:=s.c) (a:=s.a) (l:=l) (by unfold bQ;rw[iK];exact h.cells) (by omega);unfold bQ at this;rw[iK] at this;rw[gI];exact this
theorem bP.take {H:aa}{s:Sl}{l:List UInt8}(h:bP H s l)(i:Nat)(hi:i<=s.n)(c:Nat):bP H (Sl.mk s.a i c) (l.take i):=by
 have a:=h.n;refine⟨by simp[eH];omega,?_⟩;rw[gI];have:gk (l.take i)=(gk l).take i:=by simp[gk]
 rw[this];exact h.cells.take i
theorem C3 {s:Sl}{l:List UInt8}{H:aa}{K:Int->aa->Prop}(j:bP H s l)(hl:l.length<4611686018427387904)(m:∀r:Int,(decide (r>=0))=l.any (λc=>c !=0)->K r H):KA.sp s H K:=by
 refine KA.of ?_;unfold KA.vc;have n:=j.n;refine ar l.length (λk x H1=>H1=H/\x=(k:Int)/\(l.take k).any (λc=>c !=0)=false) ⟨rfl,rfl,by simp⟩ ?_;rintro k _ _ next hk ⟨rfl,rfl,b⟩ d
 refine ag (λf=>?_) (λf=>?_)
 ·have a:k<l.length:=by rw[n] at f;simpa using f
  refine dZ j a rfl λad o=>?_;refine GS.of ?_;unfold GS.vc;have ex:l=l.take k++l[k]::l.drop (k+1):=by
   rw[<-Pf a,List.take_append_drop]
  refine ag (λg=>?_) (λg=>?_)
  ·have h:l[k]≠0:=by
    intro e;rw[e] at g;simp at g
   refine m _ ?_;have e2:l.any (λc=>c !=0)=true:=Qv.2 ⟨l[k],List.getElem_mem a,by simpa using h⟩;rw[e2];simp
  ·have he:l[k]=0:=by
    have:((l[k]).toNat:Int)=0:=by simpa using g
    exact QK.1 (by rw[UInt8.toNat_zero];omega)
   refine d a _ _ ⟨rfl,aD k (by omega),?_⟩;rw[Ou a,List.any_append,b,he];rfl
 ·have i:k=l.length:=by rw[n] at f;simp at f;omega
  rw[i,OA (Ot _)] at b;refine m _ ?_;rw[b];rfl
theorem wN {s:Sl}{l:List UInt8}{H:aa}{K:Bool->aa->Prop}(a:bP H s l)(hl:l.length<4611686018427387904)(b:K (l.any (λc=>c !=0)) H):JN.sp s H K:=by
 refine JN.of ?_;unfold JN.vc;refine C3 a hl λr d=>?_;rw[d];exact b
theorem HU {a b:Nat}(d:a<256)(e:b<256):yZ .i64 (Ol.wrap (a:Int)) (lg .i64 (Ol.wrap (b:Int)) 8)=((a+256*b:Nat):Int):=by
 rw[wrap64 (by omega) (by omega),wrap64 (x:=(b:Int)) (by omega) (by omega)];have c:lg .i64 (b:Int) 8=((b*256:Nat):Int):=by
  unfold lg;rw[show (min (8:Int).toNat Ol.bits)=8 from rfl,wrap64 (by omega) (by omega)];omega
 rw[c];unfold yZ;show Ol.wrap ((Qq 64 (a:Int)|||Qq 64 ((b*256:Nat):Int)).toNat:Int)=_;rw[Sv,Sv,BitVec.toNat_or,QW,QW,SK (by omega),SK (by omega)];have e2:a|||b*256=a+256*b:=by
  have:=Nat.shiftLeft_add_eq_or_of_lt (i:=8) (b:=a) (by omega) b;rw[Nat.shiftLeft_eq] at this;rw[Nat.or_comm,show b*256=b*2^8 from rfl,<-this];omega
 rw[e2];exact wrap64 (by omega) (by omega)
theorem j8 {l:List UInt8}(h:l.length=512)(a:¬(l.take 4=pH (fV (l.drop 4))/\bL l<=504/\l.getD 7 0=157/\∀c∈l.drop (8+bL l),c=0)):iG l=none:=by
 unfold iG;rw[if_neg (λq=>a ((vi h).1 q))]
theorem AX {l:List UInt8}(h:l.length=512)(a:l.take 4=pH (fV (l.drop 4))/\bL l<=504/\l.getD 7 0=157/\∀c∈l.drop (8+bL l),c=0):iG l=some (l.getD 6 0,(l.drop 8).take (bL l)):=by
 unfold iG;rw[if_pos ((vi h).2 a)]
set_option maxRecDepth 20000 in
theorem IZ {s:Sl}{l:List UInt8}{H:aa}{K:(Int×Sl×Int)->aa->Prop}(P:Gl H)(g:bP H s l)(hl:l.length<4611686018427387904)(f:s.n<=s.c)
  (Q:l.length≠512->K (0,Sl.mk none 0 0,2) H) (A:l.length=512->iG l=none->K (0,Sl.mk none 0 0,20) H)
  (R:∀k b s' H',l.length=512->iG l=some (k,b)->b.length<=504->az EB fD H' s' b->Ext H H'->(∀b,ah s' b->H.size<=b)->K ((k.toNat:Int),s',0) H'):JL.sp s H K:=by
 refine JL.of ?_;unfold JL.vc;have M:=g.n;refine ag (λh=>Q (by rw[M] at h;simp at h;omega)) (λh=>?_);have a:l.length=512:=by rw[M] at h;simp at h;omega
 refine⟨⟨by decide,by omega⟩,?_⟩;have d4:=g.drop f 4;refine Es P d4 (by simp;omega) ?_;refine ar 4 (λk x H1=>H=H1/\x=(k:Int)/\l.take k=(pH (fV (l.drop 4))).take k) ⟨rfl,rfl,rfl⟩ ?_;rintro k _ _ next hk ⟨rfl,rfl,heq⟩ n
 refine ag (λh=>?_) (λh=>?_)
 ·have j:k<4:=by simp at h;omega
  have o:k<l.length:=by omega
  refine dZ g o rfl λad C=>?_;have hw:Ol.wrap ((8:Int)*(k:Int))=((8*k:Nat):Int):=by rw[wrap64 (by omega) (by omega)];omega
  rw[hw];refine⟨by omega,?_⟩;rw[sR _ (8*k) (by omega),oL];have D:(pH (fV (l.drop 4)))[k]?=some (O5 ((fV (l.drop 4)).toNat/2^(8*k))):=by
   have:k=0\/k=1\/k=2\/k=3:=by omega
   rcases this with rfl|rfl|rfl|rfl<;>simp[pH]
  refine ag (λd=>?_) (λd=>?_)
  ·refine A a (j8 a λq=>?_);have B:(l.take 4)[k]?=some l[k]:=by rw[Pd,if_pos j,On o]
   rw[q.1,D] at B;rw[OS B] at d;simp at d
  ·have B:l[k]=O5 ((fV (l.drop 4)).toNat/2^(8*k)):=by
    refine QK.1 ?_;have:((l[k]).toNat:Int)=((O5 ((fV (l.drop 4)).toNat/2^(8*k))).toNat:Int):=by simpa using d
    omega
   refine n j _ _ ⟨rfl,aD k (by omega),?_⟩;have m:k<(pH (fV (l.drop 4))).length:=by simp[pH];omega
   rw[Ou o,Ou m,heq];rw[On m] at D;rw[OS D,B]
 ·have j:k=4:=by simp at h;omega
  subst j;have t:l.take 4=pH (fV (l.drop 4)):=by
   rw[heq];exact OA (by simp[pH])
  refine dZ (i:=4) (z:=4) g (by omega) rfl λ_ _=>?_;refine dZ (i:=5) (z:=5) g (by omega) rfl λ_ _=>?_;have E:yZ .i64 (Ol.wrap ((l[4]).toNat:Int)) (lg .i64 (Ol.wrap ((l[5]).toNat:Int)) 8)=(bL l:Int):=by
   rw[HU (l[4]).toNat_lt (l[5]).toNat_lt];unfold bL;simp[PB,On (show 4<l.length by omega),On (show 5<l.length by omega)]
  rw[E];refine ag (λd=>A a (j8 a λq=>?_)) (λd=>?_)
  ·have:=q.2.1;simp at d;omega
  have hle:bL l<=504:=by simp at d;omega
  refine dZ (i:=7) (z:=7) g (by omega) rfl λ_ _=>?_;have N:l.getD 7 0=l[7]:=by simp[PB,On (show 7<l.length by omega)]
  refine ag (λd=>A a (j8 a λq=>?_)) (λd=>?_)
  ·have:=q.2.2.1;rw[N] at this;rw[this] at d;simp at d
  have F:l.getD 7 0=157:=by
   rw[N];refine QK.1 ?_;have:((l[7]).toNat:Int)=157:=by simpa using d
   rw[show (157:UInt8).toNat=157 from rfl];omega
  have G:Ol.wrap ((8:Int)+(bL l:Int))=((8+bL l:Nat):Int):=by rw[wrap64 (by omega) (by omega)];omega
  rw[G,Ov];refine⟨⟨by omega,by omega⟩,?_⟩;refine wN (g.drop f (8+bL l)) (by simp;omega) ?_;refine ag (λd=>A a (j8 a λq=>?_)) (λd=>?_)
  ·obtain⟨c,p,u⟩:=Qv.1 d;rw[q.2.2.2 c p] at u;simp at u
  have I:∀c∈l.drop (8+bL l),c=0:=by
   intro c p;have:=List.any_eq_false.1 d c p;simpa using this
  have v:=AX a ⟨t,hle,F,I⟩;refine⟨λH'=>Ext H H',.refl _ _,?_⟩;have w:6<l.length:=by omega
  have J:∀H',Ext H H'->bP H' s l:=λH' e=>g.keep λad _ hl=>e.same _ hl id;obtain⟨ad,C,_⟩:=g.addr (by omega);refine aV ad C ⟨⟨by decide,by omega⟩,((l[6]).toNat:Int),λH' e=>?_,?_⟩
  ·have r:=(J H' e).at (i:=6) (by simp[eH];omega);obtain⟨S,y,r⟩:=r;rw[C] at y;cases y;rw[show (6:Int).toNat*1=6 from rfl,r];simp[eH]
  ·refine⟨⟨by omega,by omega⟩,⟨by decide,by omega⟩,?_⟩;have L:=(g.drop f 8).take (bL l) (by show _<=s.n - 8;omega) (s.c - 8);have T:(8+bL l) - (8:Int).toNat=bL l:=by show 8+bL l - 8=_;omega
   rw[T];refine fT L (by simp;omega) λs' H' U O f'=>⟨O,?_⟩;have V:l.getD 6 0=l[6]:=by simp[PB,On w]
   rw[V] at v;exact R l[6] _ s' H' a v (by simp;omega) U O f'
end Go.Proofs.YtmkbhnholcaghaaGreatDoor
