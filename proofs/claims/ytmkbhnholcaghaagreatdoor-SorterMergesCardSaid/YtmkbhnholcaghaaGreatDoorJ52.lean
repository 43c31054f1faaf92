/-
 SorterMerges: for every input the law returns true, and its arguments read as before; the tables are laid as the program's text lays them. No condition beside that.
-/
import Derived.Test.YtmkbhnholcaghaaGreatDoorPkr
import Derived.Test.YtmkbhnholcaghaaGreatDoorFxn
import Derived.Test.YtmkbhnholcaghaaGreatDoorFxt
import Derived.Test.YtmkbhnholcaghaaGreatDoorFxz
import Derived.Test.YtmkbhnholcaghaaGreatDoorJ51
open Go.ChangeSpec renaming witness_shaped->WB
open Go.DataW renaming trod_int->Rr
open Go.IntKind renaming i64->Ol
open Go.OpenClaim renaming holds_of_wide->WS
open Go.OpenSpec renaming ofChange->Yo
open Go.Proofs.Tryz renaming prog->Oj,f6->Rt,checked->Uj,func6->UI,params6->Vw
open Go.Value renaming okWide->To,agg->Vf
open List renaming all_eq_true->Pw
open Option.some renaming inj->OS
namespace Go.Proofs.YtmkbhnholcaghaaGreatDoor
open Go.ChangeShapes Go.WideShapes Go.ChangeAt Go.RowKit
def vq:List (TypeId×Nat):=[(iH,0),(iH,1),(iH,2),(iH,3),(iH,4),(44,5)]
theorem zl:∃fs,Oj.underlying Ed=some (.struct fs)/\fs.toList.map (λf=>(f.type,f.offset))=vq:=by
 have a:(match Oj.underlying Ed with|some (.struct fs)=>(fs.toList.map (λf=>(f.type,f.offset)))==vq|_=>false)=true:=by kernel_rfl
 split at a
 ·rename_i fs q;exact⟨fs,q,by simpa using a⟩
 ·cases a
theorem BR {x:Int}(h:(Lit.int .i64 x).wf=true):x<=9223372036854775807:=by
 simp only[Lit.wf,Bool.and_eq_true,decide_eq_true_eq] at h;have a:Ol.max=9223372036854775807:=rfl;omega
set_option maxRecDepth 100000 in
theorem Ec {H:Type}{enc:TypeId×Value->H}{r:Reach}{y:Nat}{W:World}{v:Value}{d:DataW H}{ps:List MemPlace}
  (b:To Oj W r y Ed v) (h:DataW.Trod enc Oj W 0 (λ_=>true) true Ed v d ps):
  ∃x0 l m n j o:Int,v=.agg #[(.int .i64 x0),(.int .i64 l),(.int .i64 m),(.int .i64 n),(.int .i64 j),(.int .u64 o)]/\x0<=9223372036854775807/\j<=9223372036854775807:=by
 obtain⟨fs,c,p⟩:=zl;obtain⟨cs,rfl,e⟩:=okWide_struct c b;rw[show Oj.cellsOf Ed=6 by kernel_rfl] at e;obtain⟨fuel,z⟩:=h;obtain⟨k,a⟩:=AG c p z;have c1:∀t∈([iH,44]:List TypeId),Oj.cellsOf t=1:=by
  have A:([iH,44]:List TypeId).all (λt=>Nat.beq (Oj.cellsOf t) 1)=true:=by kernel_rfl
  intro t B;exact Nat.eq_of_beq_eq_true (Pw.1 A t B)
 have f:(Vf cs).cells.toList.length=6:=by simpa[Value.cells] using e
 have g:(Vf cs).cells=cs:=rfl;obtain⟨v0,v1,v2,v3,v4,v5,i⟩:∃v0 v1 v2 v3 v4 v5,cs.toList=[v0,v1,v2,v3,v4,v5]:=by
  match D:cs.toList,(by rw[g] at f;exact f:cs.toList.length=6) with
  |[v0,v1,v2,v3,v4,v5],_=>exact⟨v0,v1,v2,v3,v4,v5,rfl⟩
 rw[g,i] at a;obtain⟨E,g0⟩:=a 0 iH 0 rfl;obtain⟨F,g1⟩:=a 1 iH 1 rfl;obtain⟨G,g2⟩:=a 2 iH 2 rfl;obtain⟨I,g3⟩:=a 3 iH 3 rfl;obtain⟨J,g4⟩:=a 4 iH 4 rfl;obtain⟨K,g5⟩:=a 5 44 5 rfl;rw[c1 _ (by simp)] at g0 g1 g2 g3 g4 g5;obtain⟨x0,q,_,w0⟩:=Rr (k:=.i64) (by kernel_rfl) g0;obtain⟨l,s,_⟩:=Rr (k:=.i64) (by kernel_rfl) g1;obtain⟨m,e2,_⟩:=Rr (k:=.i64) (by kernel_rfl) g2;obtain⟨n,u,_⟩:=Rr (k:=.i64) (by kernel_rfl) g3;obtain⟨j,w,_,C⟩:=Rr (k:=.i64) (by kernel_rfl) g4;obtain⟨o,x,_⟩:=Rr (k:=.u64) (by kernel_rfl) g5;simp at q s e2 u w x;subst q s e2 u w x;refine⟨x0,l,m,n,j,o,?_,BR w0,BR C⟩;congr 1;rw[<-Array.toList_inj,i]
set_option maxRecDepth 100000 in
theorem nt (os:Os)(started:os.Started)(H:Type)(enc:TypeId×Value->H):
  ReturnsInHanded {} Uj os 6 .any (λw args=>(Rows.sorterMergesSpec.pre enc Oj Rt [] false w args/\laidMetH Oj yz w)/\sizedMet enc Oj Rt (Yo Rows.sorterMergesSpec) false w args)
   (Rows.sorterMergesSpec.post enc Oj Rt false true false false):=by
 refine returnsInHanded_of_change_and (C:=Uj) (X:=λw _=>laidMetH Oj yz w) (λ_ _ _ B h=>h.of_heap B) Cp started (by kernel_rfl) UI
  (WB (enc:=enc) (C:=Uj) (os:=os) (X:=λw _=>laidMetH Oj yz w) false (World.doorLaid Oj 400 os) #[.agg #[.int .i64 0,.int .i64 0,.int .i64 0,.int .i64 0,.int .i64 0,.int .u64 0],.slice none 0 0,.slice none 0 0,.slice none 0 0,.slice none 0 0] 8 rfl (World.shaped_of_RefB (by kernel_rfl) (by kernel_rfl)) (by kernel_rfl) (by kernel_rfl) (by kernel_rfl) (Gf os _)) ?_
 intro W base args ds gs before f z _ hz D _;have d:∀(j:Nat) t v,Rt.params[j]?=some t->args[j]?=some v->To Oj W .any base t v:=f;have s:=z;obtain⟨p,q,u,E,rfl,F,G⟩:=z;have A:DataW.TrodAll enc Oj W 0 (λ_=>true) true Rt.params.toList args.toList ds p:=u;rw[Vw] at A d;obtain⟨v0,v1,v2,v3,v4,d0,d1,d2,d3,d4,p0,p1,p2,p3,p4,rfl,rfl,rfl,I,h1,J,K,L⟩:=wa A;obtain⟨rfl,rfl⟩:=trodVars_none E;obtain⟨x0,M,N,O,P,Q,rfl,S,T⟩:=Ec (d 0 Ed v0 rfl rfl) I;obtain⟨U,la,rfl,V,_,Y⟩:=gW (k:=.u64) (e:=fG) (e2:=iV) (by kernel_rfl) (by kernel_rfl) (by kernel_rfl) (by kernel_rfl) (by kernel_rfl) (d 1 fF v1 rfl rfl) h1;obtain⟨Z,lb,rfl,nb,_,eb⟩:=gW (k:=.u64) (e:=fG) (e2:=iV) (by kernel_rfl) (by kernel_rfl) (by kernel_rfl) (by kernel_rfl) (by kernel_rfl) (d 2 fF v2 rfl rfl) J;obtain⟨rc,lc,rfl,nc,_,ec⟩:=gW (k:=.u64) (e:=fG) (e2:=iV) (by kernel_rfl) (by kernel_rfl) (by kernel_rfl) (by kernel_rfl) (by kernel_rfl) (d 3 fF v3 rfl rfl) K;obtain⟨which,wl,rfl,hw,_,_⟩:=wJ (k:=.i64) (e:=iH) (by kernel_rfl) (by kernel_rfl) (by kernel_rfl) (d 4 y9 v4 rfl rfl) L;have g:=qR (quota:=x0) (pool:=M) (frames:=N) (width:=O) (q:=P) (keep:=Q) (a:=U) (b:=Z) (c:=rc) (which:=which) (la:=la) (lb:=lb) (lc:=lc) (wl:=wl) (H:=W.heap) (R:=λb H'=>b=true/\Ext W.heap H') (AI D) S T ⟨V,λi hi=>by obtain⟨ad,l,m,n,o,_⟩:=Y i hi;exact⟨ad,l,m,n,o⟩⟩ ⟨nb,λi hi=>by obtain⟨ad,l,m,n,o,_⟩:=eb i hi;exact⟨ad,l,m,n,o⟩⟩ ⟨nc,λi hi=>by obtain⟨ad,l,m,n,o,_⟩:=ec i hi;exact⟨ad,l,m,n,o⟩⟩ hw (λH' e=>⟨rfl,e⟩);refine(g W rfl).mono λe W' ⟨v,he,⟨x,hx,hb,r⟩,y⟩=>?_;subst he;subst hx;subst hb;exact⟨_,rfl,FM tR (by decide+kernel) rfl (by kernel_rfl) rfl rfl rfl rfl s r y⟩
theorem qg:Rows.SorterMergesSaid:=
 WS 6 Rt rfl rfl rfl rfl rfl rfl rfl ⟨rfl,rfl,rfl,rfl,rfl⟩ rfl rfl rfl rfl rfl (by kernel_rfl) UI (by kernel_rfl)
  (of_decide_eq_true (by kernel_rfl)) (by unfold Func.isWrapper;first|(rw[if_pos (by decide+kernel)];kernel_rfl)|(rw[if_neg (by decide+kernel)];exact⟨rfl,rfl⟩))
  (λos started H enc _=>nt os started H enc)
theorem sorterMerges_holds:Rows.SorterMergesCardSaid:=
 Claim7.holds_tied_plain_at .later [] [.data,.data,.data,.data] true _ false
  qg (λ_ h=>by cases h) (by kernel_rfl) (λ_ h=>by cases h) sorterMerges_row_tie rfl ⟨rfl,rfl⟩ (by kernel_rfl) rfl
  (λf fn d b=>by
   obtain rfl:f=6:=OS ((show Oj.funcNamed "fathom/fathomlaw08.SorterMerges"=some 6 by kernel_rfl).symm.trans d) |>.symm;obtain rfl:fn=Rt:=(OS (UI.symm.trans b)).symm;exact⟨by kernel_rfl,λj t c=>by
    rw[Vw] at c;have hm:t∈[Ed,fF,fF,fF,y9]:=by simpa using Array.mem_of_getElem? c
    have a:([Ed,fF,fF,fF,y9].all λu=>!Oj.wantsStandIn u)=true:=by kernel_rfl
    exact(show Oj.wantsStandIn t=false by simpa using Pw.1 a t hm)⟩)
  (by kernel_rfl)
#print axioms sorterMerges_holds
end Go.Proofs.YtmkbhnholcaghaaGreatDoor
