/-
 SorterPlays: for every input the law returns true, and its arguments read as before; the tables are laid as the program's text lays them. No condition beside that.
-/
import Derived.Test.YtmkbhnholcaghaaGreatDoorPkr
import Derived.Test.YtmkbhnholcaghaaGreatDoorFxn
import Derived.Test.YtmkbhnholcaghaaGreatDoorFxt
import Derived.Test.YtmkbhnholcaghaaGreatDoorFxz
import Derived.Test.YtmkbhnholcaghaaGreatDoorJ51
open Go.ChangeSpec renaming witness_shaped->Wf
open Go.DataW renaming trod_int->Q3
open Go.IntKind renaming i64->NY
open Go.OpenClaim renaming holds_of_wide->Wv
open Go.OpenSpec renaming ofChange->XW
open Go.Proofs.Tryz renaming prog->NX,f5->Q5,checked->TT,params5->TU,func5->Ul
open Go.Value renaming okWide->RL,agg->UP
open List renaming all_eq_true->O3
open Option.some renaming inj->Ow
namespace Go.Proofs.YtmkbhnholcaghaaGreatDoor
open Go.ChangeShapes Go.WideShapes Go.ChangeAt Go.RowKit
def vg:List (TypeId×Nat):=[(hZ,0),(hZ,1),(hZ,2),(hZ,3),(hZ,4),(44,5)]
theorem yV:∃fs,NX.underlying DO=some (.struct fs)/\fs.toList.map (λf=>(f.type,f.offset))=vg:=by
 have a:(match NX.underlying DO with|some (.struct fs)=>(fs.toList.map (λf=>(f.type,f.offset)))==vg|_=>false)=true:=by kernel_rfl
 split at a
 ·rename_i fs q;exact⟨fs,q,by simpa using a⟩
 ·cases a
theorem BB {x:Int}(h:(Lit.int .i64 x).wf=true):x<=9223372036854775807:=by
 simp only[Lit.wf,Bool.and_eq_true,decide_eq_true_eq] at h;have a:NY.max=9223372036854775807:=rfl;omega
set_option maxRecDepth 100000 in
theorem DN {H:Type}{enc:TypeId×Value->H}{r:Reach}{y:Nat}{W:World}{v:Value}{d:DataW H}{ps:List MemPlace}
  (b:RL NX W r y DO v) (h:DataW.Trod enc NX W 0 (λ_=>true) true DO v d ps):
  ∃x0 l m n j o:Int,v=.agg #[(.int .i64 x0),(.int .i64 l),(.int .i64 m),(.int .i64 n),(.int .i64 j),(.int .u64 o)]/\x0<=9223372036854775807/\j<=9223372036854775807:=by
 obtain⟨fs,c,p⟩:=yV;obtain⟨cs,rfl,e⟩:=okWide_struct c b;rw[show NX.cellsOf DO=6 by kernel_rfl] at e;obtain⟨fuel,z⟩:=h;obtain⟨k,a⟩:=Ao c p z;have c1:∀t∈([hZ,44]:List TypeId),NX.cellsOf t=1:=by
  have A:([hZ,44]:List TypeId).all (λt=>Nat.beq (NX.cellsOf t) 1)=true:=by kernel_rfl
  intro t B;exact Nat.eq_of_beq_eq_true (O3.1 A t B)
 have f:(UP cs).cells.toList.length=6:=by simpa[Value.cells] using e
 have g:(UP cs).cells=cs:=rfl;obtain⟨v0,v1,v2,v3,v4,v5,i⟩:∃v0 v1 v2 v3 v4 v5,cs.toList=[v0,v1,v2,v3,v4,v5]:=by
  match D:cs.toList,(by rw[g] at f;exact f:cs.toList.length=6) with
  |[v0,v1,v2,v3,v4,v5],_=>exact⟨v0,v1,v2,v3,v4,v5,rfl⟩
 rw[g,i] at a;obtain⟨E,g0⟩:=a 0 hZ 0 rfl;obtain⟨F,g1⟩:=a 1 hZ 1 rfl;obtain⟨G,g2⟩:=a 2 hZ 2 rfl;obtain⟨I,g3⟩:=a 3 hZ 3 rfl;obtain⟨J,g4⟩:=a 4 hZ 4 rfl;obtain⟨K,g5⟩:=a 5 44 5 rfl;rw[c1 _ (by simp)] at g0 g1 g2 g3 g4 g5;obtain⟨x0,q,_,w0⟩:=Q3 (k:=.i64) (by kernel_rfl) g0;obtain⟨l,s,_⟩:=Q3 (k:=.i64) (by kernel_rfl) g1;obtain⟨m,e2,_⟩:=Q3 (k:=.i64) (by kernel_rfl) g2;obtain⟨n,u,_⟩:=Q3 (k:=.i64) (by kernel_rfl) g3;obtain⟨j,w,_,C⟩:=Q3 (k:=.i64) (by kernel_rfl) g4;obtain⟨o,x,_⟩:=Q3 (k:=.u64) (by kernel_rfl) g5;simp at q s e2 u w x;subst q s e2 u w x;refine⟨x0,l,m,n,j,o,?_,BB w0,BB C⟩;congr 1;rw[<-Array.toList_inj,i]
set_option maxRecDepth 100000 in
theorem nF (os:Os)(started:os.Started)(H:Type)(enc:TypeId×Value->H):
  ReturnsInHanded {} TT os 5 .any (λw args=>(Rows.sorterPlaysSpec.pre enc NX Q5 [] false w args/\laidMetH NX ye w)/\sizedMet enc NX Q5 (XW Rows.sorterPlaysSpec) false w args)
   (Rows.sorterPlaysSpec.post enc NX Q5 false true false false):=by
 refine returnsInHanded_of_change_and (C:=TT) (X:=λw _=>laidMetH NX ye w) (λ_ _ _ A h=>h.of_heap A) BY started (by kernel_rfl) Ul
  (Wf (enc:=enc) (C:=TT) (os:=os) (X:=λw _=>laidMetH NX ye w) false (World.doorLaid NX 400 os) #[.agg #[.int .i64 0,.int .i64 0,.int .i64 0,.int .i64 0,.int .i64 0,.int .u64 0],.slice none 0 0,.int .i64 0] 8 rfl (World.shaped_of_RefB (by kernel_rfl) (by kernel_rfl)) (by kernel_rfl) (by kernel_rfl) (by kernel_rfl) (FP os _)) ?_
 intro W base args ds gs before c u _ B D _;have a:∀(j:Nat) t v,Q5.params[j]?=some t->args[j]?=some v->RL NX W .any base t v:=c;have g:=u;obtain⟨p,q,m,E,rfl,F,G⟩:=u;have y:DataW.TrodAll enc NX W 0 (λ_=>true) true Q5.params.toList args.toList ds p:=m;rw[TU] at y a;obtain⟨v0,v1,v2,d0,d1,d2,p0,p1,p2,rfl,rfl,rfl,I,h1,h2⟩:=trodAll_three y;obtain⟨rfl,rfl⟩:=trodVars_none E;obtain⟨x0,J,K,L,M,N,rfl,O,P⟩:=DN (a 0 DO v0 rfl rfl) I;have o:∀n∈d1.weights NX gd,n<=reachBytes:=λn Q=>by
  have:=O3.1 B n (DataW.weights_mem_each (j:=1) (by rw[TU];rfl) rfl n Q);simpa using this
 obtain⟨rows,rl,rfl,rn,_,z⟩:=pj (k:=.u64) (e:=dZ) (e2:=gR) (by kernel_rfl) (by kernel_rfl) (by kernel_rfl) (by kernel_rfl) (by kernel_rfl) (a 1 gd v1 rfl rfl) h1 o;obtain⟨at_,rfl,_⟩:=DT (k:=.i64) (a 2 hZ v2 rfl rfl) (by kernel_rfl);have r:NX.bytesOf gR=8:=by kernel_rfl
 have S:reachBytes=140737488351232:=rfl;have hlen:∀l∈rl,l.length<=17592186043904:=by
  intro l hl;obtain⟨i,hi,e⟩:=List.getElem_of_mem hl;subst e;obtain⟨_,_,_,_,_,_,_,q⟩:=z i hi;rw[r] at q;omega
 have d:=tt (quota:=x0) (pool:=J) (frames:=K) (width:=L) (q:=M) (keep:=N) (at_:=at_) (rows:=rows) (rl:=rl) (H:=W.heap) (R:=λb H'=>b=true/\Ext W.heap H') (Aq D) O P ⟨rn,λi hi=>by obtain⟨ad,T,U,V,Y,_⟩:=z i hi;exact⟨ad,T,U,V,Y⟩⟩ hlen (λH' e=>⟨rfl,e⟩);refine(d W rfl).mono λe W' ⟨v,he,⟨x,Z,hb,f⟩,s⟩=>?_;subst he;subst Z;subst hb;exact⟨_,rfl,Fx tG (by decide+kernel) rfl (by kernel_rfl) rfl rfl rfl rfl g f s⟩
theorem qJ:Rows.SorterPlaysSaid:=
 Wv 5 Q5 rfl rfl rfl rfl rfl rfl rfl ⟨rfl,rfl,rfl,rfl,rfl⟩ rfl rfl rfl rfl rfl (by kernel_rfl) Ul (by kernel_rfl)
  (of_decide_eq_true (by kernel_rfl)) (by unfold Func.isWrapper;first|(rw[if_pos (by decide+kernel)];kernel_rfl)|(rw[if_neg (by decide+kernel)];exact⟨rfl,rfl⟩))
  (λos started H enc _=>nF os started H enc)
theorem sorterPlays_holds:Rows.SorterPlaysCardSaid:=
 Claim7.holds_tied_plain_at .later [] [.data,.data,.data,.data] true _ false
  qJ (λ_ h=>by cases h) (by kernel_rfl) (λ_ h=>by cases h) sorterPlays_row_tie rfl ⟨rfl,rfl⟩ (by kernel_rfl) rfl
  (λf fn d b=>by
   obtain rfl:f=5:=Ow ((show NX.funcNamed "fathom/fathomlaw08.SorterPlays"=some 5 by kernel_rfl).symm.trans d) |>.symm;obtain rfl:fn=Q5:=(Ow (Ul.symm.trans b)).symm;exact⟨by kernel_rfl,λj t c=>by
    rw[TU] at c;have hm:t∈[DO,gd,hZ]:=by simpa using Array.mem_of_getElem? c
    have a:([DO,gd,hZ].all λu=>!NX.wantsStandIn u)=true:=by kernel_rfl
    exact(show NX.wantsStandIn t=false by simpa using O3.1 a t hm)⟩)
  (by kernel_rfl)
#print axioms sorterPlays_holds
end Go.Proofs.YtmkbhnholcaghaaGreatDoor
