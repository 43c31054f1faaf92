/-
 SorterPlays: for every input the law returns true, and its arguments read as before; the tables are laid as the program's text lays them. No condition beside that.
-/
import Derived.Test.YtmkbhnholcaghaaGreatDoorPkr
import Derived.Test.YtmkbhnholcaghaaGreatDoorFxn
import Derived.Test.YtmkbhnholcaghaaGreatDoorFxt
import Derived.Test.YtmkbhnholcaghaaGreatDoorFxz
import Derived.Test.YtmkbhnholcaghaaGreatDoorJ51
open Go.ChangeSpec renaming witness_shaped->Wn
open Go.DataW renaming trod_int->Rc
open Go.IntKind renaming i64->N6
open Go.OpenClaim renaming holds_of_wide->WD
open Go.OpenSpec renaming ofChange->Yb
open Go.Proofs.Tryz renaming prog->N5,f5->Rf,checked->T1,params5->T2,func5->Ut
open Go.Value renaming okWide->RU,agg->UY
open List renaming all_eq_true->Pb
open Option.some renaming inj->OE
namespace Go.Proofs.YtmkbhnholcaghaaGreatDoor
open Go.ChangeShapes Go.WideShapes Go.ChangeAt Go.RowKit
def vi:List (TypeId×Nat):=[(ib,0),(ib,1),(ib,2),(ib,3),(ib,4),(44,5)]
theorem yZ:∃fs,N5.underlying DT=some (.struct fs)/\fs.toList.map (λf=>(f.type,f.offset))=vi:=by
 have a:(match N5.underlying DT with|some (.struct fs)=>(fs.toList.map (λf=>(f.type,f.offset)))==vi|_=>false)=true:=by kernel_rfl
 split at a
 ·rename_i fs q;exact⟨fs,q,by simpa using a⟩
 ·cases a
theorem BE {x:Int}(h:(Lit.int .i64 x).wf=true):x<=9223372036854775807:=by
 simp only[Lit.wf,Bool.and_eq_true,decide_eq_true_eq] at h;have a:N6.max=9223372036854775807:=rfl;omega
set_option maxRecDepth 100000 in
theorem DS {H:Type}{enc:TypeId×Value->H}{r:Reach}{y:Nat}{W:World}{v:Value}{d:DataW H}{ps:List MemPlace}
  (b:RU N5 W r y DT v) (h:DataW.Trod enc N5 W 0 (λ_=>true) true DT v d ps):
  ∃x0 l m n j o:Int,v=.agg #[(.int .i64 x0),(.int .i64 l),(.int .i64 m),(.int .i64 n),(.int .i64 j),(.int .u64 o)]/\x0<=9223372036854775807/\j<=9223372036854775807:=by
 obtain⟨fs,c,p⟩:=yZ;obtain⟨cs,rfl,e⟩:=okWide_struct c b;rw[show N5.cellsOf DT=6 by kernel_rfl] at e;obtain⟨fuel,z⟩:=h;obtain⟨k,a⟩:=As c p z;have c1:∀t∈([ib,44]:List TypeId),N5.cellsOf t=1:=by
  have A:([ib,44]:List TypeId).all (λt=>Nat.beq (N5.cellsOf t) 1)=true:=by kernel_rfl
  intro t B;exact Nat.eq_of_beq_eq_true (Pb.1 A t B)
 have f:(UY cs).cells.toList.length=6:=by simpa[Value.cells] using e
 have g:(UY cs).cells=cs:=rfl;obtain⟨v0,v1,v2,v3,v4,v5,i⟩:∃v0 v1 v2 v3 v4 v5,cs.toList=[v0,v1,v2,v3,v4,v5]:=by
  match D:cs.toList,(by rw[g] at f;exact f:cs.toList.length=6) with
  |[v0,v1,v2,v3,v4,v5],_=>exact⟨v0,v1,v2,v3,v4,v5,rfl⟩
 rw[g,i] at a;obtain⟨y0,g0⟩:=a 0 ib 0 rfl;obtain⟨E,g1⟩:=a 1 ib 1 rfl;obtain⟨F,g2⟩:=a 2 ib 2 rfl;obtain⟨G,g3⟩:=a 3 ib 3 rfl;obtain⟨I,g4⟩:=a 4 ib 4 rfl;obtain⟨J,g5⟩:=a 5 44 5 rfl;rw[c1 _ (by simp)] at g0 g1 g2 g3 g4 g5;obtain⟨x0,q,_,w0⟩:=Rc (k:=.i64) (by kernel_rfl) g0;obtain⟨l,s,_⟩:=Rc (k:=.i64) (by kernel_rfl) g1;obtain⟨m,e2,_⟩:=Rc (k:=.i64) (by kernel_rfl) g2;obtain⟨n,u,_⟩:=Rc (k:=.i64) (by kernel_rfl) g3;obtain⟨j,w,_,C⟩:=Rc (k:=.i64) (by kernel_rfl) g4;obtain⟨o,x,_⟩:=Rc (k:=.u64) (by kernel_rfl) g5;simp at q s e2 u w x;subst q s e2 u w x;refine⟨x0,l,m,n,j,o,?_,BE w0,BE C⟩;congr 1;rw[<-Array.toList_inj,i]
set_option maxRecDepth 100000 in
theorem nI (os:Os)(started:os.Started)(H:Type)(enc:TypeId×Value->H):
  ReturnsInHanded {} T1 os 5 .any (λw args=>(Rows.sorterPlaysSpec.pre enc N5 Rf [] false w args/\laidMetH N5 yk w)/\sizedMet enc N5 Rf (Yb Rows.sorterPlaysSpec) false w args)
   (Rows.sorterPlaysSpec.post enc N5 Rf false true false false):=by
 refine returnsInHanded_of_change_and (C:=T1) (X:=λw _=>laidMetH N5 yk w) (λ_ _ _ A h=>h.of_heap A) Cb started (by kernel_rfl) Ut
  (Wn (enc:=enc) (C:=T1) (os:=os) (X:=λw _=>laidMetH N5 yk w) false (World.doorLaid N5 400 os) #[.agg #[.int .i64 0,.int .i64 0,.int .i64 0,.int .i64 0,.int .i64 0,.int .u64 0],.slice none 0 0,.int .i64 0] 8 rfl (World.shaped_of_RefB (by kernel_rfl) (by kernel_rfl)) (by kernel_rfl) (by kernel_rfl) (by kernel_rfl) (FU os _)) ?_
 intro W base args ds gs before c u _ B D _;have a:∀(j:Nat) t v,Rf.params[j]?=some t->args[j]?=some v->RU N5 W .any base t v:=c;have g:=u;obtain⟨p,q,m,E,rfl,F,G⟩:=u;have y:DataW.TrodAll enc N5 W 0 (λ_=>true) true Rf.params.toList args.toList ds p:=m;rw[T2] at y a;obtain⟨v0,v1,v2,d0,d1,d2,p0,p1,p2,rfl,rfl,rfl,I,h1,h2⟩:=trodAll_three y;obtain⟨rfl,rfl⟩:=trodVars_none E;obtain⟨x0,J,K,L,M,N,rfl,O,P⟩:=DS (a 0 DT v0 rfl rfl) I;have o:∀n∈d1.weights N5 gh,n<=reachBytes:=λn Q=>by
  have:=Pb.1 B n (DataW.weights_mem_each (j:=1) (by rw[T2];rfl) rfl n Q);simpa using this
 obtain⟨rows,rl,rfl,rn,_,z⟩:=po (k:=.u64) (e:=ez) (e2:=gS) (by kernel_rfl) (by kernel_rfl) (by kernel_rfl) (by kernel_rfl) (by kernel_rfl) (a 1 gh v1 rfl rfl) h1 o;obtain⟨at_,rfl,_⟩:=DY (k:=.i64) (a 2 ib v2 rfl rfl) (by kernel_rfl);have r:N5.bytesOf gS=8:=by kernel_rfl
 have S:reachBytes=140737488351232:=rfl;have hlen:∀l∈rl,l.length<=17592186043904:=by
  intro l hl;obtain⟨i,hi,e⟩:=List.getElem_of_mem hl;subst e;obtain⟨_,_,_,_,_,_,_,q⟩:=z i hi;rw[r] at q;omega
 have d:=tv (quota:=x0) (pool:=J) (frames:=K) (width:=L) (q:=M) (keep:=N) (at_:=at_) (rows:=rows) (rl:=rl) (H:=W.heap) (R:=λb H'=>b=true/\Ext W.heap H') (Av D) O P ⟨rn,λi hi=>by obtain⟨ad,T,U,V,Y,_⟩:=z i hi;exact⟨ad,T,U,V,Y⟩⟩ hlen (λH' e=>⟨rfl,e⟩);refine(d W rfl).mono λe W' ⟨v,he,⟨x,Z,hb,f⟩,s⟩=>?_;subst he;subst Z;subst hb;exact⟨_,rfl,FC tI (by decide+kernel) rfl (by kernel_rfl) rfl rfl rfl rfl g f s⟩
theorem qL:Rows.SorterPlaysSaid:=
 WD 5 Rf rfl rfl rfl rfl rfl rfl rfl ⟨rfl,rfl,rfl,rfl,rfl⟩ rfl rfl rfl rfl rfl (by kernel_rfl) Ut (by kernel_rfl)
  (of_decide_eq_true (by kernel_rfl)) (by unfold Func.isWrapper;first|(rw[if_pos (by decide+kernel)];kernel_rfl)|(rw[if_neg (by decide+kernel)];exact⟨rfl,rfl⟩))
  (λos started H enc _=>nI os started H enc)
theorem sorterPlays_holds:Rows.SorterPlaysCardSaid:=
 Claim7.holds_tied_plain_at .later [] [.data,.data,.data,.data] true _ false
  qL (λ_ h=>by cases h) (by kernel_rfl) (λ_ h=>by cases h) sorterPlays_row_tie rfl ⟨rfl,rfl⟩ (by kernel_rfl) rfl
  (λf fn d b=>by
   obtain rfl:f=5:=OE ((show N5.funcNamed "fathom/fathomlaw08.SorterPlays"=some 5 by kernel_rfl).symm.trans d) |>.symm;obtain rfl:fn=Rf:=(OE (Ut.symm.trans b)).symm;exact⟨by kernel_rfl,λj t c=>by
    rw[T2] at c;have hm:t∈[DT,gh,ib]:=by simpa using Array.mem_of_getElem? c
    have a:([DT,gh,ib].all λu=>!N5.wantsStandIn u)=true:=by kernel_rfl
    exact(show N5.wantsStandIn t=false by simpa using Pb.1 a t hm)⟩)
  (by kernel_rfl)
#print axioms sorterPlays_holds
end Go.Proofs.YtmkbhnholcaghaaGreatDoor
