/-
 SorterKnown: the law returns true; the tables are laid as the program's text lays them. No condition beside that.
-/
import Derived.Test.YtmkbhnholcaghaaGreatDoorJ8
open Go.ChangeSpec renaming witness_shaped->ZJ
open Go.OpenClaim renaming holds_of_wide->Z0
open Go.Proofs.Tryz renaming prog->QH,f7->UZ,checked->WE,func7->Xf,params7->Yi
open Option.some renaming inj->Rc
namespace Go.Proofs.YtmkbhnholcaghaaGreatDoor
section
open Go.ChangeShapes Go.WideShapes Go.ChangeAt Go.RowKit
set_option maxRecDepth 100000 in
theorem oT (os:Os)(started:os.Started)(H:Type)(enc:TypeId×Value->H):
  ReturnsInHanded {} WE os 7 .any (λw args=>(Rows.sorterKnownSpec.pre enc QH UZ [] false w args/\laidMetH QH Ak w)/\sizedMet enc QH UZ (OpenSpec.ofChange Rows.sorterKnownSpec) false w args)
   (Rows.sorterKnownSpec.post enc QH UZ false true false false):=by
 refine returnsInHanded_of_change_and (C:=WE) (X:=λw _=>laidMetH QH Ak w) (λ_ _ _ l h=>h.of_heap l) DI started (by kernel_rfl) Xf
  (ZJ (enc:=enc) (C:=WE) (os:=os) (X:=λw _=>laidMetH QH Ak w) false (World.doorLaid QH 400 os) #[] 8 rfl (World.shaped_of_RefB (by kernel_rfl) (by kernel_rfl)) (by kernel_rfl) (by kernel_rfl) (by kernel_rfl) (HP os _)) ?_
 intro W base args ds gs before d j _ u m _;have f:=j;obtain⟨p,q,g,n,rfl,o,r⟩:=j;have k:DataW.TrodAll enc QH W 0 (λ_=>true) true UZ.params.toList args.toList ds p:=g;rw[Yi] at k;obtain⟨rfl,rfl,rfl⟩:=trodAll_none k;obtain⟨rfl,rfl⟩:=trodVars_none n;have a:=uD (H:=W.heap) (R:=λb H'=>b=true/\Ext W.heap H') (Cd m) (λH' e=>⟨rfl,e⟩);refine(a W rfl).mono λe y ⟨v,he,⟨x,s,t,c⟩,i⟩=>?_;subst he;subst s;subst t;exact⟨_,rfl,Hw uY (by decide+kernel) rfl (by kernel_rfl) rfl rfl rfl rfl f c i⟩
theorem sN:Rows.SorterKnownSaid:=
 Z0 7 UZ rfl rfl rfl rfl rfl rfl rfl ⟨rfl,rfl,rfl,rfl,rfl⟩ rfl rfl rfl rfl rfl (by kernel_rfl) Xf (by kernel_rfl)
  (of_decide_eq_true (by kernel_rfl)) (by unfold Func.isWrapper;first|(rw[if_pos (by decide+kernel)];kernel_rfl)|(rw[if_neg (by decide+kernel)];exact⟨rfl,rfl⟩))
  (λos started H enc _=>oT os started H enc)
theorem sorterKnown_holds:Rows.SorterKnownCardSaid:=
 Claim7.holds_tied_plain_at .later [] [.data,.data,.data,.data] true _ false
  sN (λ_ h=>by cases h) (by kernel_rfl) (λ_ h=>by cases h) sorterKnown_row_tie rfl ⟨rfl,rfl⟩ (by kernel_rfl) rfl
  (λf fn c a=>by
   obtain rfl:f=7:=Rc ((show QH.funcNamed "fathom/fathomlaw08.SorterKnown"=some 7 by kernel_rfl).symm.trans c) |>.symm;obtain rfl:fn=UZ:=(Rc (Xf.symm.trans a)).symm;exact⟨by kernel_rfl,λj t b=>by
    rw[Yi] at b;simp at b⟩)
  (by kernel_rfl)
#print axioms sorterKnown_holds
end
