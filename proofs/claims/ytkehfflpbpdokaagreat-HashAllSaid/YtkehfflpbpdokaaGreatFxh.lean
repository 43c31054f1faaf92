/-
 Ground, eighth text: from a contract said of the heap to the given statement on a law; the arguments' readings.
-/
import Derived.Test.YtkehfflpbpdokaaGreatFxg
import Derived.ProofKit
namespace Go.Proofs.YtkehfflpbpdokaaGreat
open Go.RowKit Go.WideShapes Go.ChangeShapes Go.WideElems
section
variable {H : Type} {enc : TypeId × Value → H} {P : Program}
theorem below_of_ext {W W' : World} (he : Ext W.heap W'.heap) (ha : Alike W W') : Below W.heap.size W { W' with tape := W.tape } :=
 ⟨ha.os, rfl, ha.output, he.size, fun k hk => he.same k hk id⟩
theorem trodAll_ext (hl : laidOutB P = true) {W W' : World} (he : Ext W.heap W'.heap) (ha : Alike W W') {sp : Nat → Bool} : ∀ {ts : List TypeId} {vs : List Value} {ds : List (DataW H)} {ps : List MemPlace},
  (∀ t ∈ ts, P.readableRec t = true ∧ t < P.types.size) → DataW.TrodAll enc P W 0 (fun _ => true) true ts vs ds ps → (∀ p ∈ ps, p.block < W.heap.size) → (∀ p ∈ ps, sp p.block = true) → DataW.TrodAll enc P W' 0 sp true ts vs ds ps
 | [], [], [], ps, _, h, _, _ => h
 | t :: ts, v :: vs, d :: ds, ps, hr, h, hlt, hsp => by
   obtain ⟨p, q, h1, h2, rfl⟩ := h
   have hb := below_of_ext he ha
   refine ⟨p, q, Trod_stays hl (hr t List.mem_cons_self).1 (hr t List.mem_cons_self).2 h1 (fun x hx => ?_) (fun x hx => hsp x (List.mem_append_left _ hx)), trodAll_ext hl he ha (fun t' ht' => hr t' (List.mem_cons_of_mem _ ht')) h2 (fun x hx => hlt x (List.mem_append_right _ hx)) (fun x hx => hsp x (List.mem_append_right _ hx)), rfl⟩
   exact hb.same (hlt x (List.mem_append_left _ hx))
 | [], _ :: _, _, _, _, h, _, _ => h.elim
 | [], [], _ :: _, _, _, h, _, _ => h.elim
 | _ :: _, [], _, _, _, h, _, _ => h.elim
 | _ :: _, _ :: _, [], _, _, h, _, _ => h.elim
theorem law_post {f : Func} {s : ChangeSpec} {apart fresh handsOn again : Bool} {W W' : World} {args : Array Value} {ds gs : List (DataW H)} {before : List MemPlace} {tb : TypeId}
  (hl : laidOutB P = true) (hr : ∀ t ∈ f.params.toList, P.readableRec t = true ∧ t < P.types.size) (hrt : f.resultTypes = #[tb]) (htb : P.underlying tb = some .bool) (hvs : s.vars = [])
  (hres : (s.fn H (ds ++ gs)).results = [.lit (.bool true)]) (hargs : (s.fn H (ds ++ gs)).args = ds) (hvars : (s.fn H (ds ++ gs)).vars = [])
  (hW : DataW.Whole enc P f.params.toList s.vars apart W args.toList ds gs before) (he : Ext W.heap W'.heap) (ha : Alike W W') :
  s.post enc P f apart fresh handsOn again W args (.bool true) W' := by
 have hb := below_of_ext he ha
 obtain ⟨p, q, hA, hV, hpq, hfz, hnd⟩ := id hW
 rw [hvs] at hV
 have hq : q = [] := by
  cases gs with
  | nil => exact hV
  | cons g r => exact hV.elim
 subst hq
 rw [List.append_nil] at hpq
 have hlt : ∀ x ∈ before, x.block < W.heap.size := fun x hx => hW.lt x hx
 have hold : ∀ x ∈ before, (fun b => decide (b < W.heap.size)) x.block = true := fun x hx => by simpa using hlt x hx
 have hresult : ∀ (b : Nat) (sp : Nat → Bool) (hd : Bool), DataW.TrodAll enc P W' b sp hd f.resultTypes.toList ((Value.bool true).resultList f.resultTypes.size) (s.fn H (ds ++ gs)).results [] := by
  intro b sp hd
  rw [hres, hrt]
  exact trodAll_mk1 (shut_bool htb true)
 have hargsT : ∀ sp : Nat → Bool, (∀ x ∈ before, sp x.block = true) → DataW.TrodAll enc P W' 0 sp true f.params.toList args.toList (s.fn H (ds ++ gs)).args before := by
  intro sp hsp
  rw [hargs, hpq]
  exact trodAll_ext hl he ha hr hA (fun x hx => hlt x (by rw [hpq]; exact hx)) (fun x hx => hsp x (by rw [hpq]; exact hx))
 have hvarsT : ∀ sp : Nat → Bool, DataW.TrodVars enc P W' sp s.vars (s.fn H (ds ++ gs)).vars [] := by
  intro sp; rw [hvars, hvs]; rfl
 refine ⟨ds, gs, before, [], before, [], hW, hresult _ _ _, hargsT _ hold, hvarsT _, World.keptBut_mono (fun x hx => ⟨hx, Or.inr (by simpa using hx)⟩) (hb.frame (· ∈ before)), fun _ => ?_⟩
 refine ⟨ok_one hrt rfl (okWide_bool_mk htb _), _, _, ([] ++ before) ++ [], ⟨[] ++ before, [], trodAll_append (hargsT _ (fun _ _ => rfl)) (hresult _ _ _), hvarsT _, rfl, ?_, ?_⟩, ?_⟩
 ·intro b off hp
  have hin : MemPlace.cell b off ∈ before := by simpa using hp
  have := hb.frozen (p := ⟨b, off, none⟩) (hlt _ hin)
  exact this.trans (hfz b off hin)
 ·intro ha'
  simpa using hnd ha'
 ·intro x hx _
  simpa using hx
end
end Go.Proofs.YtkehfflpbpdokaaGreat
