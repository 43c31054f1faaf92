/-
 The pool: a file's frames, rising: the values of a map, those that are wanted, sorted.
-/
import Derived.Lib.SliceRun
import Derived.Test.YtdpdmbceakdlmaaGreatDoorVc
import Derived.Test.YtdpdmbceakdlmaaGreatDoorFxg
import Derived.Test.YtdpdmbceakdlmaaGreatDoorFxj
import Derived.Test.YtdpdmbceakdlmaaGreatDoorJ30
import Derived.Test.YtdpdmbceakdlmaaGreatDoorFxq
import Derived.Test.YtdpdmbceakdlmaaGreatDoorLay
namespace Go.Proofs.YtdpdmbceakdlmaaGreatDoor
open Go.MapKept
def fM:eC Nat:=⟨1,fun p=>[cP p],fun _=>rfl,fun x u hu=>by simp at hu;subst hu;rfl⟩
theorem oS (l:List Nat):fM.all l=l.map cP:=by
 induction l with
 |nil=>rfl
 |cons x l ih=>
   have:fM.all (x::l)=cP x::fM.all l:=rfl
   rw[this,ih];rfl
theorem FO:sN Tryz.prog yr rq fM.size 8:=gW (by kernel_rfl)
def uW (e:MapEntry):Nat:=match e.val with|.pointer (some a)=>a.block|_=>0
theorem qh {l cap:Nat} {x:PG} {H:Heap} {K:Unit→Heap→Prop} (I:List MapEntry→Heap→Prop) (hF:aF H x) (hcap:ai H cap uM #[.map (some x.mf)])
  (h0:∀A,Mod (fun _=>False) H A→I [] A) (hfr:∀l A A',I l A→Mod (fun b=>b=H.size) A A'→A'.size=A.size→I l A')
  (hs:∀ls e q A,I ls A→e∈x.ef.toList→e.val=cP q→(∀y∈ls,y∈x.ef.toList)→ls.Nodup→e∉ls→A[x.mf]?=some (.map x.ef x.cf)→H.size<A.size→bU Tryz.prog l #[cP q] A fun b A'=>b=true∧I (ls++[e]) A'∧A'[x.mf]?=A[x.mf]?∧A'[H.size]?=A[H.size]?)
  (hfin:∀ls A,I ls A→ls.Perm x.ef.toList→K () A):Ad.sp l ⟨cap,0,none⟩ H K:=by
 refine Ad.of ?_
 unfold Ad.vc
 have:=hcap.ld (c:=bX) (i:=0) (x:=some x.mf) rfl (K:=fun x=>bu al Tryz.prog (Instr.range uM (.map x)) H fun(it:Option Addr) H1=>aC Unit () H1 fun next _ H2=>bu eS Tryz.prog (Instr.next (.pointer it) false yK) H2 fun(nx:Bool×List Value) H3=>br nx.1 (bu lL Tryz.prog (Instr.entry (.pointer it)) H3 fun(en:Value×Value) H4=>Cy al en.2 fun(v:Option Addr)=>bU Tryz.prog l #[(.pointer v)] H4 fun(b:Bool) H5=>br (!b) (K () H5) (next () H5)) (K () H3))
 refine this ?_
 obtain⟨et,inf,hu,_,_⟩:=j9
 refine kY hu hF.fmap fun H1 hit e1=>?_
 have hit1:H.size<H1.size:=az hit
 have hF1:aF H1 x:=hF.keep fun b _ hl=>e1.same b hl id
 refine kR (it:=H.size) (fun ls _ A=>I ls A∧H.size<A.size) hF1.fmap hit ⟨h0 H1 e1,hit1⟩ (fun l x A A' h m s=>⟨hfr l A A' h.1 m s,by omega⟩) ?_ (fun ls x A h hp _=>hfin ls A h.1 hp)
 rintro ls e ⟨⟩ A next ⟨hI,hlt⟩ he hel hsub hnd hr hito hnext
 obtain⟨z,hz,_,hv⟩:=hF.entry he
 refine⟨ay z.2.p,by rw[hv];rfl,?_⟩
 refine(hs ls e z.2.p A hI he hv hsub hnd hel hr hlt).mono fun b A' hb=>?_
 obtain⟨rfl,h1,h2,h3⟩:=hb
 refine ar rfl (hnext () A' ⟨h1,?_⟩ h2 h3)
 obtain⟨o,ho⟩:=hito
 rw[←h3] at ho
 exact az ho
theorem nO {cap:Nat} {x:PG} {H:Heap} {K:Sl→Heap→Prop} (hF:aF H x) (hcap:ai H cap uM #[.map (some x.mf)]) (hlen:x.ef.size≤1048576)
  (hK:∀(s:Sl) (ls:List MapEntry) (H':Heap),aG fM rq H' s (ls.map uW)→ls.Perm x.ef.toList→Mod (fun _=>False) H H'→(∀b,aj s b→H.size≤b)→K s H'):
  Ed.sp (Sl.mk none 0 0) (.func (.func Ad.no) #[] #[(.pointer (some ⟨cap,0,none⟩))]) H K:=by
 refine Ed.of ?_
 unfold Ed.vc
 refine au fun H1 s1 r1 m1=>?_
 have hcallable:c7 Tryz.prog Ad.no=true:=by kernel_rfl
 refine⟨_,_,rfl,hcallable,fun rec hround=>?_⟩
 obtain⟨r,hr⟩:∃r,r=H1.size:=⟨_,rfl⟩
 obtain⟨l,hl⟩:∃l,l=H1.size+1:=⟨_,rfl⟩
 obtain⟨p,hp⟩:∃p,p=H.size:=⟨_,rfl⟩
 rw[←hl] at hround ⊢
 rw[←hr]
 rw[←hp] at r1
 rw[←hp] at hround
 rw[←hp]
 obtain⟨HB,hHB⟩:∃HB:Heap,HB=(H1.push (.deferred (some []))).push (.loop (rec .ready none)):=⟨_,rfl⟩
 rw[←hHB]
 have eB:Mod (fun _=>False) H1 HB:=by rw[hHB];exact(Mod.push _ _ _).trans (Mod.push _ _ _)
 have sB:HB.size=H1.size+2:=by rw[hHB];simp
 have lB:HB[l]?=some (.loop (rec .ready none)):=by rw[hHB,hl,Array.getElem?_push,if_pos (by simp)]
 have rB:HB[r]?=some (.deferred (some [])):=by rw[hHB,hr];simp[Array.getElem?_push]
 have pB:ai HB p yr #[(Sl.mk none 0 0).v]:=r1.ext eB
 have FB:aF HB x:=(hF.keep fun b _ hl=>m1.same b hl id).keep fun b _ hl=>eB.same b hl id
 have cB:ai HB cap uM #[.map (some x.mf)]:=(hcap.ext m1).ext eB
 have hml:=hF.fmap.lt
 have hcl:cap<H.size:=az hcap
 let I:List MapEntry→Heap→Prop:=fun ls A=>A[l]?=some (.loop (rec .ready none))∧A[r]?=some (.deferred (some []))∧(∃s,ai A p yr #[s.v]∧aG fM rq A s (ls.map uW)∧(∀b,aj s b→HB.size<b))∧Mod (fun b=>b=p∨b=l∨b=HB.size) HB A
 refine Spec.mono (R:=fun v H'=>∃x:Unit,v=(bd []).enc x∧lf l rec H' _ _ _) (qh (l:=l) (cap:=cap) (x:=x) (H:=HB) (K:=fun _ H'=>lf l rec H' _ _ _) I FB cB ?_ ?_ ?_ ?_) (fun v H' ⟨x,_,h⟩=>h)
 ·intro A hA
  exact⟨hA.at lB id,hA.at rB id,⟨_,pB.ext hA,aG.nil _ _ _,by rintro b ⟨ad,q,_⟩;cases q⟩,Ext.mod hA⟩
 ·rintro ls A A' ⟨i1,i2,⟨s,i3,i4,i5⟩,i6⟩ hA hs
  refine⟨hA.at i1 (by omega),hA.at i2 (by omega),⟨s,i3.mod hA (by omega),i4.keep fun b hb hbl=>hA.same b hbl (by have:=i5 b hb;omega),i5⟩,i6.trans (hA.mono fun b _ e=>.inr (.inr e))⟩
 ·rintro ls e q A ⟨i1,i2,⟨s,i3,i4,i5⟩,i6⟩ he hv hsub hnd hel hmA hAl
  refine hround [cP q] A _ i1 ?_
  show gm (some (ay q)) _
  refine⟨i1,?_⟩
  obtain⟨Ab,hAb⟩:∃Ab:Heap,Ab=A.setIfInBounds l (.loop (rec .busy none)):=⟨_,rfl⟩
  rw[←hAb]
  have mAb:Mod (fun b=>b=l) A Ab:=by rw[hAb];exact Mod.setObj rfl
  have sAb:Ab.size=A.size:=by rw[hAb];simp
  have lAb:Ab[l]?=some (.loop (rec .busy none)):=by rw[hAb];exact fi i1
  have hpl:p≠l:=by omega
  have p1:=i3.mod mAb hpl
  refine p1.ld (c:=aq) (i:=0) (x:=s) rfl ?_
  have tl:∀b,aj s b→b≠l:=fun b hb=>by have:=i5 b hb;omega
  have o1:aG fM rq Ab s (ls.map uW):=i4.keep fun b hb hbl=>mAb.same b hbl (tl b hb)
  have hln:(ls.map uW).length≤1048576:=by
   have:=List.Nodup.length_le_of_subset hnd (l₂:=x.ef.toList) (fun y hy=>hsub y hy)
   simp at this ⊢;omega
  have hne:uW e=q:=by unfold uW;rw[hv];rfl
  refine aG.push (E:=fM) FO (x:=q) o1 rfl (by omega) (by omega) fun s2 A2 o2 g2 _=>?_
  have lp:p<Ab.size:=az p1
  have tp:∀b,aj s b→b≠p:=fun b hb=>by have:=i5 b hb;omega
  have p2:ai A2 p yr #[s.v]:=p1.mod g2.1 (fun hb=>tp _ hb rfl)
  have i6s:=i6.size
  have t2:∀b,aj s2 b→HB.size<b:=fun b hb=>by
   rcases g2.2 b hb with q|q
   ·exact i5 b q
   ·omega
  have p2st:=p2.st (i:=0) (v:=s2.v) (by simp) rfl (K:=fun H5=>H5[l]?=some (.loop (rec .busy none))∧(fun b A'=>b=true∧I (ls++[e]) A'∧A'[x.mf]?=A[x.mf]?∧A'[HB.size]?=A[HB.size]?) true (H5.setIfInBounds l (.loop (rec .ready none))))
  rw[show (Addr.add ⟨p,0,none⟩ 0)=⟨p,0,none⟩ from rfl] at p2st
  refine p2st fun A3 p3 m3 s3=>?_
  have l2:A2[l]?=some (.loop (rec .busy none)):=g2.1.at lAb (fun hb=>tl _ hb rfl)
  have l3:A3[l]?=some (.loop (rec .busy none)):=m3.at l2 (by omega)
  have m4:Mod (fun b=>b=l) A3 (A3.setIfInBounds l (.loop (rec .ready none))):=Mod.setObj rfl
  have z2:=g2.1.size
  refine⟨l3,rfl,⟨fi l3,?_,⟨s2,?_,?_,t2⟩,?_⟩,?_,?_⟩
  ·exact m4.at (m3.at (g2.1.at (mAb.at i2 (by omega)) (fun hb=>by have:=i5 _ hb;omega)) (by omega)) (by omega)
  ·exact ai.mod (show ai A3 p yr #[s2.v] from p3) m4 hpl
  ·rw[List.map_append,List.map_cons,List.map_nil,hne]
   refine o2.keep fun b hb hbl=>?_
   have:=t2 b hb
   exact(m4.same b (by omega) (by omega)).trans (m3.same b hbl (by omega))
  ·refine i6.trans' (G:=fun b=>(b=l∨aj s b)∨b=p) ?_ ?_
   ·exact(((mAb.mono fun b _ e=>.inl (.inl e)).trans (g2.1.mono fun b _ e=>.inl (.inr e))).trans (m3.mono fun b _ e=>.inr e)).trans (m4.mono fun b _ e=>.inl (.inl e))
   ·rintro b hb ((e|e)|e)
    ·exact .inr (.inl e)
    ·have:=i5 b e;omega
    ·exact .inl e
  ·have hmAl:=az hmA
   exact(m4.same _ (by omega) (by omega)).trans ((m3.same _ (by omega) (by omega)).trans ((g2.1.same _ (by omega) (fun hb=>by have:=i5 _ hb;omega)).trans (mAb.same _ hmAl (by omega))))
  ·exact(m4.same _ (by omega) (by omega)).trans ((m3.same _ (by omega) (by omega)).trans ((g2.1.same _ (by omega) (fun hb=>by have:=i5 _ hb;omega)).trans (mAb.same _ (by omega) (by omega))))
 ·rintro ls A ⟨i1,i2,⟨s,i3,i4,i5⟩,i6⟩ hperm
  refine⟨.ready,none,i1,rfl,?_⟩
  show ld aq _ _ _
  have m4:Mod (fun b=>b=l) A (A.setIfInBounds l (.loop (rec .exhausted none))):=Mod.setObj rfl
  have p4:=i3.mod m4 (by omega)
  refine p4.ld (c:=aq) (i:=0) (x:=s) rfl ?_
  have r4:=m4.at i2 (by omega)
  refine⟨r4,?_⟩
  have m5:Mod (fun b=>b=r) (A.setIfInBounds l (.loop (rec .exhausted none))) ((A.setIfInBounds l (.loop (rec .exhausted none))).setIfInBounds r (.deferred none)):=Mod.setObj rfl
  have z6:=i6.size
  have z4:=m4.size
  refine hK s ls _ ?_ hperm ?_ (fun b hb=>by have:=i5 b hb;omega)
  ·refine i4.keep fun b hb hbl=>?_
   have:=i5 b hb
   exact(m5.same b (by omega) (by omega)).trans (m4.same b hbl (by omega))
  ·have z5:=m5.size
   refine⟨by omega,fun b hb _=>(m5.same b (by omega) (by omega)).trans ((m4.same b (by omega) (by omega)).trans ((i6.same b (by omega) (by omega)).trans ((eB.same b (by omega) id).trans (m1.same b hb id))))⟩
theorem vJ {H:Heap} {s:Sl} {ps:List Nat} (h:aG fM rq H s ps) {i:Nat} {q:Nat} (hi:ps[i]?=some q) {z:Int} (hz:z=(i:Int)) {K:Addr→Option Addr→Prop} (hK:∀ad,s.a=some ad→K ad (ay q)):
  ab s.a fun a=>(0≤z∧z<(s.n:Int))∧ld al H (a.add (z.toNat*1)) fun v=>K a v:=by
 subst hz
 have hil:=(List.getElem?_eq_some_iff.1 hi).1
 have hn:=h.n (by decide)
 obtain⟨ad,ha⟩:=cL.addr h.rd (by decide) (by omega)
 refine c6 ad ha ⟨⟨by omega,by omega⟩,?_⟩
 have:=cL.ld (E:=fM) (c:=al) (y:=ay q) h.rd ha hi (j:=0) rfl (n:=i*1) rfl (hK ad ha)
 rw[show (Addr.add (Addr.add ad (i*1)) 0)=Addr.add ad (i*1) from rfl] at this
 rw[Int.toNat_natCast];exact this
structure Kept (H:Heap) (cap:Nat) (n:ByteArray) (ps:List Nat) (sel:Nat→Bool):Prop where
 cap:ai H cap gu #[.string n]
 fr:∀q∈ps,∃g f,dC H g f∧g.p=q∧sel q=(f.name.toList==n.toList)
theorem Ba {H:Heap} {cap q:Nat} {n:ByteArray} {ps:List Nat} {sel:Nat→Bool} {K:Bool→Heap→Prop} (h:Kept H cap n ps sel) (hq:q∈ps) (hK:K (!sel q) H):yS.sp (ay q) ⟨cap,0,none⟩ H K:=by
 refine yS.of ?_
 unfold yS.vc
 simp only[ak,add_add,Nat.reduceAdd]
 obtain⟨g,f,hA,rfl,hs⟩:=h.fr q hq
 refine hA.row.ld (c:=aR) (i:=0) (x:=f.name) rfl ?_
 have:=h.cap.ld (c:=aR) (i:=0) (x:=n) rfl (K:=fun(x_1:ByteArray)=>K (!(f.name.toList==x_1.toList)) H)
 rw[show (Addr.add ⟨cap,0,none⟩ 0)=⟨cap,0,none⟩ from rfl] at this
 refine this ?_
 rw[←hs];exact hK
theorem vF {H:Heap} {cap:Nat} {n:ByteArray} {s:Sl} {ps:List Nat} {sel:Nat→Bool} {K:Int→Heap→Prop} (h:aG fM rq H s ps) (hk:Kept H cap n ps sel) (hl:ps.length≤1048576)
  (hN:ps.filter sel=ps→K (-1) H) (hF:∀i,i<ps.length→(ps.take i).filter sel=ps.take i→(∃q,ps[i]?=some q∧sel q=false)→K (i:Int) H):DO.sp s ⟨cap,0,none⟩ H K:=by
 refine DO.of ?_
 unfold DO.vc
 have hn:=h.n (by decide)
 refine aw ps.length (fun k x H1=>H=H1∧x=(k:Int)∧(ps.take k).filter sel=ps.take k) ⟨rfl,rfl,by simp⟩ ?_
 rintro k _ _ next hk' ⟨rfl,rfl,hf⟩ hnext
 refine ag (fun hc=>?_) (fun hc=>?_)
 ·have hlt:k<ps.length:=by rw[hn] at hc;simpa using hc
  have hq:ps[k]?=some ps[k]:=List.getElem?_eq_getElem hlt
  refine vJ h hq rfl fun ad ha=>?_
  refine Ba hk (List.getElem_mem hlt) ?_
  cases hs:sel ps[k] with
  |false=>exact aU rfl (hF k hlt hf ⟨_,hq,hs⟩)
  |true=>
    refine ar rfl (hnext hlt _ _ ⟨rfl,aK k (by omega),?_⟩)
    rw[List.take_succ_eq_append_getElem hlt,List.filter_append,hf]
    simp[hs]
 ·have hge:k=ps.length:=by rw[hn] at hc;simp at hc;omega
  rw[hge,List.take_of_length_le (Nat.le_refl _)] at hf
  exact hN hf
theorem sI {P:Program} {w:World} {g o:Nat} {t:TypeId} {vs:List Value} {cur:Array Value} (hg:w.heap[g]?=some (.cells cur t (0,0))) (hfit:o+vs.length≤cur.size) (h1:∀v∈vs,v.oneCell'=true):
  w.setCells g o vs=w.setRow g (cur.toList.take o++vs++cur.toList.drop (o+vs.length)).toArray:=by
 have a:=run_storeCells_cells (P:=P) g o vs 0 w (fun j hj=>by simp[World.cell?,hg];omega) (fun j hj=>by simp[World.frozen?,hg]) h1
 have b:=run_storeCells_at P g o t vs 0 cur w hg (by simpa using hfit) h1
 simp only[Nat.add_zero] at a b
 rw[a] at b
 simpa using b
theorem Dr:∀w:World,(zeroValue rq).run Tryz.prog w=.ok (.pointer none) w:=Tryz.zeroValue126
theorem Fh:Tryz.prog.underlying yr=some (.slice rq):=by kernel_rfl
theorem xl {H:Heap} {s:Sl} {ps:List Nat} {lo:Nat} {ty:TypeId} {K:Value→Heap→Prop} (h:aG fM rq H s ps) (hlo:lo<ps.length)
  (hK:∀v H',aG fM rq H' (Sl.mk s.a lo s.c) (ps.take lo)→Mod (aj s) H H'→K v H'):
  bu iL Tryz.prog (Builtin.clear_ #[yr] ty #[(.slice (eQ s.a s.c lo 1) (s.n - lo) (s.c - lo))]) H K:=by
 intro w hw
 subst hw
 have hn:=h.n (by decide)
 rcases h.2 with ⟨e1,e2⟩|⟨g,cap,cur,e1,hb,hg,h4,h5,h6,h7⟩
 ·omega
 ·cases s with
  |mk sa sn sc=>
  simp only[Sl.v,Value.slice.injEq] at e1
  obtain⟨rfl,_,rfl⟩:=e1
  simp only at hn h4 h7 hK ⊢
  have hE1:fM.size=1:=rfl
  rw[hE1,Nat.mul_one] at h6 h7
  have ea:eQ (some ⟨g,0,none⟩) sc lo 1=some ⟨g,lo,none⟩:=by
   unfold eQ
   rw[if_neg (by omega)]
   simp[aW]
  rw[ea]
  have hr:=Lib.run_clear_slice (P:=Tryz.prog) w yr rq ty (.pointer none) Fh Dr rfl rfl g lo (sn - lo) (sc - lo) (by omega) (fun j hj=>by simp[World.cell?,hg];omega) (fun j hj=>by simp[World.frozen?,hg])
  rw[sI (P:=Tryz.prog) hg (by simp;omega) (by intro v hv;rw[List.eq_of_mem_replicate hv];rfl)] at hr
  have hown:∀k,aj (Sl.mk (some ⟨g,0,none⟩) sn sc) k↔k=g:=fun k=>⟨fun⟨ad,h1,h2⟩=>by cases h1;exact h2.symm,fun h=>⟨_,rfl,h.symm⟩⟩
  refine⟨_,_,hr,⟨_,rfl,hK _ _ ?_ ⟨by simp[World.setRow],fun k _ hk=>setRow_other w g k _ (fun e=>hk ((hown k).2 e))⟩⟩,⟨rfl,Nat.le_refl _⟩⟩
  refine⟨by rw[oS];simp[hE1];omega,.inr ⟨g,sc,_,rfl,Nat.zero_le _,setRow_heap w g cur _ _ _ hg,by simp only;omega,h5,?_,?_⟩⟩
  ·simp only[hE1,Nat.mul_one,List.size_toArray,List.length_append,List.length_take,List.length_replicate,List.length_drop,Array.length_toList]
   omega
  ·simp only[hE1,Nat.mul_one]
   rw[List.append_assoc,List.take_append_of_le_length (by simp;omega),List.take_take,Nat.min_self]
   have e1:fM.all (ps.take lo)=(fM.all ps).take lo:=by rw[oS,oS,List.map_take]
   rw[e1,←h7,List.take_take,Nat.min_eq_left (by omega)]
theorem xh {H:Heap} {cap:Nat} {n:ByteArray} {s:Sl} {ps:List Nat} {sel:Nat→Bool} {K:Sl→Heap→Prop} (h:aG fM rq H s ps) (hk:Kept H cap n ps sel) (hl:ps.length≤1048576) (hcap:∀b,aj s b→b≠cap)
  (hK:∀s' H',aG fM rq H' s' (ps.filter sel)→Mod (aj s) H H'→(∀b,aj s' b→aj s b)→K s' H'):DQ.sp s ⟨cap,0,none⟩ H K:=by
 refine DQ.of ?_
 unfold DQ.vc
 have hn:=h.n (by decide)
 have hcp:=aN.cap h
 refine vF h hk hl (fun hall=>aU rfl (hK s H (by rw[hall];exact h) (.refl _ _) fun _ q=>q)) (fun i hi hpre hno=>?_)
 refine ar (by simp) ?_
 -- the frames' own blocks are not the slice's
 have hsep:∀q∈ps,¬aj s q:=by
  intro q hq hb
  obtain⟨c,e⟩:=h.obj q hb
  obtain⟨g,f,hA,rfl,_⟩:=hk.fr q hq
  exact absurd (aL hA.row e) (by decide)
 have keepK:∀{A:Heap},Mod (aj s) H A→(∀q∈ps,∃g f,dC H g f∧g.p=q∧sel q=(f.name.toList==n.toList))→Kept A cap n ps sel:=by
  intro A hM _
  refine⟨hM.at hk.cap fun q=>hcap cap q rfl,fun q hq=>?_⟩
  obtain⟨g,f,hA,e1,e2⟩:=hk.fr q hq
  refine⟨g,f,hA.keep fun b hb hl=>hM.same b hl fun q2=>?_,e1,e2⟩
  obtain⟨c,e⟩:=h.obj b q2
  obtain⟨cs,t,e3,ht⟩:=hA.obj b hb
  have:=aL e e3
  rw[←this] at ht
  exact absurd ht (by decide)
 obtain⟨q0,hq0,hs0⟩:=hno
 have hw0:IntKind.i64.wrap ((i:Int)+1)=((i+1:Nat):Int):=aK i (by omega)
 rw[hw0]
 refine⟨Nat×Nat×List Nat,fun t z A=>z=((t.1:Int),(t.2.1:Int))∧aG fM rq A s t.2.2∧t.2.2.length=ps.length∧t.2.2.take t.1=(ps.take t.2.1).filter sel∧t.2.2.drop t.2.1=ps.drop t.2.1∧t.1<t.2.1∧t.2.1≤ps.length∧Mod (aj s) H A,fun t=>ps.length - t.2.1,⟨(i,i+1,ps),rfl,h,rfl,?_,rfl,Nat.lt_succ_self _,hi,.refl _ _⟩,?_⟩
 ·show ps.take i=(ps.take (i+1)).filter sel
  have hq:ps[i]=q0:=by rw[List.getElem?_eq_getElem hi] at hq0;exact Option.some.inj hq0
  rw[List.take_succ_eq_append_getElem hi,List.filter_append,hpre,hq]
  simp[hs0]
 ·rintro⟨a,j,cur⟩ z A ⟨rfl,o,hlen,htk,hdr,haj,hj,hM⟩
  simp only at o hlen htk hdr haj hj ⊢
  have hkA:=keepK hM hk.fr
  refine ag (fun hc=>?_) (fun hc=>?_)
  ·have hjl:j<ps.length:=by rw[hn] at hc;simp at hc;omega
   have hcj:cur[j]?=some ps[j]:=by
    have e1:(cur.drop j)[0]?=(ps.drop j)[0]?:=by rw[hdr]
    rw[List.getElem?_drop,List.getElem?_drop,Nat.add_zero,List.getElem?_eq_getElem hjl] at e1
    exact e1
   refine vJ o hcj rfl fun ad ha=>?_
   refine Ba hkA (List.getElem_mem hjl) ?_
   have hwj:IntKind.i64.wrap ((j:Int)+1)=((j+1:Nat):Int):=aK j (by omega)
   have hdr':∀l:List Nat,l.drop j=ps.drop j→l.drop (j+1)=ps.drop (j+1):=by
    intro l e
    have:(l.drop j).drop 1=(ps.drop j).drop 1:=by rw[e]
    rwa [List.drop_drop,List.drop_drop] at this
   cases hs:sel ps[j] with
   |false=>
     refine ar rfl ⟨(a,j+1,cur),⟨by rw[hwj],o,hlen,?_,hdr' cur hdr,by simp only;omega,hjl,hM⟩,by simp only;omega⟩
     simp only
     rw[List.take_succ_eq_append_getElem hjl,List.filter_append,htk]
     simp[hs]
   |true=>
     refine aU rfl ?_
     rw[ha]
     refine⟨⟨by omega,by omega⟩,?_⟩
     have hal:a<cur.length:=by omega
     have hca:cur[a]?=some cur[a]:=List.getElem?_eq_getElem hal
     rw[Int.toNat_natCast]
     show st A (Addr.add (Addr.add ad (a*1)) 0) (cP ps[j]) _
     refine aG.st (i:=a) (j:=0) (x:=cur[a]) (y:=ps[j]) o ha hca (by decide) rfl rfl rfl fun A' o' m' z'=>?_
     have hwa:IntKind.i64.wrap ((a:Int)+1)=((a+1:Nat):Int):=aK a (by omega)
     refine⟨(a+1,j+1,cur.set a ps[j]),⟨by rw[hwa,hwj],o',by simp[hlen],?_,?_,by simp only;omega,hjl,hM.trans m'⟩,by simp only;omega⟩
     ·simp only
      rw[List.take_succ_eq_append_getElem hjl,List.filter_append,←htk,List.take_succ_eq_append_getElem (by simp;omega),List.take_set_of_le (Nat.le_refl _)]
      simp[hs]
     ·simp only
      rw[List.drop_set_of_lt (by omega)]
      exact hdr' cur hdr
  ·have hje:j=ps.length:=by rw[hn] at hc;simp at hc;omega
   subst hje
   rw[List.take_of_length_le (Nat.le_refl _)] at htk
   refine⟨⟨by omega,by omega⟩,?_⟩
   rw[Int.toNat_natCast]
   refine xl o (by omega) fun v A' o' m'=>⟨⟨by omega,by omega⟩,?_⟩
   rw[jw,Nat.sub_zero,Nat.sub_zero]
   rw[htk] at o'
   exact hK _ A' o' (hM.trans m') fun b q=>q
open Go.MapKept Go.Shelf Go.Sort
def PG.of (x:PG) (n:ByteArray):List FZ:=(x.zs.filter fun z=>z.1.name.toList==n.toList).mergeSort fun a b=>decide (a.1.page≤b.1.page)
theorem PG.jG {x:PG} {n:ByteArray} {z:FZ}:z∈x.of n↔z∈x.zs∧z.1.name=n:=by
 unfold PG.of
 rw[List.mem_mergeSort,List.mem_filter]
 constructor
 ·rintro⟨h1,h2⟩;exact⟨h1,gS (by simpa using h2)⟩
 ·rintro⟨h1,h2⟩;exact⟨h1,by rw[h2];simp⟩
theorem ks {l r:List Nat} (h:l.Perm r) (hl:l.Pairwise (·≤·)) (hr:r.Pairwise (·≤·)):l=r:=
 List.Perm.eq_of_pairwise (le:=(·≤·)) (fun a b _ _ h1 h2=>Nat.le_antisymm h1 h2) hl hr h
theorem PG.qB (x:PG) (n:ByteArray):(x.of n).Pairwise fun a b=>a.1.page≤b.1.page:=by
 unfold PG.of
 have:=List.pairwise_mergeSort (le:=fun a b:FZ=>decide (a.1.page≤b.1.page)) (fun _ _ _ h1 h2=>by simp at*;omega) (fun _ _=>by simp;omega) (x.zs.filter fun z=>z.1.name.toList==n.toList)
 exact this.imp fun h=>by simpa using h
theorem PG.zn {x:PG} {s:Pl} (h:s.fs=x.fs) (n:ByteArray):(x.of n).map (fun z=>z.1.page)=s.aO n:=by
 refine ks ?_ ?_ ?_
 ·unfold Pl.aO PG.of
  rw[h]
  unfold PG.fs
  refine((List.mergeSort_perm _ _).map _).trans (List.Perm.trans ?_ (List.mergeSort_perm _ _).symm)
  rw[List.filter_map,List.map_map]
  exact List.Perm.refl _
 ·rw[List.pairwise_map];exact x.qB n
 ·unfold Pl.aO
  have:=List.pairwise_mergeSort (le:=fun a b:Nat=>decide (a≤b)) (fun _ _ _ h1 h2=>by simp at*;omega) (fun _ _=>by simp;omega) ((s.fs.filter fun f=>f.name.toList==n.toList).map (·.page))
  exact this.imp fun h=>by simpa using h
theorem lz {α β:Type} (f:α→β) {l:List α} (h:(l.map f).Nodup):l.Nodup:=by
 unfold List.Nodup at*
 rw[List.pairwise_map] at h
 exact h.imp fun hne e=>hne (by rw[e])
theorem ri {α β:Type} {f:α→β}:∀{l:List β},(∀b∈l,∃a,f a=b)→∃r:List α,r.map f=l
 |[],_=>⟨[],rfl⟩
 |b::l,h=>by
   obtain⟨a,ha⟩:=h b List.mem_cons_self
   obtain⟨r,hr⟩:=ri (l:=l) fun c hc=>h c (List.mem_cons_of_mem _ hc)
   exact⟨a::r,by rw[List.map_cons,ha,hr]⟩
theorem Bi {H:Heap} {za zb:FZ} (ha:dC H za.2 za.1) (hb:dC H zb.2 zb.1) (h1:za.1.page<1048577) (h2:zb.1.page<1048577):
  Spec Tryz.prog yM.no #[cP za.2.p,cP zb.2.p] H fun v H'=>v=.int .i64 ((za.1.page:Int) - (zb.1.page:Int))∧Mod (fun _=>False) H H':=by
 have:=yM.of (a:=ay za.2.p) (b:=ay zb.2.p) (H:=H) (R:=fun r H'=>r=(za.1.page:Int) - (zb.1.page:Int)∧Mod (fun _=>False) H H') (by
  unfold yM.vc
  simp only[ak,add_add,Nat.reduceAdd]
  refine ha.row.ld (c:=aa .i64) (i:=1) (x:=(za.1.page:Int)) rfl ?_
  refine hb.row.ld (c:=aa .i64) (i:=1) (x:=(zb.1.page:Int)) rfl ?_
  exact⟨wrap64 (by omega) (by omega),.refl _ _⟩)
 refine Spec.mono this fun v H' ⟨x,hx,h3,h4⟩=>?_
 subst hx
 exact⟨by rw[h3],h4⟩
theorem yp:∀args w,(callFunc yM.no args).run Tryz.prog w=.ok (.enter yM.no args) w:=enters_of Tryz.func153 (by kernel_rfl) rfl
theorem FX {x:PG} {H:Heap} {p dp:Nat} {s:Pl} {n:ByteArray} {K:Sl→Heap→Prop} (h:bm x H p dp s)
  (hK:∀sl H',aG fM rq H' sl ((x.of n).map fun z=>z.2.p)→Ext H H'→(∀b,aj sl b→H.size≤b)→K sl H'):Dy.sp (ay p) n H K:=by
 refine Dy.of ?_
 unfold Dy.vc
 simp only[ak]
 refine au fun H1 s1 r1 e1=>?_
 have h1:bm x H1 p dp s:=h.keep fun b _ hl=>e1.same b hl id
 refine h1.head.ld (c:=bX) (i:=2) (x:=some x.mf) rfl ?_
 refine Fv.of ?_
 unfold Fv.vc
 refine au fun H2 s2 r2 e2=>?_
 refine EU.of ?_
 unfold EU.vc
 have F2:aF H2 x:=h1.frames.keep fun b _ hl=>e2.same b hl id
 have hlen:=h.wf.len
 have hmost:=h.wf.most
 have hsz:=h.n
 refine nO F2 r2 (by omega) fun sl ls H3 o3 hp3 e3 f3=>?_
 have hF3:aF H3 x:=F2.keep fun b _ hl=>e3.same b hl id
 have z1:=e1.size
 have z2:=e2.size
 have z3:=e3.size
 -- the pointers that were met are the frames'
 have hperm:(ls.map uW).Perm (x.zs.map fun z=>z.2.p):=by
  have q1:=(hp3.map fun e=>(e.key,e.val)).trans h.perm
  have q2:=q1.map fun kv:Value×Value=>(match kv.2 with|.pointer (some a)=>a.block|_=>0)
  rw[List.map_map] at q2
  refine List.Perm.trans (List.Perm.of_eq ?_) (q2.trans (List.Perm.of_eq ?_))
  ·exact List.map_congr_left fun e _=>rfl
  ·unfold mr;rw[List.map_map];exact List.map_congr_left fun z _=>rfl
 have hat:∀q∈ls.map uW,∃z∈x.zs,z.2.p=q:=by
  intro q hq
  obtain⟨z,hz,e⟩:=List.mem_map.1 (hperm.mem_iff.1 hq)
  exact⟨z,hz,e⟩
 let sel:Nat→Bool:=fun q=>x.zs.any fun z=>z.2.p==q&&z.1.name.toList==n.toList
 have hsel:∀z∈x.zs,sel z.2.p=(z.1.name.toList==n.toList):=by
  intro z hz
  cases hq:z.1.name.toList==n.toList with
  |true=>exact List.any_eq_true.2 ⟨z,hz,by simp[hq]⟩
  |false=>
    refine List.any_eq_false.2 fun y hy=>?_
    intro q
    simp only[Bool.and_eq_true,beq_iff_eq] at q
    have:=h.frames.ptr hy hz q.1
    subst this
    rw[q.2] at hq;simp at hq
 have hll:(ls.map uW).length≤1048576:=by
  rw[hperm.length_eq,List.length_map]
  have:=h.frames.size;omega
 have hk3:Kept H3 H.size n (ls.map uW) sel:=by
  refine⟨e3.at (e2.at r1 id) id,fun q hq=>?_⟩
  obtain⟨z,hz,e⟩:=hat q hq
  exact⟨z.2,z.1,hF3.each z hz,e,by rw[←e];exact hsel z hz⟩
 refine xh o3 hk3 hll (fun b hb e=>by have:=f3 b hb;omega) fun s4 H4 o4 m4 w4=>?_
 -- sorted
 have m4':Ext H3 H4∨True:=.inr trivial
 have hF4:aF H4 x:=hF3.keep fun b hb hl=>m4.same b hl fun q=>by
  have:=f3 b q
  have:=h.frames.lt b hb;omega
 have hperm4:((ls.map uW).filter sel).Perm ((x.of n).map fun z=>z.2.p):=by
  refine(hperm.filter sel).trans ?_
  rw[List.filter_map]
  refine List.Perm.map _ (List.Perm.trans (List.Perm.of_eq ?_) (List.mergeSort_perm _ _).symm)
  refine List.filter_congr fun z hz=>?_
  exact hsel z hz
 have fresh4:∀b,aj s4 b→H.size≤b:=fun b hb=>by have:=f3 b (w4 b hb);omega
 have e4:Ext H H4:=⟨by have:=m4.size;omega,fun b hb _=>(m4.same b (by omega) (fun q=>by have:=f3 b q;omega)).trans ((e3.same b (by omega) id).trans ((e2.same b (by omega) id).trans (e1.same b hb id)))⟩
 by_cases hnil:(x.of n)=[]
 ·-- none
  have hl0:(ls.map uW).filter sel=[]:=by
   have:=hperm4.length_eq
   rw[hnil] at this
   exact List.eq_nil_of_length_eq_zero (by simpa using this)
  rw[hl0] at o4
  have hn0:=o4.n (by decide)
  intro w hw
  subst hw
  have hc:=AnyF.slices_SortFunc_none (P:=Tryz.prog) (ρ:=kX) {Bm with} s4.a s4.c (.func (.func yM.no) #[] #[]) w
  have e0:s4.v=.slice s4.a 0 s4.c:=by
   cases s4;simp only[Sl.v] at hn0 ⊢;rw[hn0];rfl
  rw[e0]
  refine hc.mono fun e w' ⟨he,hw'⟩=>?_
  subst hw'
  refine⟨_,he,⟨(),rfl,hK s4 _ ?_ e4 fresh4⟩,.refl _⟩
  rw[hnil];exact o4
 ·obtain⟨z0,hz0⟩:=List.exists_mem_of_ne_nil _ hnil
  obtain⟨la,hla⟩:=ri (f:=fun a:{z:FZ // z∈x.zs∧z.1.name=n}=>a.1.2.p) (l:=(ls.map uW).filter sel) (fun q hq=>by
   obtain⟨z,hz,e⟩:=List.mem_map.1 (hperm4.mem_iff.1 hq)
   exact⟨⟨z,PG.jG.1 hz⟩,e⟩)
  haveI:Inhabited {z:FZ // z∈x.zs∧z.1.name=n}:=⟨⟨z0,PG.jG.1 hz0⟩⟩
  let E:eC {z:FZ // z∈x.zs∧z.1.name=n}:=⟨1,fun a=>[cP a.1.2.p],fun _=>rfl,fun x u hu=>by simp at hu;subst hu;rfl⟩
  have hEall:∀l:List {z:FZ // z∈x.zs∧z.1.name=n},E.all l=fM.all (l.map fun a=>a.1.2.p):=by
   intro l
   induction l with
   |nil=>rfl
   |cons a l ih=>
     have q1:E.all (a::l)=cP a.1.2.p::E.all l:=rfl
     have q2:fM.all ((a::l).map fun a=>a.1.2.p)=cP a.1.2.p::fM.all (l.map fun a=>a.1.2.p):=rfl
     rw[q1,q2,ih]
  have oE:∀{A:Heap} {l:List {z:FZ // z∈x.zs∧z.1.name=n}},aG E rq A s4 l↔aG fM rq A s4 (l.map fun a=>a.1.2.p):=by
   intro A l
   unfold aG
   rw[hEall]
   exact Iff.rfl
  have o4':aG E rq H4 s4 la:=by rw[oE,hla];exact o4
  have hpg:∀a:{z:FZ // z∈x.zs∧z.1.name=n},a.1.1.page<1048577:=fun a=>(h.wf.ao a.1.1 (by rw[h.fs];exact List.mem_map.2 ⟨a.1,a.2.1,rfl⟩)).1
  let cf:{z:FZ // z∈x.zs∧z.1.name=n}→{z:FZ // z∈x.zs∧z.1.name=n}→Int:=fun a b=>(a.1.1.page:Int) - (b.1.1.page:Int)
  have hlt:∀a b,ltOf cf a b=decide (a.1.1.page<b.1.1.page):=by
   intro a b
   show decide ((a.1.1.page:Int) - (b.1.1.page:Int)<0)=_
   rw[decide_eq_decide];omega
  have hO:SWO (ltOf cf):=⟨fun a=>by rw[hlt];simp,fun a b c h1 h2=>by rw[hlt] at*;simp at*;omega,fun a b c h1 h2=>by rw[hlt] at*;simp at*;omega⟩
  have hT:∀a b,(ltOf cf) a b=false→(ltOf cf) b a=false→a=b:=by
   intro a b h1 h2
   rw[hlt] at h1 h2
   simp at h1 h2
   apply Subtype.ext
   obtain⟨i,hi⟩:=List.mem_iff_getElem?.1 a.2.1
   obtain⟨j,hj⟩:=List.mem_iff_getElem?.1 b.2.1
   have hk:=h.wf.keys
   have:=key_inj (p:=s) hk (i:=i) (j:=j) (f:=a.1.1) (g:=b.1.1) (by rw[h.fs];simp[PG.fs,hi]) (by rw[h.fs];simp[PG.fs,hj]) (by rw[a.2.2,b.2.2]) (by omega)
   subst this
   rw[hi] at hj;exact Option.some.inj hj
  have hlal:la.length<4611686018427387904:=by
   have:la.length=((ls.map uW).filter sel).length:=by rw[←hla,List.length_map]
   have h2:=List.length_filter_le sel (ls.map uW)
   omega
  refine pQ (ρ:=kX) (E:=E) (e:=fun a=>cP a.1.2.p) Bm (fun _=>rfl) rfl hO hT yp o4' hlal (fun A mA a b=>?_) fun A oA mA=>?_
  ·have hFA:aF A x:=hF4.keep fun c hc hl=>mA.same c hl fun q=>by
    have:=fresh4 c q
    have:=h.frames.lt c hc;omega
   exact Bi (hFA.each a.1 a.2.1) (hFA.each b.1 b.2.1) (hpg a) (hpg b)
  ·rw[oE] at oA
   have hperm5:=List.mergeSort_perm la (fun x y=>!(ltOf cf) y x)
   have heq:(la.mergeSort fun x y=>!(ltOf cf) y x).map (fun a=>a.1.2.p)=(x.of n).map fun z=>z.2.p:=by
    have hz:(la.mergeSort fun x y=>!(ltOf cf) y x).map (fun a=>a.1)=x.of n:=by
     refine List.Perm.eq_of_pairwise (le:=fun a b:FZ=>a.1.page≤b.1.page) (fun a b ha hb h1 h2=>?_) ?_ (x.qB n) ?_
     ·obtain⟨a',_,rfl⟩:=List.mem_map.1 ha
      have hb':=PG.jG.1 hb
      have:=hT a' ⟨b,hb'⟩ (by rw[hlt];simp;exact h2) (by rw[hlt];simp;exact h1)
      exact congrArg Subtype.val this
     ·rw[List.pairwise_map]
      have:=List.pairwise_mergeSort (le:=fun x y=>!(ltOf cf) y x) (fun a b c h1 h2=>by rw[hlt] at*;simp at*;omega) (fun a b=>by rw[hlt,hlt];simp;omega) la
      exact this.imp fun h=>by rw[hlt] at h;simpa using h
     ·-- the same frames
      have hnd:(x.of n).Nodup:=by
       have hz:x.zs.Nodup:=by
        have:=h.wf.keys
        rw[h.fs] at this
        unfold PG.fs at this
        rw[List.map_map] at this
        exact lz _ this
       unfold PG.of
       exact(List.mergeSort_perm _ _).symm.nodup (hz.filter _)
      have hA:(la.map fun a=>a.1.2.p).Perm ((x.of n).map fun z=>z.2.p):=by rw[hla];exact hperm4
      have hpp:=(hperm5.map fun a=>a.1.2.p).trans hA
      have inj:∀a∈(la.mergeSort fun x y=>!(ltOf cf) y x).map (fun a=>a.1),∀b∈x.of n,a.2.p=b.2.p→a=b:=by
       intro a ha b hb e
       obtain⟨a',_,rfl⟩:=List.mem_map.1 ha
       exact h.frames.ptr a'.2.1 (PG.jG.1 hb).1 e
      have hnd2:((x.of n).map fun z=>z.2.p).Nodup:=by
       unfold List.Nodup
       rw[List.pairwise_map]
       refine List.Pairwise.imp_of_mem (fun {a b} ha hb hne e=>hne (h.frames.ptr (PG.jG.1 ha).1 (PG.jG.1 hb).1 e)) hnd
      have hpp':(((la.mergeSort fun x y=>!(ltOf cf) y x).map fun a=>a.1).map fun z=>z.2.p).Perm ((x.of n).map fun z=>z.2.p):=by rw[List.map_map];exact hpp
      have hndA:((la.mergeSort fun x y=>!(ltOf cf) y x).map fun a=>a.1).Nodup:=lz _ (hpp'.symm.nodup hnd2)
      rw[List.perm_ext_iff_of_nodup hndA hnd]
      intro z
      constructor
      ·intro hz
       obtain⟨a',_,rfl⟩:=List.mem_map.1 hz
       exact PG.jG.2 a'.2
      ·intro hz
       have:z.2.p∈((la.mergeSort fun x y=>!(ltOf cf) y x).map fun a=>a.1).map fun z=>z.2.p:=hpp'.mem_iff.2 (List.mem_map.2 ⟨z,hz,rfl⟩)
       obtain⟨y,hy,e⟩:=List.mem_map.1 this
       rw[←inj y hy z hz e];exact hy
    rw[←hz,List.map_map];rfl
   rw[heq] at oA
   refine hK s4 A oA ⟨by have:=e4.size;have:=mA.size;omega,fun b hb _=>(mA.same b (by have:=e4.size;omega) (fun q=>by have:=fresh4 b q;omega)).trans (e4.same b hb id)⟩ fresh4
end Go.Proofs.YtdpdmbceakdlmaaGreatDoor
namespace Go.Proofs.YtdpdmbceakdlmaaGreatDoor
open Go.MapKept
theorem Cg {zs:List FZ} {i:Nat} {f f':Fr} {g:pK} (hz:zs[i]?=some (f,g)) (hk:f'.key=f.key):mr (zs.set i (f',g))=mr zs:=by
 have h1:f'.name=f.name:=congrArg Prod.fst hk
 have h2:f'.page=f.page:=congrArg Prod.snd hk
 unfold mr
 rw[show zs.set i (f',g)=zs.modify i (fun _=>(f',g)) from (aM (g:=fun _=>(f',g)) hz).symm]
 exact cz _ _ _ _ _ hz (by simp only[h1,h2])
theorem EP {x y:PG} {H:Heap} {z:FZ} {n:ByteArray} (hk:mr y.zs=mr x.zs) (hz:z∈x.zs) (hn:z.1.name=n) (hy:aF H y):∃(i:Nat) (f:Fr),y.zs[i]?=some (f,(⟨z.2.p,(y.zs.getD i z).2.b⟩:pK))∧f.name=n∧f.page=z.1.page:=by
 have h1:(hZ z.1.name (z.1.page:Int),cP z.2.p)∈mr y.zs:=by rw[hk];exact List.mem_map.2 ⟨z,hz,rfl⟩
 obtain⟨u,hu,e⟩:=List.mem_map.1 h1
 simp only[Prod.mk.injEq] at e
 have e1:=jN e.1
 have e2:=oJ e.2
 obtain⟨i,hi⟩:=List.mem_iff_getElem?.1 hu
 refine⟨i,u.1,?_,e1.1.trans hn,by omega⟩
 have:y.zs.getD i z=u:=by simp[List.getD,hi]
 rw[hi,this,←e2]
theorem Pl.jL (s:Pl) (n:ByteArray):(s.aO n).length≤s.fs.length:=by
 unfold Pl.aO
 rw[List.length_mergeSort,List.length_map]
 exact List.length_filter_le _ _
theorem AH {F:Nat→Prop} {H:Heap} {p dp:Nat} {s:Pl} {n:ByteArray} {K:Int→Heap→Prop} (hg:Gl H) (h:aE F H p dp s) (hlogs:s.d.logs<68719470000)
  (hK:∀F' H',aE F' H' p dp (s.flush n).1→Step F F' H H'→K (s.flush n).2 H'):CL.sp (ay p) n H K:=by
 have h00:=h
 obtain⟨x,D,hd,hF⟩:=h
 refine CL.of ?_
 unfold CL.vc
 simp only[ak]
 refine iO hd.ae ?_
 unfold Pl.flush at hK
 refine ag (fun hw=>?_) (fun hw=>?_)
 ·have hw':s.wrong≠0:=by simpa using hw
  rw[if_pos hw'] at hK
  exact hK F H h00 (.refl _ _)
 have hw':¬s.wrong≠0:=by simpa using hw
 rw[if_neg hw'] at hK
 refine hd.ae.head.ld (c:=al) (i:=0) (x:=ay dp) rfl ?_
 refine sE hd.bc ?_
 have fin:∀(e:Int) (x':PG) (D':Nat→Prop) (H1:Heap) (t:Pl),bF x' D' H1 p dp t→Step (fun b=>D b∨x.all p b) (fun b=>D' b∨x'.all p b) H H1→(∀F' H',aE F' H' p dp (Pl.out (t,e)).1→Step F F' H H'→K (Pl.out (t,e)).2 H')→
   uh.sp (ay p) e H1 fun r H2=>K r H2:=by
  intro e x' D' H1 t h1 S1 hk
  refine uQ (hd.gl hg S1.mod) h1 fun H2 h2 S2=>?_
  obtain⟨F',q1,q2⟩:=h2.out (x:=x) (D:=D) (F:=F) (H:=H) hF (S1.trans S2)
  exact hk F' H2 q1 q2
 refine ag (fun hz=>?_) (fun hz=>?_)
 ·have hz':(s.d.len n).2≠0:=by simpa using hz
  rw[if_pos hz'] at hK
  exact fin _ x D H s hd (.refl _ _) hK
 have hz':¬(s.d.len n).2≠0:=by simpa using hz
 rw[if_neg hz'] at hK
 refine FX hd.ae fun sl H1 o1 e1 f1=>?_
 have hd1:=hd.ext e1
 have hlen1:=o1.n (by decide)
 have hpo:=PG.zn hd.ae.fs n
 have hll:(s.aO n).length≤4096:=by
  have:=s.jL n
  have:=hd.ae.wf.len;have:=hd.ae.wf.most;omega
 have hsl:sl.n=(s.aO n).length:=by rw[hlen1,←hpo,List.length_map,List.length_map]
 have hofl:(x.of n).length=(s.aO n).length:=by rw[←hpo,List.length_map]
 refine aw (s.aO n).length (fun k z A=>z=(k:Int)∧∃y D' t,bF y D' A p dp t∧Step (fun b=>D b∨x.all p b) (fun b=>D' b∨y.all p b) H1 A∧mr y.zs=mr x.zs∧aG fM rq A sl ((x.of n).map fun z=>z.2.p)∧t.d.logs≤s.d.logs+k∧Pl.aA n (s.aO n) s=Pl.aA n ((s.aO n).drop k) t) ⟨rfl,x,D,s,hd1,.refl _ _,rfl,o1,Nat.le_refl _,rfl⟩ ?_
 rintro k _ A next hk ⟨rfl,y,D',t,hdA,SA,hkv,oA,hlg,heq⟩ hnext
 have hgA:Gl A:=hd1.gl (hg.mod e1 id) SA.mod
 refine ag (fun hc=>?_) (fun hc=>?_)
 ·have hlt:k<(s.aO n).length:=by rw[hsl] at hc;simpa using hc
  have hko:k<(x.of n).length:=by omega
  have hzk:(x.of n)[k]∈x.of n:=List.getElem_mem hko
  obtain⟨hzx,hzn⟩:=PG.jG.1 hzk
  obtain⟨i,f,hi,hfn,hfp⟩:=EP hkv hzx hzn hdA.ae.frames
  obtain⟨g,hgd⟩:∃g:pK,g=⟨(x.of n)[k].2.p,(y.zs.getD i (x.of n)[k]).2.b⟩:=⟨_,rfl⟩
  rw[←hgd] at hi
  have hgp:g.p=(x.of n)[k].2.p:=by rw[hgd]
  have hfs:t.fs[i]?=some f:=by rw[hdA.ae.fs];simp[PG.fs,hi]
  have hpk:(s.aO n)[k]=f.page:=by
   have:((x.of n).map fun z=>z.1.page)[k]'(by simpa using hko)=(s.aO n)[k]:=by congr 1
   rw[←this,List.getElem_map,hfp]
  have hfind:t.find n ((s.aO n)[k]:Int)=some i:=by rw[hpk,←hfn];exact Pl.find_eq hdA.ae.wf hfs
  have hstep:Pl.aA n ((s.aO n).drop k) t=if f.dirty then (if (t.put i).2=0 then Pl.aA n ((s.aO n).drop (k+1)) (t.put i).1 else t.put i) else Pl.aA n ((s.aO n).drop (k+1)) t:=by
   rw[List.drop_eq_getElem_cons hlt]
   conv=>lhs;unfold Pl.aA
   rw[hfind]
   simp only[Pl.cJ hfs]
  have hA:=hdA.ae.frames.each _ (List.mem_of_getElem? hi)
  refine vJ oA (i:=k) (q:=(x.of n)[k].2.p) (by simp[hko]) rfl fun ad ha=>?_
  rw[←hgp]
  simp only[ak]
  refine hA.row.ld (c:=ax) (i:=4) (x:=f.dirty) rfl ?_
  have hw1:IntKind.i64.wrap ((k:Int)+1)=((k+1:Nat):Int):=aK k (by omega)
  cases hdt:f.dirty with
  |false=>
    rw[hdt,if_neg (by simp)] at hstep
    exact aU rfl (hnext hlt _ _ ⟨hw1,y,D',t,hdA,SA,hkv,oA,by omega,heq.trans hstep⟩)
  |true=>
    rw[hdt,if_pos rfl] at hstep
    refine ar rfl ?_
    refine w6 hgA hdA hi (by omega) (fun hne D2 H2 h2 S2=>?_) (fun he D2 H2 h2 S2=>?_)
    ·rw[if_neg hne] at hstep
     refine aU (by simpa using hne) ?_
     have e0:=heq.trans hstep
     rw[e0,if_pos hne] at hK
     exact fin _ y D2 H2 _ h2 ((SA.trans S2).ahead e1) hK
    ·rw[if_pos he] at hstep
     refine ar rfl ?_
     refine hnext hlt _ _ ⟨hw1,_,D2,(t.put i).1,h2,SA.trans S2,?_,?_,?_,heq.trans hstep⟩
     ·show mr (y.zs.set i (f.clean,g))=_
      rw[Cg (f':=f.clean) hi rfl];exact hkv
     ·refine oA.keep fun b hb hl=>S2.mod.same b hl ?_
      rintro q
      rcases SA.own b q with r|r
      ·have:=hd.lt b r
       have:=f1 b hb;omega
      ·have:=o1.lt b hb;omega
     ·have:=t.jR i;omega
 ·have hge:k=(s.aO n).length:=by rw[hsl] at hc;simp at hc;omega
  have e0:Pl.aA n (s.aO n) s=(t,0):=by rw[heq,hge,List.drop_of_length_le (Nat.le_refl _)];rfl
  rw[e0,if_neg (by simp)] at hK
  simp only at hK
  refine hdA.ae.head.ld (c:=al) (i:=0) (x:=ay dp) rfl ?_
  refine C3 hdA.bc fun D2 H2 a2 S2=>?_
  obtain⟨q1,q2⟩:=hdA.jC hgA a2 S2
  exact fin _ y D2 H2 _ q1 ((SA.trans q2).ahead e1) hK
end Go.Proofs.YtdpdmbceakdlmaaGreatDoor
namespace Go.Proofs.YtdpdmbceakdlmaaGreatDoor
theorem dt {α β:Type} (f:α→β) (u:α→α) (hu:∀x,f (u x)=f x):∀(l:List α) (i:Nat),(l.modify i u).map f=l.map f
 |[],i=>by simp
 |a::l,0=>by simp[hu]
 |a::l,i+1=>by simp[dt f u hu l i]
theorem Pl.xO {p q:Pl} (h:q.fs.map Fr.key=p.fs.map Fr.key) (n:ByteArray) (k:Int):q.find n k=p.find n k:=by
 have e:∀r:Pl,r.find n k=(r.fs.map Fr.key).findIdx? fun x=>x.1.toList==n.toList&&decide ((x.2:Int)=k):=by
  intro r
  rw[List.findIdx?_map]
  rfl
 rw[e,e,h]
theorem Pl.oK (p:Pl) (i:Nat):(p.put i).1.fs.map Fr.key=p.fs.map Fr.key:=by
 unfold Pl.put
 split
 ·show (p.fs.modify i Fr.clean).map Fr.key=_
  exact dt Fr.key Fr.clean (fun _=>rfl) _ _
 ·rfl
theorem Pl.gQ {n:ByteArray}:∀(l:List Nat) (p:Pl),Pl.aA n (l.filter fun k:Nat=>(p.find n k).isSome) p=Pl.aA n l p
 |[],p=>rfl
 |k::l,p=>by
   rw[List.filter_cons]
   cases hf:p.find n k with
   |none=>
     rw[if_neg (by simp),Pl.gQ l p]
     conv=>rhs;unfold Pl.aA
     rw[hf]
   |some i=>
     rw[show (some i).isSome=true from rfl,if_pos rfl]
     conv=>lhs;unfold Pl.aA
     conv=>rhs;unfold Pl.aA
     rw[hf]
     simp only
     have e:(l.filter fun k:Nat=>(p.find n k).isSome)=l.filter fun k:Nat=>((p.put i).1.find n k).isSome:=List.filter_congr fun j _=>by rw[Pl.xO (p.oK i)]
     split
     ·split
      ·rw[e];exact Pl.gQ l _
      ·rfl
     ·exact Pl.gQ l p
theorem Pl.pW {p:Pl} (hw:p.WF) (hfit:p.Fit) {n:ByteArray} (hl:(p.d.len n).2=0):p.aO n=(List.range (p.d.len n).1).filter fun k:Nat=>(p.find n k).isSome:=by
 refine ks ?_ ?_ ?_
 ·rw[List.perm_ext_iff_of_nodup]
  ·intro k
   unfold Pl.aO
   rw[List.mem_mergeSort,List.mem_map,List.mem_filter,List.mem_range]
   constructor
   ·rintro⟨f,hf,rfl⟩
    rw[List.mem_filter] at hf
    have hn:f.name=n:=gS (by simpa using hf.2)
    obtain⟨i,hi⟩:=List.mem_iff_getElem?.1 hf.1
    refine⟨?_,?_⟩
    ·rw[Dk.tZ hl,←hn];exact hfit f hf.1
    ·rw[←hn,Pl.find_eq hw hi];rfl
   ·rintro⟨_,h2⟩
    obtain⟨i,hi⟩:=Option.isSome_iff_exists.1 h2
    obtain⟨f,h3,h4,h5⟩:=Pl.fk hi
    exact⟨f,List.mem_filter.2 ⟨List.mem_of_getElem? h3,by rw[h4];simp⟩,by omega⟩
  ·unfold Pl.aO
   refine(List.mergeSort_perm _ _).symm.nodup ?_
   have h1:((p.fs.filter fun f=>f.name.toList==n.toList).map Fr.key).Nodup:=(List.filter_sublist.map Fr.key).nodup hw.keys
   unfold List.Nodup at h1 ⊢
   rw[List.pairwise_map] at h1 ⊢
   refine List.Pairwise.imp_of_mem (fun {a b} ha hb hne e=>hne ?_) h1
   rw[List.mem_filter] at ha hb
   have e1:a.name=n:=gS (by simpa using ha.2)
   have e2:b.name=n:=gS (by simpa using hb.2)
   unfold Fr.key;rw[e1,e2,e]
  ·exact List.nodup_range.sublist List.filter_sublist
 ·unfold Pl.aO
  have:=List.pairwise_mergeSort (le:=fun a b:Nat=>decide (a≤b)) (fun _ _ _ h1 h2=>by simp at*;omega) (fun _ _=>by simp;omega) ((p.fs.filter fun f=>f.name.toList==n.toList).map (·.page))
  exact this.imp fun h=>by simpa using h
 ·exact(List.pairwise_le_range).sublist List.filter_sublist
theorem Pl.rY {p:Pl} (hw:p.WF) (hfit:p.Fit) {n:ByteArray} (hl:(p.d.len n).2=0):Pl.aA n (p.aO n) p=Pl.aA n (List.range (p.d.len n).1) p:=by
 rw[Pl.pW hw hfit hl,Pl.gQ]
theorem Pl.dQ (p:Pl) (e:Int):(p.met e).d=p.d∧(p.met e).fs=p.fs∧(p.met e).next=p.next∧(p.met e).most=p.most:=by
 unfold Pl.met;split<;>exact⟨rfl,rfl,rfl,rfl⟩
theorem Pl.y5 (p:Pl) (n:ByteArray) (k:Int):(p.load n k).1=p∨(p.load n k).1=p.room.1:=by
 unfold Pl.load
 split
 ·exact .inl rfl
 ·split
  ·exact .inl rfl
  ·split
   ·exact .inr rfl
   ·split
    ·exact .inr rfl
    ·split<;>exact .inr rfl
theorem Pl.lZ (p:Pl) (n:ByteArray) (k:Int):(p.aQ n k).1.d.logs≤p.d.logs+1:=by
 unfold Pl.aQ
 split
 ·exact Nat.le_succ _
 ·split
  ·exact Nat.le_succ _
  ·have h:(p.load n k).1.d.logs≤p.d.logs+1:=by
    rcases p.y5 n k with e|e
    ·rw[e];exact Nat.le_succ _
    ·rw[e];exact p.ij
   split
   ·rename_i q f e he;rw[he] at h;exact h
   ·rename_i q e he;rw[he] at h;show (q.met e).d.logs≤_;rw[(q.dQ e).1];exact h
theorem Pl.oN (p:Pl) (n:ByteArray):(p.fresh n).1.d.logs≤p.d.logs+2:=by
 have hr:=p.ij
 have hw:=p.room.1.d.oV n (p.d.len n).1 (bp 0 [])
 unfold Pl.fresh
 split
 ·show p.d.logs≤_;omega
 ·split
  ·show (p.met _).d.logs≤_;rw[(p.dQ _).1];omega
  ·split
   ·show (p.room.1.met _).d.logs≤_;rw[(p.room.1.dQ _).1];omega
   ·split
    ·show ((p.room.1.aV _).met _).d.logs≤_
     rw[((p.room.1.aV _).dQ _).1]
     show (p.room.1.d.write _ _ _).1.logs≤_;omega
    ·show (p.room.1.d.write _ _ _).1.logs≤_;omega
theorem Pl.gM {n:ByteArray}:∀(l:List Nat) (p:Pl),(Pl.aA n l p).1.d.logs≤p.d.logs+l.length
 |[],p=>Nat.le_refl _
 |k::l,p=>by
   unfold Pl.aA
   have hp:=fun i=>p.jR i
   split
   ·rename_i i hi
    have:=hp i
    split
    ·split
     ·have:=Pl.gM (n:=n) l (p.put i).1
      simp only[List.length_cons];omega
     ·simp only[List.length_cons];omega
    ·have:=Pl.gM (n:=n) l p
     simp only[List.length_cons];omega
   ·have:=Pl.gM (n:=n) l p
    simp only[List.length_cons];omega
theorem Pl.zF (r:Pl×Int):(Pl.out r).1.d=r.1.d:=(r.1.dQ r.2).1
theorem Pl.vM (p:Pl) (n:ByteArray):(p.flush n).1.d.logs≤p.d.logs+p.fs.length:=by
 have h1:=Pl.gM (n:=n) (p.aO n) p
 have h2:=p.jL n
 have h3:=(Pl.aA n (p.aO n) p).1.d.yx n
 unfold Pl.flush
 split
 ·show p.d.logs≤_;omega
 ·split
  ·rw[Pl.zF];show p.d.logs≤_;omega
  ·split
   ·rw[Pl.zF];omega
   ·rw[Pl.zF];show (Dk.sync _ _).1.logs≤_;omega
theorem Pl.Bg (p:Pl) (h:Int) (k:UInt8) (b:List UInt8):(p.set h k b).1.d=p.d:=by
 unfold Pl.set
 split
 ·rfl
 ·split
  ·split<;>rfl
  ·rfl
theorem Pl.nV (p:Pl) (h:Int):(p.aD h).1.d=p.d:=by
 unfold Pl.aD
 split
 ·rfl
 ·split<;>rfl
theorem Pl.gT {n:ByteArray}:∀(l:List Nat) (p:Pl),(Pl.aA n l p).1.next=p.next∧(Pl.aA n l p).1.tick=p.tick
 |[],p=>⟨rfl,rfl⟩
 |k::l,p=>by
   unfold Pl.aA
   split
   ·rename_i i hi
    have:=p.lR i
    split
    ·split
     ·have h:=Pl.gT (n:=n) l (p.put i).1
      exact⟨h.1.trans this.2.1,h.2.trans this.2.2.1⟩
     ·exact⟨this.2.1,this.2.2.1⟩
    ·exact Pl.gT l p
   ·exact Pl.gT l p
theorem Pl.kN (p:Pl) (n:ByteArray):(p.flush n).1.next=p.next:=by
 have h1:=(Pl.gT (n:=n) (p.aO n) p).1
 unfold Pl.flush
 split
 ·rfl
 ·split
  ·exact(p.dQ _).2.2.1
  ·split
   ·exact((Pl.aA n (p.aO n) p).1.dQ _).2.2.1.trans h1
   ·exact(((Pl.aA n (p.aO n) p).1.aV _).dQ _).2.2.1.trans h1
theorem Dk.uY {s t:Dk} {i:Nat} {f:Fl} {g:Fl→Fl} (hf:s.files[i]?=some f) (ht:t.files=s.files.modify i g) (hn:(g f).name=f.name) (n:ByteArray):t.idx n=s.idx n:=by
 unfold Dk.idx
 rw[ht]
 have:∀(l:List Fl) (j:Nat),l[j]?=some f→(l.modify j g).findIdx? (fun f=>f.name.toList==n.toList)=l.findIdx? (fun f=>f.name.toList==n.toList):=by
  intro l
  induction l with
  |nil=>intro j h;simp at h
  |cons a l ih=>
    intro j h
    match j with
    |0=>
      simp at h;subst h
      simp only[List.modify_zero_cons,List.findIdx?_cons,hn]
    |j+1=>
      simp only[List.getElem?_cons_succ] at h
      simp only[List.modify_succ_cons,List.findIdx?_cons,ih j h]
 exact this s.files i hf
theorem Dk.zG {s:Dk} {n:ByteArray} {k:Int} {b:List UInt8} (h:(s.write n k b).2=0):0≤k∧k.toNat<(s.write n k b).1.size n:=by
 unfold Dk.write at h ⊢
 by_cases hd:s.down=true
 ·rw[if_pos hd] at h;cases h
 rw[if_neg hd] at h ⊢
 by_cases hb:b.length=512
 ·rw[dif_pos hb] at h ⊢
  cases hi:s.idx n with
  |none=>rw[hi] at h;cases h
  |some i=>
    rw[hi] at h
    simp only at h ⊢
    by_cases hk:k<0∨k>(s.file i).ao.length
    ·rw[if_pos hk] at h;cases h
    rw[if_neg hk] at h ⊢
    by_cases hq:k=(s.file i).ao.length∧s.used≥s.quota
    ·rw[if_pos hq] at h;cases h
    rw[if_neg hq] at h ⊢
    unfold Dk.step at h ⊢
    by_cases hc:s.change.2=0
    ·rw[if_pos hc]
     refine⟨by omega,?_⟩
     obtain⟨f,hf,_⟩:=Dk.cG hi
     have hf2:s.change.1.files[i]?=some f:=by rw[s.aX];exact hf
     have hix:s.change.1.idx n=some i:=by unfold Dk.idx at hi ⊢;rw[s.aX];exact hi
     obtain⟨w,hw⟩:∃w:Wr,w=⟨s.change.1.next,k.toNat,⟨b,hb⟩⟩:=⟨_,rfl⟩
     simp only[←hw]
     obtain⟨t,ht⟩:∃t:Dk,t=(s.change.1.dZ i w).fw (max s.change.1.most (s.change.1.dZ i w).used):=⟨_,rfl⟩
     rw[←ht]
     have htf:t.files=s.change.1.files.modify i fun f=>{f with log:=f.log++[w]}:=by rw[ht];rfl
     have h2:=Dk.uY (g:=fun f=>{f with log:=f.log++[w]}) hf2 htf rfl n
     have h3:t.files[i]?=some {f with log:=f.log++[w]}:=by rw[htf];exact bG hf2
     unfold Dk.size
     rw[h2,hix]
     simp only
     rw[Dk.cQ h3,Fl.lh,bZ,hw]
     show k.toNat<max _ (k.toNat+1)
     omega
    ·rw[if_neg hc] at h;exact absurd h hc
 ·rw[dif_neg hb] at h;cases h
theorem Dk.C7 {s:Dk} {n:ByteArray} {k:Int} (h:(s.read n k).2=0):0≤k∧k.toNat<s.size n:=by
 unfold Dk.read Dk.open at h
 unfold Dk.size
 by_cases hd:s.down=true
 ·rw[if_pos hd] at h;cases h
 rw[if_neg hd] at h
 cases hi:s.idx n with
 |none=>rw[hi] at h;cases h
 |some i=>
   rw[hi] at h
   simp only at h ⊢
   by_cases hk:k<0
   ·rw[if_pos hk] at h;cases h
   rw[if_neg hk] at h
   refine⟨by omega,?_⟩
   rcases Nat.lt_or_ge k.toNat (s.file i).ao.length with q|q
   ·exact q
   ·rw[List.getElem?_eq_none q] at h;cases h
theorem Ao {l r:List Fr} (h:l.map Fr.key=r.map Fr.key):∀f∈l,∃f'∈r,f'.key=f.key:=by
 intro f hf
 have:f.key∈r.map Fr.key:=by rw[←h];exact List.mem_map_of_mem hf
 obtain⟨f',h1,h2⟩:=List.mem_map.1 this
 exact⟨f',h1,h2⟩
theorem Pl.Fit.keys {s t:Pl} (h:s.Fit) (hd:s.d.dX t.d) (hk:t.fs.map Fr.key=s.fs.map Fr.key):t.Fit:=h.grow hd (Ao hk)
theorem Pl.Fit.met {s:Pl} (h:s.Fit) (e:Int):(s.met e).Fit:=by
 have:=s.dQ e
 intro f hf
 rw[this.2.1] at hf
 rw[this.1]
 exact h f hf
theorem Pl.Fit.room {s:Pl} (h:s.Fit):s.room.1.Fit:=h.grow s.vD s.qm
theorem Pl.Fit.dh {s:Pl} (h:s.Fit) (i:Nat):(s.dh i).Fit:=h.keys (.refl _) (dt Fr.key (Fr.aQ s.next) (fun _=>rfl) _ _)
theorem Pl.Fit.take {s:Pl} {f:Fr} (h:s.Fit) (hf:f.page<s.d.size f.name):(s.take f).Fit:=by
 refine Pl.Fit.dh ?_ s.fs.length
 intro g hg
 rcases List.mem_append.1 (show g∈s.fs++[f] from hg) with q|q
 ·exact h g q
 ·simp at q;subst q;exact hf
theorem Pl.kM (s:Pl) (n:ByteArray) (k:Int):(∃e,s.load n k=(s,none,e))∨(∃e,s.load n k=(s.room.1,none,e))∨∃f,s.load n k=(s.room.1,some f,0)∧f.name=n∧(f.page:Int)=k∧(s.room.1.d.read n k).2=0:=by
 unfold Pl.load
 split
 ·exact .inl ⟨_,rfl⟩
 ·split
  ·exact .inl ⟨_,rfl⟩
  ·rename_i hk
   split
   ·exact .inr (.inl ⟨_,rfl⟩)
   ·split
    ·exact .inr (.inl ⟨_,rfl⟩)
    ·rename_i hr
     split
     ·exact .inr (.inl ⟨_,rfl⟩)
     ·exact .inr (.inr ⟨_,rfl,rfl,by show ((k.toNat:Nat):Int)=k;omega,by simpa using hr⟩)
theorem Pl.Fit.aQ {s:Pl} (h:s.Fit) (n:ByteArray) (k:Int):(s.aQ n k).1.Fit:=by
 unfold Pl.aQ
 split
 ·exact h
 ·split
  ·exact h.dh _
  ·rcases s.kM n k with ⟨e,he⟩|⟨e,he⟩|⟨f,he,h1,h2,h3⟩
   ·rw[he];exact h.met e
   ·rw[he];exact h.room.met e
   ·rw[he]
    refine h.room.take ?_
    have:=(Dk.C7 h3).2
    rw[h1];omega
theorem Pl.Fit.fresh {s:Pl} (h:s.Fit) (n:ByteArray):(s.fresh n).1.Fit:=by
 unfold Pl.fresh
 split
 ·exact h
 ·split
  ·exact h.met _
  ·split
   ·exact h.room.met _
   ·have h2:(s.room.1.aV (s.room.1.d.write n (s.d.len n).1 (bp 0 [])).1).Fit:=h.room.keys (s.room.1.d.nr _ _ _) rfl
    split
    ·exact h2.met _
    ·rename_i hw
     refine h2.take ?_
     exact(Dk.zG (show (s.room.1.d.write n (s.d.len n).1 (bp 0 [])).2=0 by simpa using hw)).2
theorem Pl.Fit.set {s:Pl} (h:s.Fit) (c:Int) (k:UInt8) (b:List UInt8):(s.set c k b).1.Fit:=by
 unfold Pl.set
 split
 ·exact h
 ·split
  ·split
   ·exact h
   ·exact h.keys (.refl _) (dt Fr.key (Fr.set k b) (fun _=>rfl) _ _)
  ·exact h
theorem Pl.Fit.aD {s:Pl} (h:s.Fit) (c:Int):(s.aD c).1.Fit:=by
 unfold Pl.aD
 split
 ·exact h
 ·split
  ·exact h.keys (.refl _) (dt Fr.key (Fr.aD c _) (fun _=>rfl) _ _)
  ·exact h
theorem Pl.Fit.put {s:Pl} (h:s.Fit) (i:Nat):(s.put i).1.Fit:=h.keys (s.mC i) (s.oK i)
theorem Pl.Fit.aA {n:ByteArray}:∀(l:List Nat) {s:Pl},s.Fit→(Pl.aA n l s).1.Fit
 |[],_,h=>h
 |k::l,s,h=>by
   unfold Pl.aA
   split
   ·split
    ·split
     ·exact Pl.Fit.aA l (h.put _)
     ·exact h.put _
    ·exact Pl.Fit.aA l h
   ·exact Pl.Fit.aA l h
theorem Pl.Fit.out {r:Pl×Int} (h:r.1.Fit):(Pl.out r).1.Fit:=h.met _
theorem Pl.Fit.flush {s:Pl} (h:s.Fit) (n:ByteArray):(s.flush n).1.Fit:=by
 have h1:=Pl.Fit.aA (n:=n) (s.aO n) h
 unfold Pl.flush
 split
 ·exact h
 ·split
  ·exact Pl.Fit.out h
  ·split
   ·exact Pl.Fit.out h1
   ·refine Pl.Fit.out ?_
    exact h1.keys (Dk.uP _ _) rfl
theorem Pl.Fit.aV {s:Pl} (h:s.Fit) {d:Dk} (hd:s.d.dX d):(s.aV d).Fit:=h.keys hd rfl
theorem rJ {x:Int} (h0:0≤x) (h1:x<1099511627776):cR (x+1)=x+1:=by unfold cR;exact wrap64 (by omega) (by omega)
theorem Pl.pN (s:Pl) (i:Nat) (h0:0≤s.next) (h1:s.next<1099511627776):(s.dh i).next=s.next+1:=rJ h0 h1
theorem Pl.jY (s:Pl) (f:Fr) (h0:0≤s.next) (h1:s.next<1099511627776):(s.take f).next=s.next+1:=rJ h0 h1
theorem Pl.ie {s:Pl} {n:ByteArray} {k:Int} (h0:0≤s.next) (h1:s.next<1099511627776):(s.aQ n k).1.next≤s.next+1:=by
 unfold Pl.aQ
 split
 ·show s.next≤_;omega
 ·split
  ·rw[Pl.pN s _ h0 h1];omega
  ·rcases s.kM n k with ⟨e,he⟩|⟨e,he⟩|⟨f,he,_⟩
   ·rw[he];show (s.met e).next≤_;rw[(s.dQ e).2.2.1];omega
   ·rw[he];show (s.room.1.met e).next≤_;rw[(s.room.1.dQ e).2.2.1,s.bz.2.1];omega
   ·rw[he];show (s.room.1.take f).next≤_;rw[Pl.jY _ _ (by rw[s.bz.2.1];exact h0) (by rw[s.bz.2.1];exact h1),s.bz.2.1];omega
theorem Pl.iE {s:Pl} {n:ByteArray} (h0:0≤s.next) (h1:s.next<1099511627776):(s.fresh n).1.next≤s.next+1:=by
 have hr:=s.bz.2.1
 unfold Pl.fresh
 split
 ·show s.next≤_;omega
 ·split
  ·show (s.met _).next≤_;rw[(s.dQ _).2.2.1];omega
  ·split
   ·show (s.room.1.met _).next≤_;rw[(s.room.1.dQ _).2.2.1,hr];omega
   ·split
    ·show ((s.room.1.aV _).met _).next≤_
     rw[((s.room.1.aV _).dQ _).2.2.1]
     show s.room.1.next≤_;rw[hr];omega
    ·show ((s.room.1.aV _).take _).next≤_
     rw[Pl.jY _ _ (by show 0≤s.room.1.next;rw[hr];exact h0) (by show s.room.1.next<_;rw[hr];exact h1)]
     show s.room.1.next+1≤_;rw[hr];omega
theorem Pl.gv (s:Pl) (c:Int) (k:UInt8) (b:List UInt8):(s.set c k b).1.next=s.next:=by
 unfold Pl.set
 split
 ·rfl
 ·split
  ·split<;>rfl
  ·rfl
theorem Pl.iZ (s:Pl) (c:Int):(s.aD c).1.next=s.next:=by
 unfold Pl.aD
 split
 ·rfl
 ·split<;>rfl
def Pl.leave (r:Pl×Int) (h:Int):Pl×Int:=if r.2=0 then r.1.aD h else r
def Pl.more (p:Pl) (n:ByteArray) (k:UInt8) (b:List UInt8):Pl×Int:=
 if (p.fresh n).2.2.2≠0 then ((p.fresh n).1,(p.fresh n).2.2.2)
 else Pl.leave (if k=0 then ((p.fresh n).1,0) else (p.fresh n).1.set (p.fresh n).2.1 k b) (p.fresh n).2.1
def Pl.look (p:Pl) (n:ByteArray) (g:Int):Pl×UInt8×List UInt8×Int:=
 if (p.aQ n g).2.2≠0 then ((p.aQ n g).1,0,[],(p.aQ n g).2.2)
 else if ((p.aQ n g).1.get (p.aQ n g).2.1).2.2≠0 then ((p.aQ n g).1,(p.aQ n g).1.get (p.aQ n g).2.1)
 else (((p.aQ n g).1.aD (p.aQ n g).2.1).1,((p.aQ n g).1.get (p.aQ n g).2.1).1,((p.aQ n g).1.get (p.aQ n g).2.1).2.1,((p.aQ n g).1.aD (p.aQ n g).2.1).2)
theorem vL {p:List UInt8} {k:UInt8} {b:List UInt8} (h:dG p=some (k,b)):b.length≤504:=by
 unfold dG at h
 split at h
 ·rename_i hc
  cases h
  have hl:=hc.1
  rw[List.length_take]
  omega
 ·cases h
theorem Pl.WF.flush {p:Pl} (h:p.WF) (n:ByteArray):(p.flush n).1.WF:=by
 unfold Pl.flush
 split
 ·exact h
 split
 ·exact h.met _
 split
 ·exact(Pl.WF.aA _ h).met _
 ·exact((Pl.WF.aA _ h).aV _).met _
structure Calm (p:Pl) (n:ByteArray) (N q:Nat) (T:Nat→UInt8×List UInt8):Prop where
 told:∃pg,Told p n N q T pg
 wf:p.WF
 free:∀f∈p.fs,f.pins=[]
section
variable {p:Pl} {n:ByteArray} {N q:Nat} {T:Nat→UInt8×List UInt8}
theorem Calm.roomy (h:Calm p n N q T):p.fs.length<p.most∨∃g∈p.fs,g.pins=[]:=by
 by_cases hl:p.fs.length<p.most
 ·exact .inl hl
 ·right
  have:=h.wf.most
  match hf:p.fs with
  |[]=>rw[hf] at hl;simp at hl;omega
  |f::_=>exact⟨f,List.mem_cons_self,h.free f (by rw[hf];exact List.mem_cons_self)⟩
theorem Calm.len (h:Calm p n N q T):p.d.len n=(N,0):=by obtain⟨_,t⟩:=h.told;rw[t.bc.len,t.len]
theorem Calm.fit (h:Calm p n N q T):p.Fit:=by obtain⟨_,t⟩:=h.told;exact t.fit
theorem Calm.back {l:List Fr} {f:Fr} {x:Int} (hw:p.WF) (ht:∃pg,Told p n N q T pg) (hf:p.fs=l++[f]) (hx:f.pins=[x]) (hl:∀g∈l,g.pins=[]) (hn:p.next<9223372036854775807):
  (p.aD x).2=0∧Calm (p.aD x).1 n N q T∧(p.aD x).1.next=p.next∧(p.aD x).1.most=p.most:=by
 obtain⟨pg,t⟩:=ht
 have hi:p.fs[l.length]?=some f:=by rw[hf];simp
 obtain⟨u1,u2⟩:=t.aD hw hi (x:=x) (by rw[hx];simp)
 refine⟨by rw[u1],⟨⟨pg,u2⟩,hw.aD x hn,?_⟩,by rw[u1],by rw[u1]⟩
 rw[u1]
 intro g hg
 have hg:g∈p.fs.modify l.length (Fr.aD x (cR (p.tick+1))):=hg
 rw[hf,jK] at hg
 rcases List.mem_append.1 hg with r|r
 ·exact hl g r
 ·simp at r;subst r
  simp[Fr.aD,hx]
theorem Told.Bk {pg:List Pg} (h:Told p n N q T pg) (hw:p.WF) (hg:p.fs.length<p.most∨∃g∈p.fs,g.pins=[]) (hN:N<q) (hb:N<1048577) (hs:n.size≤9223372036854775807) (hx:p.next<9223372036854775807):(p.fresh n).1.WF:=by
 obtain⟨h1,⟨pg1,h2⟩,h3,_⟩:=h.roomy hw hg
 have hs5:(bp 0 []).length=512:=eG (by simp)
 obtain⟨w1,w2,w3⟩:=h2.bc.write (k:=N) hs5 (by rw[h2.len];omega) (by rw[h2.len];intro _;exact hN)
 have hrs:=p.bz
 have hlen:p.d.len n=(N,0):=by rw[h.bc.len,h.len]
 have e:p.fresh n=((p.room.1.aV (p.room.1.d.write n (N:Int) (bp 0 [])).1).take ⟨n,N,0,[],false,[],0⟩,p.room.1.next,(N:Int),0):=by
  unfold Pl.fresh
  rw[if_neg (by rw[h.wrong];simp),hlen]
  simp only
  rw[if_neg (by simp),if_neg (by rw[h1];simp),if_neg (by rw[w1];simp)]
 rw[e]
 obtain⟨v1,v2⟩:=hw.ng
 have hno:p.room.1.find n (N:Int)=none:=by
  have:=h2.fit.new (n:=n) (by rw[h2.bc.len])
  rw[h2.bc.len,h2.len] at this;exact this
 exact(v1.aV _).take (by show p.room.1.fs.length<p.room.1.most;rw[hrs.1];exact v2 h1) (by show p.room.1.next<_;rw[hrs.2.1];exact hx) hno (by simp) hb hs rfl rfl
theorem Calm.more (h:Calm p n N q T) (hN:N<q) (hq:q≤1048576) (hs:n.size≤9223372036854775807) (h0:0≤p.next) (h1:p.next<1099511627776) {k:UInt8} {b:List UInt8} (hb:b.length≤504):
  (p.more n k b).2=0∧Calm (p.more n k b).1 n (N+1) q (na T N (if k=0 then (0,[]) else (k,b)))∧(p.more n k b).1.next=p.next+1∧(p.more n k b).1.most=p.most:=by
 obtain⟨pg,t⟩:=h.told
 obtain⟨r1,r2,r3,r4,_,_,pg',r6⟩:=t.fresh h.wf h.roomy hN
 obtain⟨_,_,hsub,_⟩:=t.roomy h.wf h.roomy
 have hfree:∀g∈p.room.1.fs,g.pins=[]:=fun g hg=>h.free g (hsub g hg)
 have hnx:(p.fresh n).1.next=p.next+1:=by rw[r3];exact rJ h0 h1
 have hwf:(p.fresh n).1.WF:=t.Bk h.wf h.roomy hN (by omega) hs (by omega)
 generalize p.room.1.fs=l at r2 hfree
 unfold Pl.more
 rw[r1]
 generalize (p.fresh n).1=s at*
 simp only
 rw[if_neg (by simp)]
 have hi:s.fs[l.length]?=some ⟨n,N,0,[],false,[p.next],0⟩:=by rw[r2];simp
 by_cases hk:k=0
 ·subst hk
  rw[if_pos rfl,if_pos rfl]
  obtain⟨b1,b2,b3,b4⟩:=Calm.back hwf ⟨pg',r6⟩ r2 rfl hfree (by omega)
  exact⟨b1,b2,by rw[←hnx];exact b3,b4.trans r4⟩
 ·rw[if_neg hk,if_neg hk]
  obtain⟨s1,s2⟩:=r6.set hwf hi (x:=p.next) (k:=k) (b:=b) (by simp) hb
  have hw2:=hwf.set p.next k b
  rw[s1] at hw2 ⊢
  have e2:(s.aZ l.length (Fr.set k b)).fs=l++[⟨n,N,k,b,true,[p.next],0⟩]:=by
   show s.fs.modify _ _=_
   rw[r2,jK];rfl
  have et:na (na T N (0,[])) N (k,b)=na T N (k,b):=by
   funext j
   by_cases e:j=N
   ·subst e;rw[dD,dD]
   ·rw[cN e,cN e,cN e]
  have s2':Told (s.aZ l.length (Fr.set k b)) n (N+1) q (na (na T N (0,[])) N (k,b)) pg':=s2
  rw[et] at s2'
  obtain⟨b1,b2,b3,b4⟩:=Calm.back (x:=p.next) hw2 ⟨pg',s2'⟩ e2 rfl hfree (by show s.next<_;omega)
  exact⟨b1,b2,b3.trans hnx,b4.trans r4⟩
theorem Calm.mH (h:Calm p n N q T) (hN:N=q) {k:UInt8} {b:List UInt8}:(p.more n k b).2=5:=by
 obtain⟨pg,t⟩:=h.told
 obtain⟨h1,⟨pg1,h2⟩,h3,_⟩:=t.roomy h.wf h.roomy
 have hs5:(bp 0 []).length=512:=eG (by simp)
 obtain⟨f,a1,a2,a3,a4⟩:=h2.bc.at
 have hwr:(p.room.1.d.write n (N:Int) (bp 0 [])).2=5:=by
  unfold Dk.write
  rw[if_neg (by rw[h2.bc.up];simp),dif_pos hs5,h2.bc.idx]
  simp only[h2.bc.ao]
  rw[if_neg (by rw[h2.len];omega),if_pos (by rw[h2.bc.used,h2.bc.quota,h2.len];omega)]
 have e:(p.fresh n).2.2.2=5:=by
  unfold Pl.fresh
  rw[if_neg (by rw[t.wrong];simp),h.len]
  simp only
  rw[if_neg (by simp),if_neg (by rw[h1];simp),if_pos (by rw[hwr];decide)]
  exact hwr
 unfold Pl.more
 rw[if_pos (by rw[e];decide)]
 exact e
theorem Calm.aQ (h:Calm p n N q T) (hq:q≤1048576) (hs:n.size≤9223372036854775807) (h0:0≤p.next) (h1:p.next<1099511627776) {k:Nat} (hk:k<N) (hNq:N≤q):
  (p.aQ n k).2=(p.next,0)∧(p.aQ n k).1.WF∧(∃pg,Told (p.aQ n k).1 n N q T pg)∧(p.aQ n k).1.next=p.next+1∧(p.aQ n k).1.most=p.most∧
  ∃(i:Nat) (f:Fr),(p.aQ n k).1.fs[i]?=some f∧f.pins=[p.next]∧f.page=k∧∀j g,j≠i→(p.aQ n k).1.fs[j]?=some g→g.pins=[]:=by
 obtain⟨pg,t⟩:=h.told
 have hnx:cR (p.next+1)=p.next+1:=rJ h0 h1
 cases hi:p.find n (k:Int) with
 |some i=>
   obtain⟨f,hf,hfn,hfk⟩:=Pl.fk hi
   obtain⟨r1,r2⟩:=t.EX hi hf
   rw[r1]
   refine⟨rfl,h.wf.dh hf (by omega),⟨pg,r2⟩,hnx,rfl,i,Fr.aQ p.next f,bG hf,?_,by show f.page=k;omega,fun j g hj hg=>?_⟩
   ·show f.pins++[p.next]=_
    rw[h.free f (List.mem_of_getElem? hf)];rfl
   ·have hg:(p.fs.modify i (Fr.aQ p.next))[j]?=some g:=hg
    rw[bC (fun e=>hj e.symm)] at hg
    exact h.free g (List.mem_of_getElem? hg)
 |none=>
   obtain⟨r1,r2,r3,r4,pg',r5⟩:=t.BV h.wf hi hk h.roomy
   obtain⟨z1,⟨pg1,z2⟩,hsub,_⟩:=t.roomy h.wf h.roomy
   have hwf:(p.aQ n k).1.WF:=by
    obtain⟨v1,v2⟩:=h.wf.ng
    have hrs:=p.bz
    have hno:∀g∈p.room.1.fs,g.page≠k:=fun g hgm e=>Pl.gd hi g (hsub g hgm) (z2.mine g hgm).1 (by omega)
    obtain⟨b,hb⟩:∃b,pg1[k]?=some b:=⟨_,List.getElem?_eq_getElem (by rw[z2.len];exact hk)⟩
    have ho:=z2.rest k b hb fun g hgm e=>absurd e (hno g hgm)
    have el:p.load n k=(p.room.1,some ⟨n,k,(T k).1,(T k).2,false,[],0⟩,0):=by
     unfold Pl.load
     rw[h.len]
     simp only
     rw[if_neg (by simp),if_neg (by omega),if_neg (by rw[z1];simp),z2.bc.read hb]
     simp only
     rw[if_neg (by simp),ho]
     simp
    have e:p.aQ n k=(p.room.1.take ⟨n,k,(T k).1,(T k).2,false,[],0⟩,p.room.1.next,0):=by
     unfold Pl.aQ
     rw[if_neg (by rw[t.wrong];simp),hi,el]
    have hlen5:(T k).2.length≤504:=vL ho
    have hfind:p.room.1.find n (k:Int)=none:=by
     unfold Pl.find
     rw[List.findIdx?_eq_none_iff]
     intro g hg
     have:=hno g hg
     have:¬((g.page:Int)=(k:Int)):=by omega
     simp[this]
    rw[e]
    exact v1.take (by rw[hrs.1];exact v2 z1) (by rw[hrs.2.1];omega) hfind hlen5 (by simp only;omega) hs rfl rfl
   refine⟨r1,hwf,⟨pg',r5⟩,r3.trans hnx,r4,p.room.1.fs.length,_,by rw[r2];simp;rfl,rfl,rfl,fun j g hj hg=>?_⟩
   rw[r2] at hg
   rcases Nat.lt_or_ge j p.room.1.fs.length with hlt|hge
   ·rw[List.getElem?_append_left hlt] at hg
    exact h.free g (hsub g (List.mem_of_getElem? hg))
   ·rw[List.getElem?_append_right hge] at hg
    have:j - p.room.1.fs.length≠0:=by omega
    obtain⟨m,hm⟩:∃m,j - p.room.1.fs.length=m+1:=⟨_,(Nat.succ_pred_eq_of_ne_zero this).symm⟩
    rw[hm] at hg;simp at hg
theorem Calm.Gq (hw:p.WF) (ht:∃pg,Told p n N q T pg) {i:Nat} {f:Fr} {x:Int} (hf:p.fs[i]?=some f) (hx:f.pins=[x]) (hl:∀j g,j≠i→p.fs[j]?=some g→g.pins=[]) (hn:p.next<9223372036854775807):
  (p.aD x).2=0∧Calm (p.aD x).1 n N q T∧(p.aD x).1.next=p.next∧(p.aD x).1.most=p.most:=by
 obtain⟨pg,t⟩:=ht
 obtain⟨u1,u2⟩:=t.aD hw hf (x:=x) (by rw[hx];simp)
 refine⟨by rw[u1],⟨⟨pg,u2⟩,hw.aD x hn,?_⟩,by rw[u1],by rw[u1]⟩
 rw[u1]
 intro g hg
 obtain⟨j,hj⟩:=List.mem_iff_getElem?.1 hg
 have hj:(p.fs.modify i (Fr.aD x (cR (p.tick+1))))[j]?=some g:=hj
 by_cases e:i=j
 ·subst e
  rw[bG hf] at hj
  cases hj;simp[Fr.aD,hx]
 ·rw[bC e] at hj
  exact hl j g (fun q=>e q.symm) hj
theorem Calm.look (h:Calm p n N q T) (hq:q≤1048576) (hs:n.size≤9223372036854775807) (h0:0≤p.next) (h1:p.next<1099511627776) {k:Nat} (hk:k<N) (hNq:N≤q):
  (p.look n k).2=((T k).1,(T k).2,0)∧Calm (p.look n k).1 n N q T∧(p.look n k).1.next=p.next+1∧(p.look n k).1.most=p.most:=by
 obtain⟨r1,r2,r3,r4,r5,i,f,r6,r7,r8,r9⟩:=h.aQ hq hs h0 h1 hk hNq
 unfold Pl.look
 rw[r1]
 generalize (p.aQ n k).1=s at*
 obtain⟨pg,t⟩:=r3
 have g1:=t.get r2 (x:=p.next) (List.mem_of_getElem? r6) (by rw[r7];simp)
 obtain⟨b1,b2,b3,b4⟩:=Calm.Gq r2 ⟨pg,t⟩ r6 r7 r9 (by omega)
 simp only
 rw[if_neg (by simp),g1]
 simp only
 rw[if_neg (by simp),b1,r8]
 exact⟨rfl,b2,b3.trans r4,b4.trans r5⟩
theorem Calm.aZ (h:Calm p n N q T) (hq:q≤1048576) (hs:n.size≤9223372036854775807) (h0:0≤p.next) (h1:p.next<1099511627776) {k:Nat} (hk:k<N) (hNq:N≤q) {kd:UInt8} {b:List UInt8} (hb:b.length≤504):
  (p.aQ n k).2=(p.next,0)∧(Pl.leave ((p.aQ n k).1.set p.next kd b) p.next).2=0∧Calm (Pl.leave ((p.aQ n k).1.set p.next kd b) p.next).1 n N q (na T k (kd,b))∧
  (Pl.leave ((p.aQ n k).1.set p.next kd b) p.next).1.next=p.next+1∧(Pl.leave ((p.aQ n k).1.set p.next kd b) p.next).1.most=p.most:=by
 obtain⟨r1,r2,r3,r4,r5,i,f,r6,r7,r8,r9⟩:=h.aQ hq hs h0 h1 hk hNq
 refine⟨r1,?_⟩
 generalize (p.aQ n k).1=s at*
 obtain⟨pg,t⟩:=r3
 obtain⟨s1,s2⟩:=t.set r2 r6 (x:=p.next) (k:=kd) (b:=b) (by rw[r7];simp) hb
 have hw2:=r2.set p.next kd b
 rw[s1] at hw2 ⊢
 rw[r8] at s2
 have e1:Pl.leave (s.aZ i (Fr.set kd b),0) p.next=(s.aZ i (Fr.set kd b)).aD p.next:=if_pos rfl
 rw[e1]
 have e6:(s.aZ i (Fr.set kd b)).fs[i]?=some (Fr.set kd b f):=bG r6
 obtain⟨b1,b2,b3,b4⟩:=Calm.Gq (x:=p.next) hw2 ⟨pg,s2⟩ e6 (by simpa[Fr.set] using r7) (fun j g hj hg=>r9 j g hj (by
  have hg:(s.fs.modify i (Fr.set kd b))[j]?=some g:=hg
  rw[bC (fun e=>hj e.symm)] at hg;exact hg)) (by show s.next<_;omega)
 exact⟨b1,b2,b3.trans r4,b4.trans r5⟩
theorem Calm.flush (h:Calm p n N q T):
  (p.flush n).2=0∧Calm (p.flush n).1 n N q T∧(p.flush n).1.most=p.most∧∃f,(p.flush n).1.d.files=[f]∧f.name=n∧f.log=[]∧f.synced.length=N∧∀(k:Nat) (b:Pg),f.synced[k]?=some b→dG b.1=some (T k):=by
 obtain⟨pg,t⟩:=h.told
 obtain⟨r1,⟨pg',r2,f,r3,r4,r5,r6⟩,r7,r8,r9⟩:=t.flush h.wf
 refine⟨r1,⟨⟨pg',r2⟩,h.wf.flush n,fun g hg=>?_⟩,r9,f,r3,r4,r6,by rw[r5];exact r2.len,fun k b hk=>?_⟩
 ·rw[r7] at hg
  obtain⟨g',h1,rfl⟩:=List.mem_map.1 hg
  exact h.free g' h1
 ·rw[r5] at hk
  refine r2.rest k b hk fun g hg _=>?_
  rw[r7] at hg
  obtain⟨g',h1,rfl⟩:=List.mem_map.1 hg
  rfl
end
theorem nz {a b:Sl} {la lb:List Int} {H:Heap} {K:Bool→Heap→Prop} (ha:Ints .u64 H a la) (hb:Ints .u64 H b lb) (hlen:la.length<4611686018427387904) (hK:K (decide (la=lb)) H):BQ.sp a b H K:=by
 refine BQ.of ?_
 unfold BQ.vc
 have la1:=ha.len
 have lb1:=hb.len
 refine ag (fun h=>?_) (fun h=>?_)
 ·have h1:la≠lb:=by intro e;subst e;simp[la1,lb1] at h
  simpa[h1] using hK
 ·have h':(a.n:Int)=(b.n:Int):=by simpa using h
  have hl:la.length=lb.length:=by omega
  refine⟨Nat,fun k i H'=>i=(k:Int)∧k≤la.length∧H'=H∧la.take k=lb.take k,fun k=>la.length - k,⟨0,rfl,Nat.zero_le _,rfl,by simp⟩,?_⟩
  rintro k i H' ⟨rfl,hk,rfl,ht⟩
  refine ag (fun h1=>?_) (fun h1=>?_)
  ·have h1':(k:Int)<(a.n:Int):=by simpa using h1
   have hlt:k<la.length:=by omega
   refine ha.ld (by omega) (by omega) fun ad1 e1=>?_
   refine hb.ld (by omega) (by omega) fun ad2 e2=>?_
   simp only[Int.toNat_natCast]
   refine ag (fun h2=>?_) (fun h2=>?_)
   ·have h3:la≠lb:=by intro e;subst e;simp at h2
    simpa[h3] using hK
   ·refine⟨k+1,⟨by rw[wrap64 (by omega) (by omega)];omega,by omega,by trivial,?_⟩,by omega⟩
    rw[List.take_succ_eq_append_getElem hlt,List.take_succ_eq_append_getElem (by omega:k<lb.length),ht]
    have:la[k]'hlt=lb[k]'(by omega):=by simpa[List.getD,List.getElem?_eq_getElem hlt,List.getElem?_eq_getElem (by omega:k<lb.length)] using h2
    rw[this]
  ·have h1':¬((k:Int)<(a.n:Int)):=by simpa using h1
   have hge:k=la.length:=by omega
   subst hge
   have h2:la=lb:=by rw[List.take_of_length_le (Nat.le_refl _),List.take_of_length_le (by omega)] at ht;exact ht
   simpa[h2] using hK
theorem vh {a b:Sl} {la lb:List Int} {H:Heap} {K:Bool→Heap→Prop} (ha:Ints .u64 H a la) (hb:Ints .u64 H b lb) (hlen:la.length<1099511627776) (hK:K (decide (la=lb)) H):BQ.sp a b H K:=nz ha hb (by omega) hK
theorem ov:El Tryz.prog jc iw 8 (.int .u64 0):=wK (zb:=pH .u64) mP rfl (by kernel_rfl)
theorem ET:El Tryz.prog dw eA 1 (.int .u8 0):=wK (zb:=pH .u8) mP rfl (by kernel_rfl)
theorem EK:El Tryz.prog pP jc 24 (.slice none 0 0):=wK (zb:=Az) Al rfl (by kernel_rfl)
def bt:List Int→List Int→Int
 |[],[]=>0
 |[],_::_=>-1
 |_::_,[]=>1
 |x::a,y::b=>if x<y then -1 else if y<x then 1 else bt a b
theorem qH:∀{a b:List Int},bt a b=0↔a=b
 |[],[]=>by simp[bt]
 |[],_::_=>by simp[bt]
 |_::_,[]=>by simp[bt]
 |x::a,y::b=>by
   unfold bt
   have ih:=@qH a b
   split
   ·simp;intro h;omega
   ·split
    ·simp;intro h;omega
    ·rw[ih];simp;intro;omega
theorem qq:∀(a b:List Int),bt b a=- bt a b
 |[],[]=>by simp[bt]
 |[],_::_=>by simp[bt]
 |_::_,[]=>by simp[bt]
 |x::a,y::b=>by
   have ih:=qq a b
   simp only[bt]
   split
   ·rw[if_neg (by omega)];try rfl
   ·split
    ·rfl
    ·exact ih
theorem drop_cons {l:List Int} {k:Nat} (h:k<l.length):l.drop k=l.getD k 0::l.drop (k+1):=by
 rw[List.drop_eq_getElem_cons h];simp[List.getD,List.getElem?_eq_getElem h]
theorem ka {a b:Sl} {la lb:List Int} {H:Heap} {K:Int→Heap→Prop} (ha:Ints .u64 H a la) (hb:Ints .u64 H b lb) (hlen:la.length<1099511627776) (hK:K (bt la lb) H):yR.sp a b H K:=by
 refine yR.of ?_
 unfold yR.vc
 have la1:=ha.len
 have lb1:=hb.len
 refine aw la.length (fun k i H'=>i=(k:Int)∧k≤lb.length∧H'=H∧bt la lb=bt (la.drop k) (lb.drop k)) ⟨rfl,Nat.zero_le _,rfl,by simp⟩ ?_
 rintro k i H' next hk ⟨rfl,hkb,rfl,hc⟩ hnext
 refine ag (fun h=>?_) (fun h=>?_)
 ·simp only[Bool.and_eq_true,decide_eq_true_eq] at h
  have h1:k<la.length:=by omega
  have h2:k<lb.length:=by omega
  rw[drop_cons h1,drop_cons h2,bt] at hc
  refine ha.ld (by omega) (by omega) fun ad1 e1=>?_
  refine hb.ld (by omega) (by omega) fun ad2 e2=>?_
  simp only[Int.toNat_natCast]
  refine ag (fun h3=>?_) (fun h3=>?_)
  ·have h3':la.getD k 0<lb.getD k 0:=by simpa using h3
   rw[if_pos h3'] at hc;rw[←hc];exact hK
  ·have h3':¬la.getD k 0<lb.getD k 0:=by simpa using h3
   rw[if_neg h3'] at hc
   refine ha.ld (by omega) (by omega) fun ad3 e3=>?_
   refine hb.ld (by omega) (by omega) fun ad4 e4=>?_
   simp only[Int.toNat_natCast]
   refine ag (fun h4=>?_) (fun h4=>?_)
   ·have h4':lb.getD k 0<la.getD k 0:=by simpa using h4
    rw[if_pos h4'] at hc;rw[←hc];exact hK
   ·have h4':¬lb.getD k 0<la.getD k 0:=by simpa using h4
    rw[if_neg h4'] at hc
    exact hnext h1 _ _ ⟨by rw[aK k (by omega)],h2,rfl,hc⟩
 ·have h':la.length≤k∨lb.length≤k:=by
   simp only[Bool.and_eq_false_iff,decide_eq_false_iff_not] at h
   omega
  have e:bt la lb=if la.length<lb.length then -1 else if la.length>lb.length then 1 else 0:=by
   rw[hc]
   rcases h' with h'|h'
   ·rw[List.drop_of_length_le h']
    cases hd:lb.drop k with
    |nil=>
      have:=List.drop_eq_nil_iff.1 hd
      rw[if_neg (by omega),if_neg (by omega)];rfl
    |cons y r=>
      have:=List.length_drop (i:=k) (l:=lb)
      rw[hd] at this;simp at this
      rw[if_pos (by omega)];rfl
   ·rw[List.drop_of_length_le h']
    cases hd:la.drop k with
    |nil=>
      have:=List.drop_eq_nil_iff.1 hd
      rw[if_neg (by omega),if_neg (by omega)];rfl
    |cons y r=>
      have:=List.length_drop (i:=k) (l:=la)
      rw[hd] at this;simp at this
      rw[if_neg (by omega),if_pos (by omega)];rfl
  rw[e] at hK
  refine ag (fun h3=>?_) (fun h3=>?_)
  ·rw[if_pos (by simp at h3;omega)] at hK;exact hK
  ·rw[if_neg (by simp at h3;omega)] at hK
   refine ag (fun h4=>?_) (fun h4=>?_)
   ·rw[if_pos (by simp at h4;omega)] at hK;exact hK
   ·rw[if_neg (by simp at h4;omega)] at hK;exact hK
theorem qg {x y:Int} {H:Heap} {K:Int→Heap→Prop} (hK:K (if x<y then -1 else if y<x then 1 else 0) H):BJ.sp x y H K:=by
 have hn:∀{z:Int} {H:Heap} {K:Bool→Heap→Prop},K false H→CO.sp z H K:=by
  intro z H K h
  refine CO.of ?_
  unfold CO.vc
  simpa using h
 refine BJ.of ?_
 unfold BJ.vc
 refine hn (hn ?_)
 simp only[br]
 refine ag (fun h=>?_) (fun h=>?_)
 ·rw[if_pos (by simpa using h)] at hK;exact hK
 ·rw[if_neg (by simpa using h)] at hK
  refine ag (fun h=>?_) (fun h=>?_)
  ·rw[if_pos (by simpa using h)] at hK;exact hK
  ·rw[if_neg (by simpa using h)] at hK;exact hK
theorem kf {a b:Sl} {la lb:List Int} {H:Heap} {K:Int→Heap→Prop} (ha:Ints .u64 H a la) (hb:Ints .u64 H b lb) (hlen:la.length<1099511627776) (hK:K (bt la lb) H):xJ.sp a b H K:=by
 refine xJ.of ?_
 unfold xJ.vc
 refine E6.of ?_
 unfold E6.vc
 have la1:=ha.len
 have lb1:=hb.len
 refine aw la.length (fun k i H'=>i=(k:Int)∧k≤lb.length∧H'=H∧bt la lb=bt (la.drop k) (lb.drop k)) ⟨rfl,Nat.zero_le _,rfl,by simp⟩ ?_
 rintro k i H' next hk ⟨rfl,hkb,rfl,hc⟩ hnext
 refine ag (fun h=>?_) (fun h=>?_)
 ·have h1:k<la.length:=by simp at h;omega
  rw[drop_cons h1] at hc
  refine ha.ld (by omega) (by omega) fun ad1 e1=>?_
  simp only[Int.toNat_natCast]
  refine ag (fun h2=>?_) (fun h2=>?_)
  ·have h2':lb.length≤k:=by simp at h2;omega
   rw[List.drop_of_length_le h2',bt] at hc
   rw[←hc];exact hK
  ·have h2':k<lb.length:=by simp at h2;omega
   rw[drop_cons h2',bt] at hc
   refine hb.ld (by omega) (by omega) fun ad2 e2=>?_
   simp only[Int.toNat_natCast]
   refine qg ?_
   refine ag (fun h3=>?_) (fun h3=>?_)
   ·have e:bt la lb=(if la.getD k 0<lb.getD k 0 then -1 else if lb.getD k 0<la.getD k 0 then 1 else 0):=by
     rw[hc]
     by_cases q1:la.getD k 0<lb.getD k 0
     ·rw[if_pos q1,if_pos q1]
     ·by_cases q2:lb.getD k 0<la.getD k 0
      ·rw[if_neg q1,if_pos q2,if_neg q1,if_pos q2]
      ·rw[if_neg q1,if_neg q2] at h3;simp at h3
    rw[←e];exact hK
   ·have h3':¬la.getD k 0<lb.getD k 0∧¬lb.getD k 0<la.getD k 0:=by
     constructor
     ·intro q;rw[if_pos q] at h3;simp at h3
     ·intro q;rw[if_neg (by omega),if_pos q] at h3;simp at h3
    rw[if_neg h3'.1,if_neg h3'.2] at hc
    exact hnext h1 _ _ ⟨by rw[aK k (by omega)],h2',rfl,hc⟩
 ·have h1:la.length≤k:=by simp at h;omega
  rw[List.drop_of_length_le h1] at hc
  refine ag (fun h2=>?_) (fun h2=>?_)
  ·have h2':k<lb.length:=by simp at h2;omega
   rw[drop_cons h2',bt] at hc
   rw[←hc];exact hK
  ·have h2':lb.length≤k:=by simp at h2;omega
   rw[List.drop_of_length_le h2',bt] at hc
   rw[←hc];exact hK
structure gw (H:Heap) (base:Nat) (r:Sl) (l:List Int):Prop where
 own:aN H base iw 1 ⟨r.a,r.n+1,r.c⟩ ((l++[30583]).map (Value.int .u64))
theorem gw.len {H:Heap} {base:Nat} {r:Sl} {l:List Int} (h:gw H base r l):r.n=l.length:=by
 have:=h.own.1;simp at this;omega
theorem gw.cap {H:Heap} {base:Nat} {r:Sl} {l:List Int} (h:gw H base r l):r.n+1≤r.c:=h.own.cap
theorem gw.ints {H:Heap} {base:Nat} {r:Sl} {l:List Int} (h:gw H base r l):Ints .u64 H r l:=by
 refine⟨h.len,?_⟩
 have:=h.own.reads.take l.length
 simpa using this
theorem gw.mod {F:Nat→Prop} {H H':Heap} {base:Nat} {r:Sl} {l:List Int} (h:gw H base r l) (hm:Mod F H H') (hn:∀b,aj r b→¬F b):gw H' base r l:=⟨h.own.mod hm hn⟩
theorem gw.block {H:Heap} {base:Nat} {r:Sl} {l:List Int} (h:gw H base r l):∀b,aj r b→base≤b∧b<H.size:=h.own.block
theorem El.wk {P:Program} {t ty e:TypeId} {bytes:Nat} {z:Value} (h:El P t e bytes z) {H:Heap} {base:Nat} {s:Sl} {xs:List Value} {v:Value} {K:Sl→Heap→Prop}
  (hown:aN H base e 1 s xs) (h1:v.oneCell'=true) (hn:s.n+1≤4611686018427387904) (hb:(s.n+1)*bytes≤140737488355328) (hbase:base≤H.size)
  (hK:∀(s':Sl) (H':Heap),s'.n=s.n+1→aN H' base e 1 s' (xs++[v])→Mod (aj s) H H'→(∀b,aj s' b→aj s b∨H.size≤b)→s'.a≠none→K s' H'):
  aP H #[v] e fun p H1=>bu aq P (Builtin.append_ #[t,t] ty #[s.v,.slice (some p) 1 1]) H1 K:=by
 have hpush:Mod (fun _=>False) H (H.push (.cells #[v] e)):=Mod.push _ _ _
 refine El.ru (base:=base) (s:=s) (x:=⟨some ⟨H.size,0,none⟩,1,1⟩) (xs:=xs) (ws:=[v]) h (hown.ext hpush) rfl ?_ (by simpa using h1) (by simpa using hn) hb (by simp;omega) ?_
 ·intro i u hu
  cases i with
  |zero=>simp at hu;subst hu;exact⟨_,rfl,cK (c:=#[v]) (t:=e) (fz:=(0,0)) (by simp) (by simp)⟩
  |succ i=>simp at hu
 ·intro s' H' h2 h3 h4 h5 h6
  refine hK s' H' h2 h3 ((Ext.mod hpush).trans h4) (fun b hb=>?_) (fun hh=>by have:=(h6.1 hh).2;simp at this)
  rcases h5 b hb with h7|h7
  ·exact .inl h7
  ·simp at h7;exact .inr (by omega)
theorem zm {l:Sl} {ll:List Int} {H:Heap} {K:Sl→Heap→Prop} (hl:Ints .u64 H l ll) (hlen:ll.length≤17592186043904)
  (hK:∀r H',gw H' H.size r ll→Ext H H'→K r H'):EH.sp l H K:=by
 refine EH.of ?_
 unfold EH.vc
 have ln:=hl.len
 refine ov.ru (base:=H.size) (s:=Sl.mk none 0 0) (x:=l) (xs:=[]) (ws:=ll.map (Value.int .u64)) (aN.nil _ _ _ _) (by simp;omega) hl.reads (od _ _) (by simp only;omega) (by simp only;omega) (Nat.le_refl _) ?_
 intro out H1 n1 o1 m1 b1 _
 simp only at n1
 have e1:Ext H H1:=m1.ext (by rintro b ⟨ad,h,_⟩;cases h)
 refine ov.wk (base:=H.size) (s:=out) o1 rfl (by omega) (by omega) e1.size ?_
 intro out2 H2 n2 o2 m2 b2 _
 have e2:Ext H H2:=(e1.mod (F:=aj out).trans m2).ext (fun b hb=>(o1.block b hb).1)
 have hc:=o2.cap
 refine⟨by omega,?_⟩
 refine hK _ _ ⟨?_⟩ e2
 rw[jw]
 have en:out2.n=(l.n:Int).toNat - 0+1:=by simp;omega
 have:Sl.mk out2.a ((l.n:Int).toNat - 0+1) (out2.c - 0)=out2:=by cases out2;simp only at en;simp[en]
 show aN H2 H.size iw 1 (Sl.mk out2.a ((l.n:Int).toNat - 0+1) (out2.c - 0)) _
 rw[this]
 simpa using o2
theorem zi {r l:Sl} {ll:List Int} {base:Nat} {H:Heap} {K:Bool→Heap→Prop} (hr:gw H base r ll) (hl:Ints .u64 H l ll) (hlen:ll.length≤17592186043904) (hK:K true H):Em.sp r l H K:=by
 refine Em.of ?_
 unfold Em.vc
 have ln:=hl.len
 have rn:=hr.len
 have hc:=hr.cap
 refine nz hr.ints hl (by omega) ?_
 simp only[decide_true,br]
 rw[wrap64 (by omega) (by omega)]
 refine⟨by omega,?_⟩
 rw[jw]
 obtain⟨ad,ha,hcell⟩:=hr.own.reads.at (i:=ll.length) (by simp)
 refine c6 ad ha ⟨by omega,30583,?_,hK⟩
 simp only[Int.toNat_natCast,Nat.mul_one,ln]
 rw[hcell];simp
theorem qN {l:Sl} {xs:List Value} {base:Nat} {H:Heap} {K:Unit→Heap→Prop} (hl:aN H base iw 1 l xs) (hlen:l.n≤17592186043904) (hbase:base≤H.size)
  (hK:∀H',Mod (aj l) H H'→K () H'):zw.sp l H K:=by
 refine zw.of ?_
 unfold zw.vc
 refine aw l.n (fun k i H'=>i=(k:Int)∧Mod (aj l) H H'∧∃ys,aN H' base iw 1 l ys) ⟨rfl,.refl _ _,_,hl⟩ ?_
 rintro k i H1 next hk ⟨rfl,m1,ys,o1⟩ hnext
 refine ag (fun h=>?_) (fun h=>?_)
 ·have hlt:k<l.n:=by simp at h;omega
  refine o1.st (by omega) (by omega) rfl fun H2 o2 m2 _=>?_
  exact hnext hlt _ _ ⟨by rw[aK k (by omega)],m1.trans m2,_,o2⟩
 ·refine aw 3 (fun k z H'=>z.2=(k:Int)∧z.1.n=l.n+k∧Mod (aj l) H H'∧(∀b,aj z.1 b→aj l b∨H.size≤b)∧∃ys,aN H' base iw 1 z.1 ys) ⟨rfl,rfl,m1,fun b hb=>.inl hb,_,o1⟩ ?_
  rintro j ⟨m,i⟩ H3 next3 hj ⟨hi,hn,m3,b3,ys3,o3⟩ hnext3
  simp only at hi hn b3 o3 ⊢
  subst hi
  refine ag (fun h2=>?_) (fun h2=>?_)
  ·have hlt:j<3:=by simp at h2;omega
   refine ov.wk (base:=base) o3 rfl (by omega) (by omega) (Nat.le_trans hbase m3.size) ?_
   intro m' H4 n4 o4 m4 b4 _
   refine hnext3 hlt _ _ ⟨by rw[aK j (by omega)],by simp only;omega,m3.trans' m4 (fun b hb hb'=>?_),fun b hb=>?_,_,o4⟩
   ·rcases b3 b hb' with h5|h5
    ·exact h5
    ·omega
   ·rcases b4 b hb with h5|h5
    ·exact b3 b h5
    ·exact .inr (Nat.le_trans m3.size h5)
  ·exact hK _ m3
theorem zB {l:Sl} {xs:List Value} {base:Nat} {H:Heap} {K:Unit→Heap→Prop} (hl:aN H base iw 1 l xs) (hlen:l.n≤1000000) (hbase:base≤H.size)
  (hK:∀H',Mod (aj l) H H'→K () H'):zw.sp l H K:=qN hl (by omega) hbase hK
def bg (w:Int):Int:=if w<0∨w>16 then 0 else if w=0 then 1 else 8*w
theorem pI {w:Int} {H:Heap} {K:Int→Heap→Prop} (hK:K (bg w) H):De.sp w H K:=by
 refine De.of ?_
 unfold De.vc
 unfold bg at hK
 refine ag (fun h=>?_) (fun h=>?_)
 ·have h':w<0:=by simpa using h
  rw[if_pos (.inl h')] at hK
  simpa[h',br] using hK
 ·have h':¬w<0:=by simpa using h
  refine ag (fun h2=>?_) (fun h2=>?_)
  ·rw[if_pos (.inr (by simpa using h2))] at hK;exact hK
  ·have h2':¬w>16:=by simpa using h2
   rw[if_neg (by omega)] at hK
   refine ag (fun h3=>?_) (fun h3=>?_)
   ·rw[if_pos (by simpa using h3)] at hK;exact hK
   ·rw[if_neg (by simpa using h3)] at hK
    rw[wrap64 (by omega) (by omega)];exact hK
theorem pj {w:Int} {H:Heap} {K:Int→Heap→Prop} (hK:K (bg w) H):Cm.sp w H K:=by
 refine Cm.of ?_
 unfold Cm.vc
 unfold bg at hK
 refine ag (fun h=>?_) (fun h=>?_)
 ·rw[if_pos (by simpa using h)] at hK;exact hK
 ·have h':¬(w<0∨w>16):=by simpa using h
  rw[if_neg h'] at hK
  rw[wrap64 (by omega) (by omega)]
  by_cases h0:w=0
  ·rw[if_pos h0] at hK;subst h0;simpa using hK
  ·rw[if_neg h0] at hK;rw[if_pos (by omega)];exact hK
def aS (w:Int):Int:=if bg w=0 then 0 else Int.tdiv 504 (bg w)
theorem dW (w:Int):bg w=0∨(0<bg w∧bg w≤128):=by
 unfold bg;split
 ·simp
 ·split
  ·simp
  ·right;omega
theorem nI (w:Int):IntKind.i64.wrap (Int.tdiv 504 (bg w))=Int.tdiv 504 (bg w):=by
 have h0:=Int.tdiv_nonneg (a:=504) (b:=bg w) (by omega) (by rcases dW w with h|h<;>omega)
 have h1:Int.tdiv 504 (bg w)≤504:=by
  rcases dW w with h|h
  ·rw[h];simp
  ·exact Int.tdiv_le_self _ (by omega)
 exact wrap64 (by omega) (by omega)
theorem uU {w:Int} {H:Heap} {K:Int→Heap→Prop} (hK:K (aS w) H):EA.sp w H K:=by
 refine EA.of ?_
 unfold EA.vc
 refine pI ?_
 unfold aS at hK
 have hc:=dW w
 refine ag (fun h=>?_) (fun h=>?_)
 ·have h':bg w>0:=by simpa using h
  rw[if_neg (by omega)] at hK
  refine⟨by omega,?_⟩
  rw[nI];exact hK
 ·have h':¬bg w>0:=by simpa using h
  rw[if_pos (by omega)] at hK;exact hK
theorem eW {w:Int} {H:Heap} {K:Int→Heap→Prop} (hK:K (aS w) H):ye.sp w H K:=by
 refine ye.of ?_
 unfold ye.vc
 refine pj ?_
 unfold aS at hK
 refine ag (fun h=>?_) (fun h=>?_)
 ·rw[if_pos (by simpa using h)] at hK;exact hK
 ·rw[if_neg (by simpa using h)] at hK
  refine⟨by simpa using h,?_⟩
  rw[nI];exact hK
structure Rows (H:Heap) (s:Sl) (ls:List (List Int)):Prop where
 len:s.n=ls.length
 at':∀i (h:i<ls.length),∃ad r,s.a=some ad∧cp H (ad.add i)=some (Sl.v r)∧Ints .u64 H r ls[i]
theorem Rows.ld {H:Heap} {s:Sl} {ls:List (List Int)} (h:Rows H s ls) {i:Nat} (hi:i<ls.length) {K:Addr→Sl→Prop} (hK:∀ad r,s.a=some ad→Ints .u64 H r (ls[i]'hi)→K ad r):
  ab s.a fun a=>(0≤(i:Int)∧(i:Int)<(s.n:Int))∧ld aq H (a.add ((i:Int).toNat*1)) fun x=>K a x:=by
 obtain⟨ad,r,e,hc,hr⟩:=h.at' i hi
 refine c6 ad e ⟨⟨by omega,by rw[h.len];omega⟩,r,?_,hK ad r e hr⟩
 simp only[Int.toNat_natCast,Nat.mul_one]
 exact hc
def fO (n:Int) (k:Nat):Int:=IntKind.u8.wrap (cr .u64 n (56 - 8*(k:Int)))
def cu (n:Int):List Int:=(List.range 8).map (fO n)
def bS (l:List Int):List Int:=if l=[] then [0] else l.flatMap cu
theorem bD (n:Int):(cu n).length=8:=by simp[cu]
theorem nH:∀(l:List Int),(l.flatMap cu).length=8*l.length
 |[]=>rfl
 |x::r=>by rw[List.flatMap_cons,List.length_append,bD,nH r];simp;omega
theorem je (n:Int) {k:Nat} (hk:k<8):(cu n).take (k+1)=(cu n).take k++[fO n k]:=by
 rw[List.take_succ_eq_append_getElem (by rw[bD];exact hk)]
 simp[cu]
theorem jH {l:List Int} {k:Nat} (hk:k<l.length):(l.take (k+1)).flatMap cu=(l.take k).flatMap cu++cu (l.getD k 0):=by
 rw[List.take_succ_eq_append_getElem hk,List.flatMap_append]
 simp only[List.flatMap_cons,List.flatMap_nil,List.append_nil,List.getD,List.getElem?_eq_getElem hk,Option.getD_some]
theorem wL:zc Tryz.prog zY=Array.replicate 8 (.int .u8 0):=by kernel_rfl
theorem qv:lX Tryz.prog zY 8=true:=by kernel_rfl
theorem ym {n:Int} {H:Heap} {K:Array Value→Heap→Prop} (hK:∀H',Ext H H'→K ((cu n).map (Value.int .u8)).toArray H'):EJ.sp (zc Tryz.prog zY) n H K:=by
 refine EJ.of ?_
 unfold EJ.vc
 rw[wL]
 refine oT fun p H1 hp s1 r1 e1=>?_
 refine oT fun q H2 hq s2 r2 e2=>?_
 have hpq:p.block≠q.block:=by omega
 refine aw 8 (fun k z H'=>z=(k:Int)∧(∃cs:List Value,cs.length=8∧cs.take k=((cu n).take k).map (Value.int .u8)∧iv H' p cs.toArray)∧iv H' q (Array.replicate 8 (.int .u8 0))∧Ext H H') ⟨rfl,⟨List.replicate 8 (.int .u8 0),by simp,by simp,r1.mod e2 id⟩,r2,e1.trans e2⟩ ?_
 rintro k z H3 next hk ⟨rfl,⟨cs,hl,ht,r3⟩,q3,e3⟩ hnext
 refine ag (fun h=>?_) (fun h=>?_)
 ·have hlt:k<8:=by simp at h;omega
  rw[wrap64 (x:=8*(k:Int)) (by omega) (by omega),wrap64 (by omega) (by omega)]
  refine⟨by omega,by omega,?_⟩
  simp only[Int.toNat_natCast,Nat.mul_one]
  refine r3.st (by simp;omega) rfl fun H4 r4 m4 _=>?_
  refine hnext hlt _ _ ⟨by rw[aK k (by omega)],⟨cs.set k (.int .u8 (fO n k)),by simpa using hl,?_,by rw[←List.setIfInBounds_toArray];exact r4⟩,q3.mod m4 (fun hh=>hpq hh.symm),?_⟩
  ·rw[je n hlt,List.map_append,←ht,List.take_succ_eq_append_getElem (by simpa[hl] using hlt)]
   simp[List.take_set]
   rw[List.set_eq_of_length_le (by simp;omega)]
  ·exact⟨Nat.le_trans e3.size m4.size,fun b hb _=>(m4.same b (Nat.lt_of_lt_of_le hb e3.size) (by omega)).trans (e3.same b hb id)⟩
 ·have hge:k=8:=by simp at h;omega
  subst hge
  rw[List.take_of_length_le (by omega),List.take_of_length_le (by rw[bD];omega)] at ht
  subst ht
  refine r3.dE (by simp[bD]) ?_
  refine q3.ja (by simpa[bD] using qv) (by simp[bD]) (by simp[Value.oneCell']) fun H5 r5 m5 _=>?_
  refine r5.dE (by simp[bD]) ?_
  exact hK _ ⟨Nat.le_trans e3.size m5.size,fun b hb _=>(m5.same b (Nat.lt_of_lt_of_le hb e3.size) (by omega)).trans (e3.same b hb id)⟩
theorem Au {H:Heap}:aN (H.push (.cells #[.int .u8 0] eA)) H.size eA 1 ⟨some ⟨H.size,0,none⟩,1,1⟩ ([(0:Int)].map (Value.int .u8)):=
 aN.fresh (Nat.le_refl _) (Nat.le_refl _) (by unfold maxLen;omega) rfl rfl rfl
theorem qp {l:Sl} {ll:List Int} {H:Heap} {K:Sl→Heap→Prop} (hl:Ints .u64 H l ll) (hlen:ll.length≤1000000)
  (hK:∀s H',aN H' H.size eA 1 s ((bS ll).map (Value.int .u8))→Ext H H'→K s H'):uV.sp l H K:=by
 refine uV.of ?_
 unfold uV.vc
 have ln:=hl.len
 refine ag (fun h=>?_) (fun h=>?_)
 ·have h':ll=[]:=List.eq_nil_of_length_eq_zero (by simp at h;omega)
  refine hK _ _ ?_ (Mod.push _ _ _)
  unfold bS
  rw[if_pos h']
  exact Au
 ·have h':ll≠[]:=by intro e;subst e;simp at ln;simp[ln] at h
  unfold bS at hK
  rw[if_neg h'] at hK
  rw[wrap64 (by omega) (by omega)]
  refine ET.make (base:=H.size) (by omega) (by omega) (by omega) (by omega) (Nat.le_refl _) ?_
  intro out H1 n1 o1 e1 b1 _
  refine aw ll.length (fun k z H'=>z.2=(k:Int)∧z.1.n=8*k∧aN H' H.size eA 1 z.1 (((ll.take k).flatMap cu).map (Value.int .u8))∧Ext H H') ⟨rfl,by simpa using n1,by simpa using o1,e1⟩ ?_
  rintro k ⟨s,i⟩ H2 next hk ⟨hi,hn,o2,e2⟩ hnext
  simp only at hi hn o2 ⊢
  subst hi
  refine ag (fun h=>?_) (fun h=>?_)
  ·have hlt:k<ll.length:=by simp at h;omega
   refine(hl.ext e2).ld (by omega) (by omega) fun ad1 q1=>?_
   simp only[Int.toNat_natCast]
   refine ym fun H3 e3=>?_
   rw[wL]
   refine oT fun p H4 hp s4 r4 e4=>?_
   refine r4.ja (by simpa[bD] using qv) (by simp[bD]) (by simp[Value.oneCell']) fun H5 r5 m5 s5=>?_
   have e34:Ext H2 H4:=e3.trans e4
   have e25:Ext H2 H5:=(e34.mod (F:=fun b=>b=p.block).trans m5).ext (fun b hb=>by have:=e3.size;omega)
   rw[jw]
   refine ET.append (base:=H.size) (s:=s) (x:=⟨some p,8 - 0,8 - 0⟩) (ws:=(cu (ll.getD k 0)).map (Value.int .u8)) (o2.ext e25) (by simp[bD]) (by simpa using r5.reads) (od _ _) (by simp only;omega) (by simp only;omega) (e2.trans e25).size ?_
   intro s' H6 n6 o6 m6 b6 _
   refine hnext hlt _ _ ⟨by rw[aK k (by omega)],by simp only at n6 ⊢;omega,?_,((Ext.mod (F:=aj s) (e2.trans e25)).trans m6).ext (fun b hb=>(o2.block b hb).1)⟩
   simp only
   rw[jH hlt,List.map_append];exact o6
  ·have hge:k=ll.length:=by simp at h;omega
   subst hge
   rw[List.take_of_length_le (Nat.le_refl _)] at o2
   exact hK s H2 o2 e2
theorem ra {l:Sl} {ll:List Int} {H:Heap} {K:Sl→Heap→Prop} (hl:Ints .u64 H l ll) (hlen:ll.length≤1000000)
  (hK:∀s H',aN H' H.size eA 1 s ((bS ll).map (Value.int .u8))→Ext H H'→K s H'):Dt.sp l H K:=by
 refine Dt.of ?_
 unfold Dt.vc
 have ln:=hl.len
 refine ag (fun h=>?_) (fun h=>?_)
 ·have h':ll=[]:=List.eq_nil_of_length_eq_zero (by simp at h;omega)
  refine hK _ _ ?_ (Mod.push _ _ _)
  unfold bS
  rw[if_pos h']
  exact Au
 ·have h':ll≠[]:=by intro e;subst e;simp at ln;simp[ln] at h
  unfold bS at hK
  rw[if_neg h'] at hK
  refine aw ll.length (fun k z H'=>z.2=(k:Int)∧z.1.n=8*k∧aN H' H.size eA 1 z.1 (((ll.take k).flatMap cu).map (Value.int .u8))∧Ext H H') ⟨rfl,rfl,aN.nil _ _ _ _,Mod.refl _ _⟩ ?_
  rintro k ⟨s,i⟩ H2 next hk ⟨hi,hn,o2,e2⟩ hnext
  simp only at hi hn o2 ⊢
  subst hi
  refine ag (fun h=>?_) (fun h=>?_)
  ·have hlt:k<ll.length:=by simp at h;omega
   refine aw 8 (fun j z H'=>z.2=56 - 8*(j:Int)∧z.1.n=8*k+j∧aN H' H.size eA 1 z.1 (((ll.take k).flatMap cu++(cu (ll.getD k 0)).take j).map (Value.int .u8))∧Ext H H') ⟨rfl,hn,by simpa using o2,e2⟩ ?_
   rintro j ⟨s2,i2⟩ H3 next3 hj ⟨hi2,hn2,o3,e3⟩ hnext3
   simp only at hi2 hn2 o3 ⊢
   subst hi2
   refine ag (fun h=>?_) (fun h=>?_)
   ·have hlt2:j<8:=by simp at h;omega
    refine(hl.ext e3).ld (by omega) (by omega) fun ad1 q1=>?_
    simp only[Int.toNat_natCast]
    refine⟨by omega,?_⟩
    refine ET.push (base:=H.size) o3 rfl (by omega) (by omega) e3.size ?_
    intro s' H4 n4 o4 m4 b4 _
    refine hnext3 hlt2 _ _ ⟨by simp only;rw[wrap64 (by omega) (by omega)];omega,by simp only;omega,?_,(e3.mod (F:=aj s2).trans m4).ext (fun b hb=>(o3.block b hb).1)⟩
    simp only
    rw[je _ hlt2,←List.append_assoc,List.map_append]
    exact o4
   ·have hge:j=8:=by simp at h;omega
    subst hge
    rw[List.take_of_length_le (l:=cu (ll.getD k 0)) (by rw[bD];omega)] at o3
    refine hnext hlt _ _ ⟨by rw[aK k (by omega)],by simp only;omega,?_,e3⟩
    simp only
    rw[jH hlt];exact o3
  ·have hge:k=ll.length:=by simp at h;omega
   subst hge
   rw[List.take_of_length_le (Nat.le_refl _)] at o2
   exact hK s H2 o2 e2
def jx (w b:Int):Int:=IntKind.u64.wrap (IntKind.u64.wrap (w*256)+IntKind.u64.wrap b)
def bH (bs:List Int):Int:=bs.foldl jx 0
def rowOf (c:List Int) (w:Nat):List Int:=(List.range w).map fun j=>bH ((c.drop (8*j)).take 8)
def da (b:List Int) (w:Int):Bool:=decide (bg w≠0)&&decide (Int.tmod (b.length:Int) (bg w)=0)&&(decide (w≠0)||b.all fun x=>decide (x=0))
def bx (b:List Int) (n k:Nat):List Int:=(b.drop (k*n)).take n
def rowsOf (b:List Int) (w:Int) (m:Nat):List (List Int):=(List.range m).map fun k=>rowOf (bx b (bg w).toNat k) w.toNat
def fS (b:List Int) (w:Int):List (List Int):=if da b w then rowsOf b w (b.length/(bg w).toNat) else []
def kq (b:List Int) (w:Int):Int:=if da b w then 0 else 60
theorem po (x:Int):IntKind.u64.wrap x=x%18446744073709551616:=by
 rw[IntKind.wrap_u64]
theorem tw (w b:Int):0≤jx w b∧jx w b<18446744073709551616:=by
 unfold jx;rw[po];omega
theorem fU (bs:List Int):0≤bH bs∧bH bs<18446744073709551616:=by
 unfold bH
 rcases List.eq_nil_or_concat bs with h|⟨l,x,h⟩
 ·subst h;simp
 ·subst h;rw[List.concat_eq_append,List.foldl_append];exact tw _ _
theorem zP {x b:Int} (hx:0≤x) (hx2:x<18446744073709551616) (hb:0≤b) (hb2:b<256):uL .u64 (ji .u64 x 8) (IntKind.u64.wrap b)=jx x b:=by
 unfold jx uL ji
 have e0:(2:Int)^(min (8:Int).toNat IntKind.u64.bits)=256:=by decide
 rw[e0]
 simp only[po]
 obtain⟨n,rfl⟩:=Int.eq_ofNat_of_zero_le hx
 obtain⟨m,rfl⟩:=Int.eq_ofNat_of_zero_le hb
 have hm:m<256:=by omega
 obtain⟨r,hr⟩:∃r,r=n%72057594037927936:=⟨_,rfl⟩
 have hr2:r<72057594037927936:=by omega
 have e1:((n:Int)*256)%18446744073709551616=((256*r:Nat):Int):=by omega
 have e2:(m:Int)%18446744073709551616=((m:Nat):Int):=by omega
 have e3:(BitVec.ofInt IntKind.u64.bits ((256*r:Nat):Int)|||BitVec.ofInt IntKind.u64.bits ((m:Nat):Int)).toNat=256*r+m:=by
  have hb64:IntKind.u64.bits=64:=rfl
  have hor:=Nat.two_pow_add_eq_or_of_lt (i:=8) (b:=m) hm r
  rw[BitVec.ofInt_natCast,BitVec.ofInt_natCast,BitVec.toNat_or,BitVec.toNat_ofNat,BitVec.toNat_ofNat,hb64,Nat.mod_eq_of_lt (by omega),Nat.mod_eq_of_lt (by omega)]
  exact hor.symm
 rw[e1,e2,e3]
 rw[Int.natCast_add]
theorem eF (c:List Int) (w:Nat):(rowOf c w).length=w:=by simp[rowOf]
theorem vf {c:List Int} {w i:Nat} (hi:i<c.length) (hw:c.length=8*w):
  (rowOf (c.take i) w).set (i/8) (jx ((rowOf (c.take i) w).getD (i/8) 0) (c.getD i 0))=rowOf (c.take (i+1)) w:=by
 have hq:i/8<w:=by omega
 apply List.ext_getElem
 ·simp[rowOf]
 ·intro j h1 h2
  have hj:j<w:=by simpa[rowOf] using h2
  have e0:∀t,((c.take t).drop (8*j)).take 8=(c.drop (8*j)).take (min 8 (t - 8*j)):=by
   intro t;rw[List.drop_take,List.take_take]
  rw[List.getElem_set]
  by_cases hji:i/8=j
  ·subst hji
   rw[if_pos rfl]
   simp only[rowOf,List.getD,List.getElem?_map,List.getElem?_range hq,Option.map_some,Option.getD_some,List.getElem_map,List.getElem_range]
   simp only[e0]
   have e1:min 8 (i+1 - 8*(i/8))=min 8 (i - 8*(i/8))+1:=by omega
   have e2:min 8 (i - 8*(i/8))=i - 8*(i/8):=by omega
   have hlt:i - 8*(i/8)<(c.drop (8*(i/8))).length:=by simp;omega
   rw[e1,e2,List.take_succ_eq_append_getElem hlt]
   unfold bH
   rw[List.foldl_append,List.foldl_cons,List.foldl_nil]
   congr 1
   rw[List.getElem?_eq_getElem hi,Option.getD_some,List.getElem_drop]
   congr 1
   omega
  ·rw[if_neg hji]
   simp only[rowOf,List.getElem_map,List.getElem_range,e0]
   congr 2
   omega
theorem xk (w:Nat):rowOf [] w=List.replicate w 0:=by
 apply List.ext_getElem
 ·simp[rowOf]
 ·intro j h1 h2;simp[rowOf,bH]
structure aT (H:Heap) (base:Nat) (s:Sl) (rs:List Sl) (ls:List (List Int)):Prop where
 out:aN H base jc 1 s (rs.map Sl.v)
 len:rs.length=ls.length
 row:∀(i:Nat) (r:Sl) (l:List Int),rs[i]?=some r→ls[i]?=some l→aN H base iw 1 r (l.map (Value.int .u64))
 apart:∀(i j:Nat) (r r':Sl),i≠j→rs[i]?=some r→rs[j]?=some r'→∀b,aj r b→¬aj r' b
theorem aT.nil (H:Heap) (base:Nat):aT H base (Sl.mk none 0 0) [] []:=⟨aN.nil _ _ _ _,rfl,by simp,by simp⟩
theorem aT.n {H:Heap} {base:Nat} {s:Sl} {rs:List Sl} {ls:List (List Int)} (h:aT H base s rs ls):s.n=ls.length:=by
 have h1:=h.out.1;have h2:=h.len;simp at h1;omega
theorem aT.mod {F:Nat→Prop} {H H':Heap} {base:Nat} {s:Sl} {rs:List Sl} {ls:List (List Int)} (h:aT H base s rs ls) (hm:Mod F H H') (hs:∀b,aj s b→¬F b) (hr:∀r∈rs,∀b,aj r b→¬F b):aT H' base s rs ls:=
 ⟨h.out.mod hm hs,h.len,fun i r l h1 h2=>(h.row i r l h1 h2).mod hm (hr r (List.mem_of_getElem? h1)),h.apart⟩
theorem aT.ext {H H':Heap} {base:Nat} {s:Sl} {rs:List Sl} {ls:List (List Int)} (h:aT H base s rs ls) (hm:Ext H H'):aT H' base s rs ls:=h.mod hm (fun _ _=>id) (fun _ _ _ _=>id)
theorem aT.rowAt {H:Heap} {base:Nat} {s:Sl} {rs:List Sl} {ls:List (List Int)} (h:aT H base s rs ls) {r:Sl} (hr:r∈rs):∃l:List Int,aN H base iw 1 r (l.map (Value.int .u64)):=by
 obtain⟨i,hi⟩:=List.mem_iff_getElem?.1 hr
 have hlt:i<ls.length:=by rw[←h.len];exact(List.getElem?_eq_some_iff.1 hi).1
 exact⟨_,h.row i r _ hi (List.getElem?_eq_getElem hlt)⟩
theorem aT.block {H:Heap} {base:Nat} {s:Sl} {rs:List Sl} {ls:List (List Int)} (h:aT H base s rs ls):(∀b,aj s b→base≤b∧b<H.size)∧∀r∈rs,∀b,aj r b→base≤b∧b<H.size:=
 ⟨h.out.block,fun r hr=>by obtain⟨l,hl⟩:=h.rowAt hr;exact hl.block⟩
theorem aT.rows {H:Heap} {base:Nat} {s:Sl} {rs:List Sl} {ls:List (List Int)} (h:aT H base s rs ls):Rows H s ls:=by
 refine⟨h.n,fun i hi=>?_⟩
 have hir:i<rs.length:=by rw[h.len];exact hi
 obtain⟨ad,ha,hc⟩:=h.out.reads.at (i:=i) (by simpa using hir)
 exact⟨ad,rs[i],ha,by simpa using hc,(h.row i _ _ (List.getElem?_eq_getElem hir) (List.getElem?_eq_getElem hi)).ints⟩
theorem aT.Gr {ty:TypeId} {H:Heap} {base:Nat} {s:Sl} {rs:List Sl} {ls:List (List Int)} {r:Sl} {l:List Int} {K:Sl→Heap→Prop} (h:aT H base s rs ls)
  (hr:aN H base iw 1 r (l.map (Value.int .u64))) (hap:∀r'∈rs,∀b,aj r b→¬aj r' b) (hn:s.n+1≤1099511627776) (hbase:base≤H.size)
  (hK:∀s' H',s'.n=s.n+1→aT H' base s' (rs++[r]) (ls++[l])→Mod (aj s) H H'→(∀b,aj s' b→aj s b∨H.size≤b)→K s' H'):
  aP H #[r.v] jc fun p H1=>bu aq Tryz.prog (Builtin.append_ #[pP,pP] ty #[s.v,.slice (some p) 1 1]) H1 K:=by
 refine EK.push (base:=base) h.out rfl hn (by omega) hbase ?_
 intro s' H' n1 o1 m1 b1 _
 refine hK s' H' n1 ⟨by simpa using o1,by simp[h.len],?_,?_⟩ m1 b1
 ·intro i x y hx hy
  rw[List.getElem?_append] at hx hy
  have hl:=h.len
  split at hx
  ·rename_i hlt
   rw[if_pos (by omega)] at hy
   exact(h.row i x y hx hy).mod m1 (fun b hb hb'=>(h.row i x y hx hy).apart h.out (by decide) b hb hb')
  ·rename_i hge
   rw[if_neg (by omega)] at hy
   have e1:i - rs.length=0:=by
    have:=(List.getElem?_eq_some_iff.1 hx).1;simp at this;omega
   have e2:i - ls.length=0:=by omega
   rw[e1] at hx;rw[e2] at hy
   simp at hx hy
   subst hx;subst hy
   exact hr.mod m1 (fun b hb hb'=>hr.apart h.out (by decide) b hb hb')
 ·intro i j x y hij hx hy b hb
  have key:∀(i:Nat) (x:Sl),(rs++[r])[i]?=some x→(i<rs.length∧rs[i]?=some x)∨(i=rs.length∧x=r):=by
   intro i x hx
   rw[List.getElem?_append] at hx
   split at hx
   ·rename_i hlt;exact .inl ⟨hlt,hx⟩
   ·rename_i hge
    have e1:i - rs.length=0:=by
     have:=(List.getElem?_eq_some_iff.1 hx).1;simp at this;omega
    rw[e1] at hx;simp at hx
    exact .inr ⟨by omega,hx.symm⟩
  rcases key i x hx with ⟨h1,h2⟩|⟨h1,h2⟩<;>rcases key j y hy with ⟨h3,h4⟩|⟨h3,h4⟩
  ·exact h.apart i j x y hij h2 h4 b hb
  ·subst h4;exact fun hb'=>hap x (List.mem_of_getElem? h2) b hb' hb
  ·subst h2;exact hap y (List.mem_of_getElem? h4) b hb
  ·omega
theorem aT.push {ty:TypeId} {H:Heap} {base:Nat} {s:Sl} {rs:List Sl} {ls:List (List Int)} {r:Sl} {l:List Int} {K:Sl→Heap→Prop} (h:aT H base s rs ls)
  (hr:aN H base iw 1 r (l.map (Value.int .u64))) (hap:∀r'∈rs,∀b,aj r b→¬aj r' b) (hn:s.n+1≤1099511627776) (hbase:base≤H.size)
  (hK:∀s' H',s'.n=s.n+1→aT H' base s' (rs++[r]) (ls++[l])→Mod (aj s) H H'→K s' H'):
  aP H #[r.v] jc fun p H1=>bu aq Tryz.prog (Builtin.append_ #[pP,pP] ty #[s.v,.slice (some p) 1 1]) H1 K:=
 aT.Gr h hr hap hn hbase fun s' H' a b c _=>hK s' H' a b c
theorem nD (b:List Int) (w:Int) (m:Nat):rowsOf b w (m+1)=rowsOf b w m++[rowOf (bx b (bg w).toNat m) w.toNat]:=by
 simp[rowsOf,List.range_succ]
theorem tmod_zero {a n:Nat} (_:0<n) (h:Int.tmod (a:Int) (n:Int)=0):a=a/n*n:=by
 rw[←Int.ofNat_tmod] at h
 have h1:a%n=0:=by exact_mod_cast h
 have:=Nat.div_add_mod a n
 rw[h1,Nat.mul_comm] at this
 omega
theorem l9 {b:List Int} {n k j:Nat} (hj:j<n):(bx b n k).getD j 0=b.getD (k*n+j) 0:=by
 unfold bx
 simp only[List.getD,List.getElem?_take,List.getElem?_drop]
 rw[if_pos hj]
theorem jn {b:List Int} {n k m:Nat} (hb:b.length=m*n) (hk:k<m):(bx b n k).length=n:=by
 unfold bx
 have:=Nat.mul_le_mul_right n (Nat.succ_le_of_lt hk)
 rw[Nat.succ_mul] at this
 simp;omega
theorem qP {b:List Int} {w:Int} {k:Nat} (hw:w=0) (hk:k<b.length) (h:b.getD k 0≠0):da b w=false:=by
 unfold da
 have:(b.all fun x=>decide (x=0))=false:=by
  rw[List.all_eq_false]
  refine⟨b[k],List.getElem_mem _,?_⟩
  simp[List.getD,List.getElem?_eq_getElem hk] at h
  simpa using h
 rw[this]
 simp[hw]
theorem kJ {b:List Int} {w:Int} (h1:bg w≠0) (h2:Int.tmod (b.length:Int) (bg w)=0) (h3:w=0→∀k,k<b.length→b.getD k 0=0):da b w=true:=by
 unfold da
 simp only[Bool.and_eq_true,decide_eq_true_eq,Bool.or_eq_true,List.all_eq_true]
 refine⟨⟨h1,h2⟩,?_⟩
 by_cases hw:w=0
 ·right
  intro x hx
  obtain⟨k,hk,e⟩:=List.mem_iff_getElem.1 hx
  have:=h3 hw k hk
  simp[List.getD,List.getElem?_eq_getElem hk] at this
  rw[←e];exact this
 ·exact .inl hw
theorem qU {p:Sl} {b:List Int} {w:Int} {H:Heap} {K:(Sl×Int)→Heap→Prop} (hp:Ints .u8 H p b) (hlen:b.length≤1000000)
  (hK:∀s rs H',aT H' H.size s rs (fS b w)→Ext H H'→K (s,kq b w) H'):CU.sp p w H K:=by
 refine CU.of ?_
 unfold CU.vc
 have pn:=hp.len
 have bad:∀H',Ext H H'→da b w=false→K (Sl.mk none 0 0,60) H':=by
  intro H' e hf
  have:=hK (Sl.mk none 0 0) [] H' (by unfold fS;rw[hf];exact aT.nil _ _) e
  unfold kq at this;rw[hf] at this;exact this
 refine pj ?_
 refine ag (fun h=>?_) (fun h=>?_)
 ·have h':bg w=0:=by simpa using h
  exact bad _ (Mod.refl _ _) (by unfold da;simp[h'])
 ·have h':bg w≠0:=by simpa using h
  have hsz:=dW w
  refine⟨h',ag (fun h2=>?_) (fun h2=>?_)⟩
  ·have h2':¬Int.tmod (b.length:Int) (bg w)=0:=by rw[pn] at h2;simpa using h2
   exact bad _ (Mod.refl _ _) (by unfold da;simp[h2'])
  ·have h2':Int.tmod (b.length:Int) (bg w)=0:=by rw[pn] at h2;simpa using h2
   obtain⟨n,hn⟩:∃n:Nat,bg w=(n:Int):=⟨(bg w).toNat,by omega⟩
   have hn0:0<n:=by omega
   have hmul:b.length=b.length/n*n:=tmod_zero hn0 (by rw[←hn];exact h2')
   have hw0:0≤w∧w≤16:=by 
    unfold bg at h'
    split at h'
    ·exact absurd rfl h'
    ·omega
   have hnw:w≠0→n=8*w.toNat:=by
    intro hw;unfold bg at hn;rw[if_neg (by omega),if_neg hw] at hn;omega
   refine aw (b.length/n) (fun k z H'=>z.2=((k*n:Nat):Int)∧z.1.n=k∧(w=0→∀j,j<k→b.getD j 0=0)∧(∃rs,aT H' H.size z.1 rs (rowsOf b w k))∧Ext H H') ⟨by simp,rfl,fun _ j hj=>by omega,⟨[],aT.nil _ _⟩,Mod.refl _ _⟩ ?_
   rintro k ⟨s,i⟩ H2 next hk ⟨hi,hsn,hz,⟨rs,r2⟩,e2⟩ hnext
   simp only at hi hsn r2 ⊢
   have hbl:k<b.length/n→k*n+n≤b.length:=by
    intro hlt
    have:=Nat.mul_le_mul_right n (Nat.succ_le_of_lt hlt)
    rw[Nat.succ_mul] at this;omega
   refine ag (fun h3=>?_) (fun h3=>?_)
   ·have hlt:k<b.length/n:=by
     rcases Nat.lt_or_ge k (b.length/n) with q|q
     ·exact q
     ·have e:k=b.length/n:=by omega
      simp at h3;rw[hi,pn] at h3;rw[e] at h3;omega
    have hb2:=hbl hlt
    have hk1:k<b.length:=by have:=Nat.le_mul_of_pos_right k hn0;omega
    refine⟨fun _ H'=>H2=H'∧(w=0→b.getD k 0=0),?_,?_⟩
    ·refine ag (fun h4=>?_) (fun h4=>⟨rfl,fun hw=>by simp at h4;exact absurd hw h4⟩)
     have hw:w=0:=by simpa using h4
     have hn1:n=1:=by unfold bg at hn;rw[hw] at hn;simp at hn;omega
     refine gr (hp.ext e2) (j:=k) (by rw[hi,hn1];simp) hk1 fun ad q=>?_
     refine ag (fun h5=>?_) (fun h5=>⟨rfl,fun _=>by simpa using h5⟩)
     exact bad _ e2 (qP hw hk1 (by simpa using h5))
    ·rintro _ H3 ⟨rfl,hzero⟩
     refine aw w.toNat (fun j z H'=>z.2=(j:Int)∧z.1.n=j∧aN H' H.size iw 1 z.1 (((rowOf (bx b n k) w.toNat).take j).map (Value.int .u64))∧(∀c,aj z.1 c→H2.size≤c)∧Ext H2 H') ⟨rfl,rfl,aN.nil _ _ _ _,(by rintro c ⟨ad,q,_⟩;cases q),Mod.refl _ _⟩ ?_
     rintro j ⟨s4,i4⟩ H4 next4 hj ⟨hi4,hn4,o4,b4,e4⟩ hnext4
     simp only at hi4 hn4 o4 b4 ⊢
     subst hi4
     refine ag (fun h5=>?_) (fun h5=>?_)
     ·have hjw:j<w.toNat:=by simp at h5;omega
      have hw:w≠0:=by omega
      have hn8:=hnw hw
      refine aw 8 (fun q z H'=>z.2=(q:Int)∧z.1=bH (((bx b n k).drop (8*j)).take q)∧H'=H4) ⟨rfl,by simp[bH],rfl⟩ ?_
      rintro q ⟨x5,i5⟩ H5 next5 hq ⟨hi5,hx5,rfl⟩ hnext5
      simp only at hi5 hx5 ⊢
      subst hi5
      have hcl:=jn hmul hlt
      refine ag (fun h6=>?_) (fun h6=>?_)
      ·have hq8:q<8:=by simp at h6;omega
       have eidx:IntKind.i64.wrap (IntKind.i64.wrap (i+IntKind.i64.wrap (8*(j:Int)))+(q:Int))=((k*n+(8*j+q):Nat):Int):=by
        rw[wrap64 (x:=8*(j:Int)) (by omega) (by omega),wrap64 (x:=i+_) (by omega) (by omega),wrap64 (by omega) (by omega),hi]
        push_cast;omega
       refine gr (hp.ext (e2.trans e4)) eidx (by omega) fun ad q1=>?_
       refine hnext5 hq8 _ _ ⟨by rw[aK q (by omega)],?_,rfl⟩
       simp only
       have hlt2:q<((bx b n k).drop (8*j)).length:=by simp;omega
       rw[List.take_succ_eq_append_getElem hlt2,hx5]
       unfold bH
       rw[List.foldl_append,List.foldl_cons,List.foldl_nil]
       show jx _ _=jx _ _
       congr 1
       rw[List.getElem_drop,←l9 (by omega)]
       simp[List.getD,List.getElem?_eq_getElem (show 8*j+q<(bx b n k).length by omega)]
      ·have hq8:q=8:=by simp at h6;omega
       subst hq8
       refine ov.push (base:=H.size) o4 rfl (by omega) (by omega) (e2.trans e4).size ?_
       intro s6 H6 n6 o6 m6 b6 _
       refine hnext4 hjw _ _ ⟨by rw[aK j (by omega)],by simp only;omega,?_,fun c hc=>?_,(e4.mod (F:=aj s4).trans m6).ext b4⟩
       ·simp only
        rw[List.take_succ_eq_append_getElem (by rw[eF];exact hjw),List.map_append]
        have e:(rowOf (bx b n k) w.toNat)[j]'(by rw[eF];exact hjw)=x5:=by
         rw[hx5];simp[rowOf]
        rw[e]
        exact o6
       ·rcases b6 c hc with q1|q1
        ·exact b4 c q1
        ·exact Nat.le_trans e4.size q1
     ·have hjw:j=w.toNat:=by simp at h5;omega
      subst hjw
      rw[List.take_of_length_le (by rw[eF];exact Nat.le_refl _)] at o4
      have r4:=r2.ext e4
      refine r4.push o4 (fun r' hr' c hc hc'=>?_) (by omega) (e2.trans e4).size ?_
      ·have h1:=(r2.block.2 r' hr' c hc').2
       have h2:=b4 c hc
       omega
      ·intro s7 H7 n7 r7 m7
       refine hnext hlt _ _ ⟨?_,by simp only;omega,fun hw j hj=>?_,⟨rs++[s4],?_⟩,((Ext.mod (F:=aj s) (e2.trans e4)).trans m7).ext (fun c hc=>(r2.block.1 c hc).1)⟩
       ·simp only
        rw[hn,hi,wrap64 (by omega) (by omega),Nat.succ_mul];push_cast;rfl
       ·rcases Nat.lt_or_ge j k with q|q
        ·exact hz hw j q
        ·have:j=k:=by omega
         rw[this];exact hzero hw
       ·simp only
        rw[nD,hn]
        exact r7
   ·have hge:k=b.length/n:=by
     rcases Nat.lt_or_ge k (b.length/n) with q|q
     ·have:=hbl q;simp at h3;rw[hi,pn] at h3;omega
     ·omega
    have hok:da b w=true:=kJ h' h2' (fun hw j hj=>hz hw j (by
     have hn1:n=1:=by unfold bg at hn;rw[hw] at hn;simp at hn;omega
     rw[hge,hn1];simpa using hj))
    have:=hK s rs H2 (by unfold fS;rw[hok,if_pos rfl,hn];simp only[Int.toNat_natCast];rw[←hge];exact r2) e2
    unfold kq at this;rw[hok] at this;exact this
theorem C0:zc Tryz.prog pP=#[.slice none 0 0]:=by kernel_rfl
theorem zf:zc Tryz.prog Fx=#[.int .i64 0]:=by kernel_rfl
theorem zS {p:Sl} {n:Int} {H:Heap} {K:Value→Heap→Prop} (hn:1≤n)
  (hK:∀c c1 H',c.block=H.size→c1.block=H.size+1→H'.size=H.size+2→cW H' c dw p.v→cW H' c1 fg (.int .i64 n)→Ext H H'→
   K (.func (.func yO.no) #[] #[.pointer (some c),.pointer (some c1)]) H'):Ez.sp p n H K:=by
 refine Ez.of ?_
 unfold Ez.vc
 refine dP fun c H1 hc s1 v1 e1=>?_
 refine dP fun c1 H2 hc1 s2 v2 e2=>?_
 refine v2.ld (c:=aa .i64) (x:=n) ?_
 refine ag (fun h=>?_) (fun h=>?_)
 ·simp at h;omega
 ·exact hK c c1 H2 hc (by omega) (by omega) (v1.ext e2) v2 (e1.trans e2)
theorem yl {l:Nat} {c c1:Addr} {p:Sl} {n m:Nat} {H:Heap} {K:Unit→Heap→Prop} (I:Nat→Heap→Prop) (D:Heap→Prop) (hn:0<n) (hm:p.n=m*n) (hc:p.n≤p.c) (hbig:p.n≤1000000) (hnb:n≤1000000)
  (hI:∀k H',I k H'→cW H' c dw p.v∧cW H' c1 fg (.int .i64 (n:Int))) (h0:I 0 H)
  (hs:∀k H',k<m→I k H'→bU Tryz.prog l #[(Sl.mk (p.a.map (·.add (k*n))) n n).v] H' fun b H''=>if b then I (k+1) H'' else D H'')
  (hfin:∀H',I m H'→K () H') (hD:∀H',D H'→K () H'):yO.sp l c c1 H K:=by
 refine yO.of ?_
 unfold yO.vc
 refine aw m (fun k i H'=>i=((k*n:Nat):Int)∧I k H') ⟨by simp,h0⟩ ?_
 rintro k i H1 next hk ⟨rfl,hIk⟩ hnext
 obtain⟨v,v1⟩:=hI k H1 hIk
 refine v.ld (c:=aq) (x:=p) ?_
 refine ag (fun h=>?_) (fun h=>?_)
 ·have hlt:k<m:=by
   rcases Nat.lt_or_ge k m with q|q
   ·exact q
   ·have e:k=m:=by omega
    subst e;simp at h;omega
  have hle:k*n+n≤p.n:=by
   have:=Nat.mul_le_mul_right n (Nat.succ_le_of_lt hlt)
   rw[Nat.succ_mul] at this;omega
  obtain⟨q,hq⟩:∃q,q=k*n:=⟨_,rfl⟩
  have hnx:(((k+1)*n:Nat):Int)=((q+n:Nat):Int):=by rw[hq,Nat.succ_mul]
  have hsy:=hs k H1 hlt hIk
  rw[←hq] at hle hsy ⊢
  refine v1.ld (c:=aa .i64) (x:=(n:Int)) ?_
  refine v.ld (c:=aq) (x:=p) ?_
  refine⟨by omega,?_⟩
  refine v.ld (c:=aq) (x:=p) ?_
  have eE:IntKind.i64.wrap ((q:Int)+(if ((p.n - (q:Int).toNat:Nat):Int)<(n:Int) then ((p.n - (q:Int).toNat:Nat):Int) else (n:Int)))=((q+n:Nat):Int):=by
   have:(if ((p.n - (q:Int).toNat:Nat):Int)<(n:Int) then ((p.n - (q:Int).toNat:Nat):Int) else (n:Int))=(n:Int):=by split<;>omega
   rw[this,wrap64 (by omega) (by omega)];omega
  rw[eE]
  refine⟨by omega,by omega,by omega,?_⟩
  have ea:eQ p.a ((q+n:Nat):Int).toNat (q:Int).toNat 1=p.a.map (·.add q):=by
   unfold eQ
   rw[if_neg (by simp;omega)]
   simp
  have en:((q+n:Nat):Int).toNat - (q:Int).toNat=n:=by omega
  rw[ea,en]
  refine hsy.mono fun b H2 hb=>?_
  cases b with
  |false=>exact hD H2 hb
  |true=>
    have hb':I (k+1) H2:=hb
    refine(hI _ _ hb').2.ld (c:=aa .i64) (x:=(n:Int)) ?_
    refine hnext hlt _ _ ⟨?_,hb'⟩
    rw[hnx,wrap64 (by omega) (by omega)];omega
 ·have e:k=m:=by
   rcases Nat.lt_or_ge k m with q|q
   ·have:=Nat.mul_le_mul_right n (Nat.succ_le_of_lt q)
    rw[Nat.succ_mul] at this;simp at h;omega
   ·omega
  subst e
  exact hfin H1 hIk
theorem Ints.chunk {H:Heap} {p:Sl} {b:List Int} (hp:Ints .u8 H p b) {k n:Nat} (hl:k*n+n≤b.length):Ints .u8 H (Sl.mk (p.a.map (·.add (k*n))) n n) (bx b n k):=by
 refine⟨by simp[bx];omega,?_⟩
 intro i v hv
 unfold bx at hv
 rw[List.map_take,List.map_drop] at hv
 have hi:i<n:=by
  have:=(List.getElem?_eq_some_iff.1 hv).1;simp at this;omega
 rw[List.getElem?_take,if_pos hi,List.getElem?_drop] at hv
 obtain⟨ad,e,hc⟩:=hp.reads _ _ hv
 exact⟨ad.add (k*n),by rw[e];rfl,by rw[add_add];exact hc⟩
structure mX (H0:Heap) (B:Nat) (b:List Int) (w:Int) (p:Sl) (r2:Nat) (p1 p2 p3 p4 c c1:Addr) (k:Nat) (H:Heap):Prop where
 r2:H[r2]?=some (.deferred (some []))
 v1:cW H p1 fg (.int .i64 w)
 v2:cW H p2 pP (.slice none 0 0)
 v3:cW H p3 Fx (.int .i64 0)
 vc:cW H c dw p.v
 vc1:cW H c1 fg (.int .i64 (bg w))
 rows:∃s rs,cW H p4 pP (Sl.v s)∧s.n=k∧aT H B s rs (rowsOf b w k)∧∀x∈rs,x.a≠none
 ext:Ext H0 H
 zero:w=0→∀j,j<k→b.getD j 0=0
theorem mX.mod {H0:Heap} {B:Nat} {b:List Int} {w:Int} {p:Sl} {r2:Nat} {p1 p2 p3 p4 c c1:Addr} {k:Nat} {F:Nat→Prop} {H H':Heap} (h:mX H0 B b w p r2 p1 p2 p3 p4 c c1 k H) (hm:Mod F H H')
  (h0:∀b,b<H0.size→¬F b) (hc:∀b cs t,H[b]?=some (.cells cs t (0,0))→¬F b) (hd:∀b d,H[b]?=some (.deferred d)→¬F b):mX H0 B b w p r2 p1 p2 p3 p4 c c1 k H':=by
 obtain⟨s,rs,v4,hn,ro,nn⟩:=h.rows
 refine⟨(hm.same _ ?_ (hd _ _ h.r2)).trans h.r2,h.v1.mod hm (hc _ _ _ h.v1.obj),h.v2.mod hm (hc _ _ _ h.v2.obj),h.v3.mod hm (hc _ _ _ h.v3.obj),h.vc.mod hm (hc _ _ _ h.vc.obj),h.vc1.mod hm (hc _ _ _ h.vc1.obj),
  ⟨s,rs,v4.mod hm (hc _ _ _ v4.obj),hn,ro.mod hm (fun b hb=>?_) (fun r hr b hb=>?_),nn⟩,(h.ext.mod (F:=F).trans hm).ext (fun b hb=>?_),h.zero⟩
 ·exact(Array.getElem?_eq_some_iff.1 h.r2).1
 ·obtain⟨cur,q⟩:=ro.out.obj b hb;exact hc _ _ _ q
 ·obtain⟨l,hl⟩:=ro.rowAt hr
  obtain⟨cur,q⟩:=hl.obj b hb;exact hc _ _ _ q
 ·rcases Nat.lt_or_ge b H0.size with q|q
  ·exact absurd hb (h0 b q)
  ·exact q
theorem mX.set {H0:Heap} {B:Nat} {b:List Int} {w:Int} {p:Sl} {r2:Nat} {p1 p2 p3 p4 c c1:Addr} {k l:Nat} {H:Heap} {x:Loop} {o:Obj} (h:mX H0 B b w p r2 p1 p2 p3 p4 c c1 k H) (hl:H[l]?=some (.loop x)) (hl0:H0.size≤l):
  mX H0 B b w p r2 p1 p2 p3 p4 c c1 k (H.setIfInBounds l o):=
 h.mod (F:=fun b=>b=l) (Mod.setObj rfl) (fun b hb e=>by omega) (fun b cs t hb e=>by subst e;rw[hl] at hb;cases hb) (fun b d hb e=>by subst e;rw[hl] at hb;cases hb)
theorem mX.FT {H0:Heap} {B:Nat} {b:List Int} {w:Int} {p:Sl} {r2:Nat} {p1 p2 p3 p4 c c1:Addr} {k:Nat} {H H':Heap} (h:mX H0 B b w p r2 p1 p2 p3 p4 c c1 k H) (hm:Ext H H'):mX H0 B b w p r2 p1 p2 p3 p4 c c1 k H':=
 h.mod hm (fun _ _=>id) (fun _ _ _ _=>id) (fun _ _ _=>id)
set_option maxHeartbeats 4000000 in
theorem yd {p:Sl} {b:List Int} {w:Int} {H:Heap} {K:(Sl×Int)→Heap→Prop} (hp:Ints .u8 H p b) (hc:p.n≤p.c) (hbb:∀x∈b,0≤x∧x<256) (hlen:b.length≤1000000)
  (hK:∀s rs H',aT H' H.size s rs (fS b w)→Ext H H'→(∀x∈rs,x.a≠none)→K (s,kq b w) H'):BI.sp p w H K:=by
 refine BI.of ?_
 unfold BI.vc
 rw[C0,zf]
 have pn:=hp.len
 refine dP fun p1 H1 hp1 s1 v1 e1=>?_
 refine dP fun p2 H2 hp2 s2 v2 e2=>?_
 refine dP fun p3 H3 hp3 s3 v3 e3=>?_
 have v1':=(v1.ext e2).ext e3
 have v2':=v2.ext e3
 have e03:Ext H H3:=(e1.trans e2).trans e3
 refine v1'.ld (c:=aa .i64) (x:=w) ?_
 -- the answer where the width is not one
 have bad:∀H4:Heap,cW H4 p2 pP (.slice none 0 0)→cW H4 p3 Fx (.int .i64 60)→Ext H H4→da b w=false→
   ld aq H4 p2 fun res=>ld (aa .i64) H4 p3 fun res_1=>K (res,res_1) H4:=by
  intro H4 q2 q3 e hf
  refine q2.ld (c:=aq) (x:=Sl.mk none 0 0) ?_
  refine q3.ld (c:=aa .i64) (x:=60) ?_
  have:=hK (Sl.mk none 0 0) [] H4 (by unfold fS;rw[hf];exact aT.nil _ _) e (by simp)
  unfold kq at this;rw[hf] at this;exact this
 have badW:da b w=false→st H3 p2 (.slice none 0 0) fun H5=>st H5 p3 (.int .i64 60) fun H6=>ld aq H6 p2 fun res=>ld (aa .i64) H6 p3 fun res_1=>K (res,res_1) H6:=by
  intro hf
  refine v2'.st rfl fun H5 q2 m5 s5=>?_
  refine(v3.mod m5 (by omega)).st rfl fun H6 q3 m6 s6=>?_
  exact bad H6 (q2.mod m6 (by omega)) q3 (((e03.mod (F:=fun b=>b=p2.block∨b=p3.block).trans (m5.mono (fun b _ h=>.inl h))).trans (m6.mono (fun b _ h=>.inr h))).ext (fun b hb=>by omega)) hf
 refine pI ?_
 refine ag (fun h=>badW (by unfold da;simp at h;simp[h])) (fun h=>?_)
 have h':bg w≠0:=by simpa using h
 have hsz:=dW w
 refine⟨h',ag (fun h2=>badW (by unfold da;rw[pn] at h2;simp at h2;simp[h2])) (fun h2=>?_)⟩
 have h2':Int.tmod (b.length:Int) (bg w)=0:=by rw[pn] at h2;simpa using h2
 obtain⟨n,hn⟩:∃n:Nat,bg w=(n:Int):=⟨(bg w).toNat,by omega⟩
 have hn0:0<n:=by omega
 obtain⟨m,hm⟩:∃m,m=b.length/n:=⟨_,rfl⟩
 have hmul:b.length=m*n:=by rw[hm];exact tmod_zero hn0 (by rw[←hn];exact h2')
 have hw0:0≤w∧w≤16:=by
  unfold bg at h'
  split at h'
  ·exact absurd rfl h'
  ·omega
 have hnw:w≠0→n=8*w.toNat:=by
  intro hw;unfold bg at hn;rw[if_neg (by omega),if_neg hw] at hn;omega
 have hn1:w=0→n=1:=by intro hw;unfold bg at hn;rw[hw] at hn;simp at hn;omega
 have hdiv:m≤b.length:=by rw[hm];exact Nat.div_le_self _ _
 have ediv:IntKind.i64.wrap (Int.tdiv (p.n:Int) (bg w))=((m:Nat):Int):=by
  rw[pn,hn,←Int.ofNat_tdiv,←hm,wrap64 (by omega) (by omega)]
 refine⟨h',?_⟩
 rw[ediv]
 refine EK.make (base:=H.size) (by omega) (by omega) (by omega) (by omega) e03.size ?_
 intro sl H9 n9 o9 e9 b9 _
 refine dP fun p4 H10 hp4 s10 v4 e10=>?_
 refine v4.st rfl fun H11 v4b m11 s11=>?_
 have m911:Ext H9 H11:=(e10.mod (F:=fun b=>b=p4.block).trans m11).ext (fun b hb=>by omega)
 have e011:Ext H H11:=(e03.trans e9).trans m911
 refine zS (by omega) fun c c1 H12 hcb hc1b s12 vc vc1 e12=>?_
 have hcallable:c7 Tryz.prog yO.no=true:=by kernel_rfl
 refine⟨yO.no,#[.pointer (some c),.pointer (some c1)],rfl,hcallable,fun rec hround=>?_⟩
 obtain⟨l,hl⟩:∃l,l=H12.size+1:=⟨_,rfl⟩
 obtain⟨r2,hr2⟩:∃r,r=H12.size:=⟨_,rfl⟩
 rw[←hl] at hround ⊢
 rw[←hr2]
 obtain⟨H13,hH13⟩:∃H13:Heap,H13=(H12.push (.deferred (some []))).push (.loop (rec .ready none)):=⟨_,rfl⟩
 rw[←hH13]
 have e13:Ext H12 H13:=by rw[hH13];exact(Mod.push _ _ _).trans (Mod.push _ _ _)
 have hl13:H13[l]?=some (.loop (rec .ready none)):=by rw[hH13,hl,Array.getElem?_push,if_pos (by simp)]
 have hr13:H13[r2]?=some (.deferred (some [])):=by rw[hH13,hr2];simp[Array.getElem?_push]
 have hl0:H.size≤l:=by have:=(e011.trans e12).size;omega
 have hp24:p2.block≠p4.block:=by have:=e9.size;omega
 have e913:Ext H9 H13:=(m911.trans e12).trans e13
 have e313:Ext H3 H13:=e9.trans e913
 -- between the rounds
 let I:Nat→Heap→Prop:=fun k H'=>H'[l]?=some (.loop (rec .ready none))∧mX H H.size b w p r2 p1 p2 p3 p4 c c1 k H'
 let D:Heap→Prop:=fun H'=>H'[l]?=some (.loop (rec .done (some .ret)))∧H'[r2]?=some (.deferred (some []))∧cW H' p2 pP (.slice none 0 0)∧cW H' p3 Fx (.int .i64 60)∧Ext H H'∧da b w=false
 refine Spec.mono (R:=fun v H'=>∃x:Unit,v=(bd []).enc x∧lf l rec H' _ _ _) (yl (l:=l) (c:=c) (c1:=c1) (p:=p) (n:=n) (m:=m) (H:=H13) (K:=fun _ H'=>lf l rec H' _ _ _) I D hn0 (by rw[pn];exact hmul) hc (by omega) (by omega) ?_ ?_ ?_ ?_ ?_) (fun v H' ⟨x,_,h⟩=>h)
 ·clear hround
  rintro k H' ⟨_,g⟩
  exact⟨g.vc,by have:=g.vc1;rw[hn] at this;exact this⟩
 ·clear hround
  refine⟨hl13,hr13,v1'.ext e313,v2'.ext e313,v3.ext e313,vc.ext e13,vc1.ext e13,⟨sl,[],(v4b.ext e12).ext e13,by simpa using n9,⟨by simpa using o9.ext e913,rfl,by simp,by simp⟩,by simp⟩,(e011.trans e12).trans e13,fun _ j hj=>by omega⟩
 ·-- a round
  rintro k H' hk ⟨hlr,g⟩
  refine hround [(Sl.mk (p.a.map (·.add (k*n))) n n).v] H' _ hlr ?_
  clear hround
  have hb2:k*n+n≤b.length:=by
   have:=Nat.mul_le_mul_right n (Nat.succ_le_of_lt hk)
   rw[Nat.succ_mul] at this;omega
  have hk1:k<b.length:=by have:=Nat.le_mul_of_pos_right k hn0;omega
  have hcl:=jn hmul hk
  show _∧_
  refine⟨hlr,?_⟩
  obtain⟨Hb,hHb⟩:∃Hb:Heap,Hb=H'.setIfInBounds l (.loop (rec .busy none)):=⟨_,rfl⟩
  rw[←hHb]
  have gb:mX H H.size b w p r2 p1 p2 p3 p4 c c1 k Hb:=by rw[hHb];exact g.set hlr hl0
  have hlb:Hb[l]?=some (.loop (rec .busy none)):=by rw[hHb];exact fi hlr
  refine⟨fun _ H14=>Hb=H14∧(w=0→b.getD k 0=0),?_,?_⟩
  ·refine gb.v1.ld (c:=aa .i64) (x:=w) ?_
   refine ag (fun h4=>?_) (fun h4=>⟨rfl,fun hw=>by simp at h4;exact absurd hw h4⟩)
   have hw:w=0:=by simpa using h4
   have hci:=(hp.ext gb.ext).chunk hb2
   refine gr hci (i:=0) (j:=0) rfl (by omega) fun ad q=>?_
   rw[l9 hn0,hn1 hw]
   have e0:k*1+0=k:=by omega
   rw[e0]
   refine ag (fun h5=>?_) (fun h5=>⟨rfl,fun _=>by simpa using h5⟩)
   have hf:=qP hw hk1 (by simpa using h5)
   refine gb.v2.st rfl fun H15 q2 m15 s15=>?_
   have hp23:p3.block≠p2.block:=by omega
   refine(gb.v3.mod m15 hp23).st rfl fun H16 q3 m16 s16=>?_
   have mm:Mod (fun b=>b=p2.block∨b=p3.block) Hb H16:=(m15.mono (fun b _ h=>.inl h)).trans (m16.mono (fun b _ h=>.inr h))
   have hll:l<Hb.size:=(Array.getElem?_eq_some_iff.1 hlb).1
   have h16:H16[l]?=some (.loop (rec .busy none)):=(mm.same l hll (by
    rintro(e|e)
    ·have:=gb.v2.obj;rw[←e,hlb] at this;cases this
    ·have:=gb.v3.obj;rw[←e,hlb] at this;cases this)).trans hlb
   have hrr:r2<Hb.size:=(Array.getElem?_eq_some_iff.1 gb.r2).1
   have h16r:H16[r2]?=some (.deferred (some [])):=(mm.same r2 hrr (by
    rintro(e|e)
    ·have:=gb.v2.obj;rw[←e,gb.r2] at this;cases this
    ·have:=gb.v3.obj;rw[←e,gb.r2] at this;cases this)).trans gb.r2
   refine⟨h16,?_⟩
   show D _
   have m17:Mod (fun b=>b=l) H16 (H16.setIfInBounds l (.loop (rec .done (some .ret)))):=Mod.setObj rfl
   have hne:∀q:Addr,∀t v,cW H16 q t v→q.block≠l:=fun q t v hv e=>by have:=hv.obj;rw[e,h16] at this;cases this
   have q2':=q2.mod m16 (Ne.symm hp23)
   refine⟨fi h16,(m17.same r2 (Array.getElem?_eq_some_iff.1 h16r).1 (by omega)).trans h16r,q2'.mod m17 (hne _ _ _ q2'),q3.mod m17 (hne _ _ _ q3),?_,hf⟩
   have e16:Ext H H16:=(gb.ext.mod (F:=fun b=>b=p2.block∨b=p3.block).trans mm).ext (fun b hb=>by omega)
   exact(e16.mod (F:=fun b=>b=l).trans m17).ext (fun b hb=>by omega)
  ·rintro _ H14 ⟨rfl,hzero⟩
   refine gb.v1.ld (c:=aa .i64) (x:=w) ?_
   refine ov.make (base:=H.size) hw0.1 (Int.le_refl _) (by omega) (by omega) gb.ext.size ?_
   intro sl1 H17 n17 o17 e17 b17 nn17
   have g17:=gb.FT e17
   refine g17.v1.ld (c:=aa .i64) (x:=w) ?_
   rw[wrap64 (x:=8*w) (by omega) (by omega)]
   refine aw (8*w.toNat) (fun i z H'=>z=(i:Int)∧aN H' H.size iw 1 sl1 ((rowOf ((bx b n k).take i) w.toNat).map (Value.int .u64))∧Ext Hb H') ⟨rfl,by simpa[xk] using o17,e17⟩ ?_
   rintro i z H18 next hi ⟨rfl,o18,e18⟩ hnext
   refine ag (fun h6=>?_) (fun h6=>?_)
   ·have hi8:i<8*w.toNat:=by simp at h6;omega
    have hw:w≠0:=by omega
    have hn8:=hnw hw
    have ei:IntKind.i64.wrap (Int.tdiv (i:Int) 8)=((i/8:Nat):Int):=by
     rw[show (8:Int)=((8:Nat):Int) from rfl,←Int.ofNat_tdiv,wrap64 (by omega) (by omega)]
    rw[ei]
    have hq:i/8<w.toNat:=by omega
    refine o18.ints.ld (by omega) (by rw[eF];omega) fun ad1 q1=>?_
    refine((hp.ext (gb.ext.trans e18)).chunk hb2).ld (by omega) (by omega) fun ad2 q2=>?_
    simp only[Int.toNat_natCast]
    have hr:=fU ((((bx b n k).take i).drop (8*(i/8))).take 8)
    have hx:(rowOf ((bx b n k).take i) w.toNat).getD (i/8) 0=bH ((((bx b n k).take i).drop (8*(i/8))).take 8):=by
     simp only[rowOf,List.getD,List.getElem?_map,List.getElem?_range hq,Option.map_some,Option.getD_some]
    have hby:0≤(bx b n k).getD i 0∧(bx b n k).getD i 0<256:=by
     have hi2:i<(bx b n k).length:=by omega
     simp only[List.getD,List.getElem?_eq_getElem hi2,Option.getD_some]
     exact hbb _ (List.mem_of_mem_drop (List.mem_of_mem_take (List.getElem_mem hi2)))
    rw[zP (by rw[hx];exact hr.1) (by rw[hx];exact hr.2) hby.1 hby.2]
    refine o18.st (by omega) (by rw[n17];omega) rfl fun H19 o19 m19 s19=>?_
    refine hnext hi8 _ _ ⟨by rw[aK i (by omega)],?_,(e18.mod (F:=aj sl1).trans m19).ext b17⟩
    rw[←vf (by omega) (by omega)]
    simp only[Int.toNat_natCast,←List.map_set] at o19
    exact o19
   ·have hi8:i=8*w.toNat:=by simp at h6;omega
    have hfull:rowOf ((bx b n k).take i) w.toNat=rowOf (bx b n k) w.toNat:=by
     by_cases hw:w=0
     ·rw[hw];rfl
     ·rw[List.take_of_length_le (by rw[hcl,hnw hw];omega)]
    rw[hfull] at o18
    have g18:=gb.FT e18
    obtain⟨s,rs,v4s,hsn,ro,nn⟩:=gb.rows
    have ro18:=ro.ext e18
    refine(v4s.ext e18).ld (c:=aq) (x:=s) ?_
    refine ro18.push o18 (fun r' hr' x hx hx'=>?_) (by omega) (gb.ext.trans e18).size ?_
    ·have h1:=(ro.block.2 r' hr' x hx').2
     have h2:=b17 x hx
     omega
    intro s7 H21 n21 r21 m21
    have hne4:¬aj s p4.block:=fun hb=>by
     obtain⟨cur,q⟩:=ro18.out.obj _ hb
     exact absurd (aL q (v4s.ext e18).obj) (by decide)
    refine((v4s.ext e18).mod m21 hne4).st rfl fun H22 v22 m22 s22=>?_
    have hb21:∀b,aj s b→H.size≤b:=fun b hb=>(ro.block.1 b hb).1
    have hl18:H18[l]?=some (.loop (rec .busy none)):=(e18.same l (Array.getElem?_eq_some_iff.1 hlb).1 id).trans hlb
    have hl21:H21[l]?=some (.loop (rec .busy none)):=(m21.same l (Array.getElem?_eq_some_iff.1 hl18).1 (fun hb=>by
     obtain⟨cur,q⟩:=ro18.out.obj _ hb;rw[hl18] at q;cases q)).trans hl18
    have hl22:H22[l]?=some (.loop (rec .busy none)):=(m22.same l (Array.getElem?_eq_some_iff.1 hl21).1 (fun hb=>by
     have q:=(v4s.ext e18).mod m21 hne4
     have:=q.obj;rw[←hb,hl21] at this;cases this)).trans hl21
    refine⟨hl22,?_⟩
    show I (k+1) _
    have mm:Mod (fun b=>aj s b∨b=p4.block) H18 H22:=(m21.mono (fun b _ h=>.inl h)).trans (m22.mono (fun b _ h=>.inr h))
    have keep:∀{q:Addr} {t:TypeId} {v:Value},cW H18 q t v→t≠jc→q.block≠p4.block→cW H22 q t v:=by
     intro q t v hv ht hq
     refine hv.mod mm ?_
     rintro(hb|hb)
     ·obtain⟨cur,q1⟩:=ro18.out.obj _ hb
      have:=hv.obj;rw[this] at q1;simp at q1;exact ht q1.2
     ·exact hq hb
    have g22:mX H H.size b w p r2 p1 p2 p3 p4 c c1 (k+1) H22:=by
     have hr18:r2<H18.size:=(Array.getElem?_eq_some_iff.1 g18.r2).1
     refine⟨(mm.same r2 hr18 ?_).trans g18.r2,keep g18.v1 (by decide) (by have:=e9.size;omega),keep g18.v2 (by decide) hp24,keep g18.v3 (by decide) (by have:=e9.size;omega),keep g18.vc (by decide) (by have:=e9.size;omega),keep g18.vc1 (by decide) (by have:=e9.size;omega),⟨s7,rs++[sl1],v22,by omega,?_,fun x hx=>by rcases List.mem_append.1 hx with q|q;exact nn x q;simp at q;subst q;exact nn17⟩,?_,?_⟩
     ·rintro(hb|hb)
      ·obtain⟨cur,q1⟩:=ro18.out.obj _ hb
       rw[g18.r2] at q1;cases q1
      ·have:=(v4s.ext e18).obj;rw[←hb,g18.r2] at this;cases this
     ·rw[nD,hn]
      have r21':aT H21 H.size s7 (rs++[sl1]) (rowsOf b w k++[rowOf (bx b n k) w.toNat]):=r21
      have v21:=(v4s.ext e18).mod m21 hne4
      refine r21'.mod m22 (fun b hb e=>?_) (fun r hr b hb e=>?_)
      ·obtain⟨cur,q1⟩:=r21'.out.obj _ hb
       rw[e] at q1;exact absurd (aL q1 v21.obj) (by decide)
      ·obtain⟨lx,hlx⟩:=r21'.rowAt hr
       obtain⟨cur,q1⟩:=hlx.obj _ hb
       rw[e] at q1;exact absurd (aL q1 v21.obj) (by decide)
     ·exact((Ext.mod (F:=fun b=>aj s b∨b=p4.block) (gb.ext.trans e18)).trans mm).ext (fun b hb=>by
       rcases hb with hb|hb
       ·exact hb21 b hb
       ·have:=(e03.trans e9).size;omega)
     ·intro hw j hj
      rcases Nat.lt_or_ge j k with q|q
      ·exact gb.zero hw j q
      ·have:j=k:=by omega
       rw[this];exact hzero hw
    exact⟨fi hl22,g22.set hl22 hl0⟩
 ·-- all rounds are done
  clear hround
  rintro H' ⟨hlr,g⟩
  refine⟨.ready,none,hlr,rfl,?_⟩
  obtain⟨H'',hH''⟩:∃H'':Heap,H''=H'.setIfInBounds l (.loop (rec .exhausted none)):=⟨_,rfl⟩
  show ld _ _ _ _
  rw[←hH'']
  have g2:mX H H.size b w p r2 p1 p2 p3 p4 c c1 m H'':=by rw[hH''];exact g.set hlr hl0
  obtain⟨s,rs,v4s,hsn,ro,nn⟩:=g2.rows
  refine v4s.ld (c:=aq) (x:=s) ?_
  refine g2.v2.st rfl fun H24 q2 m24 s24=>?_
  have hp23:p3.block≠p2.block:=by omega
  refine(g2.v3.mod m24 hp23).st rfl fun H25 q3 m25 s25=>?_
  have mm:Mod (fun b=>b=p2.block∨b=p3.block) H'' H25:=(m24.mono (fun b _ h=>.inl h)).trans (m25.mono (fun b _ h=>.inr h))
  have hr:r2<H''.size:=(Array.getElem?_eq_some_iff.1 g2.r2).1
  have h25r:H25[r2]?=some (.deferred (some [])):=(mm.same r2 hr (by
   rintro(e|e)
   ·have:=g2.v2.obj;rw[←e,g2.r2] at this;cases this
   ·have:=g2.v3.obj;rw[←e,g2.r2] at this;cases this)).trans g2.r2
  refine⟨h25r,?_⟩
  have m26:Mod (fun b=>b=r2) H25 (H25.setIfInBounds r2 (.deferred none)):=Mod.setObj rfl
  have hne:∀{q:Addr} {t:TypeId} {v:Value},cW H25 q t v→¬q.block=r2:=fun hv e=>by have:=hv.obj;rw[e,h25r] at this;cases this
  have q2':=q2.mod m25 (Ne.symm hp23)
  refine(q2'.mod m26 (hne q2')).ld (c:=aq) (x:=s) ?_
  refine(q3.mod m26 (hne q3)).ld (c:=aa .i64) (x:=0) ?_
  have hok:da b w=true:=kJ h' h2' (fun hw j hj=>g2.zero hw j (by rw[hm,hn1 hw];simpa using hj))
  have mAll:Mod (fun b=>b=p2.block∨b=p3.block∨b=r2) H'' (H25.setIfInBounds r2 (.deferred none)):=(mm.mono (fun b _ h=>by rcases h with h|h;exact .inl h;exact .inr (.inl h))).trans (m26.mono (fun b _ h=>.inr (.inr h)))
  have hcells:∀b cs t,H''[b]?=some (.cells cs t (0,0))→t≠pP→t≠Fx→¬(b=p2.block∨b=p3.block∨b=r2):=by
   rintro b cs t hb h1 h2 (e|e|e)
   ·have:=g2.v2.obj;rw[←e,hb] at this;simp at this;exact h1 this.2
   ·have:=g2.v3.obj;rw[←e,hb] at this;simp at this;exact h2 this.2
   ·rw[e,g2.r2] at hb;cases hb
  have:=hK s rs (H25.setIfInBounds r2 (.deferred none)) (by
   unfold fS;rw[hok,if_pos rfl,hn];simp only[Int.toNat_natCast];rw[←hm]
   refine ro.mod mAll (fun b hb=>?_) (fun r hr b hb=>?_)
   ·obtain⟨cur,q1⟩:=ro.out.obj _ hb
    exact hcells _ _ _ q1 (by decide) (by decide)
   ·obtain⟨lx,hlx⟩:=ro.rowAt hr
    obtain⟨cur,q1⟩:=hlx.obj _ hb
    exact hcells _ _ _ q1 (by decide) (by decide)) ((g2.ext.mod (F:=fun b=>b=p2.block∨b=p3.block∨b=r2).trans mAll).ext (fun b hb=>by
     have:=(e011.trans e12).size
     omega)) nn
  unfold kq at this;rw[hok] at this;exact this
 ·-- left by a return
  clear hround
  rintro H' ⟨hlr,hrr,q2,q3,e,hf⟩
  refine⟨.done,some .ret,hlr,rfl,?_⟩
  obtain⟨H'',hH''⟩:∃H'':Heap,H''=H'.setIfInBounds l (.loop (rec .exhausted (some .ret))):=⟨_,rfl⟩
  show _∧_
  rw[←hH'']
  have m1:Mod (fun b=>b=l) H' H'':=by rw[hH''];exact Mod.setObj rfl
  have hne:∀{q:Addr} {t:TypeId} {v:Value},cW H' q t v→¬q.block=l:=fun hv e=>by have:=hv.obj;rw[e,hlr] at this;cases this
  have hrr':H''[r2]?=some (.deferred (some [])):=(m1.same r2 (Array.getElem?_eq_some_iff.1 hrr).1 (by omega)).trans hrr
  refine⟨hrr',?_⟩
  have m2:Mod (fun b=>b=r2) H'' (H''.setIfInBounds r2 (.deferred none)):=Mod.setObj rfl
  have hne2:∀{q:Addr} {t:TypeId} {v:Value},cW H'' q t v→¬q.block=r2:=fun hv e=>by have:=hv.obj;rw[e,hrr'] at this;cases this
  have q2':=q2.mod m1 (hne q2)
  have q3':=q3.mod m1 (hne q3)
  exact bad _ (q2'.mod m2 (hne2 q2')) (q3'.mod m2 (hne2 q3')) (((e.mod (F:=fun b=>b=l∨b=r2).trans (m1.mono (fun b _ h=>.inl h))).trans (m2.mono (fun b _ h=>.inr h))).ext (fun b hb=>by
   have:=(e011.trans e12).size
   omega)) hf
theorem qt {p:Sl} {b:List Int} {w:Int} {H:Heap} {K:(Sl×Int)→Heap→Prop} (hp:Ints .u8 H p b) (hc:p.n≤p.c) (hbb:∀x∈b,0≤x∧x<256) (hlen:b.length≤1000000)
  (hK:∀s rs H',aT H' H.size s rs (fS b w)→Ext H H'→K (s,kq b w) H'):BI.sp p w H K:=yd hp hc hbb hlen fun s rs H' r e _=>hK s rs H' r e
theorem cI (n:Int) (k:Nat):0≤fO n k∧fO n k<256:=by
 unfold fO
 rw[IntKind.wrap_u8];omega
theorem fe (l:List Int):∀x∈bS l,0≤x∧x<256:=by
 intro x hx
 unfold bS at hx
 split at hx
 ·simp at hx;omega
 ·obtain⟨n,_,hn⟩:=List.mem_flatMap.1 hx
  obtain⟨k,_,hk⟩:=List.mem_map.1 hn
  rw[←hk];exact cI n k
def cg (l:List Int):List UInt8:=l.map fun x=>UInt8.ofNat x.toNat
@[simp] theorem iB (b:List UInt8):(di b).length=b.length:=by simp[di]
@[simp] theorem bP (b:List Int):(cg b).length=b.length:=by simp[cg]
theorem kV {l:List Int} (h:∀x∈l,0≤x∧x<256):di (cg l)=l:=by
 unfold di cg
 rw[List.map_map]
 conv=>rhs;rw[←List.map_id l]
 refine List.map_congr_left fun x hx=>?_
 obtain⟨a,b⟩:=h x hx
 simp only[Function.comp,UInt8.toNat_ofNat',id]
 omega
structure Rb where
 name:ByteArray
 width:Int
 wrong:Int
 closed:Bool
def Rb.ready (b:Rb):Int:=if b.wrong≠0 then b.wrong else if b.closed then 2 else 0
def Rb.bV (b:Rb) (e:Int):Rb:=if e≠0 then {b with wrong:=e} else b
structure RW where
 b:Rb
 wait:List UInt8
 n:Nat
 last:List Int
 rows:Nat
def RW.out (w:RW) (p:Pl):Pl×RW×Int:=
 if w.n=0 then (p,w,0)
 else ((p.more w.b.name 1 w.wait).1,{w with b:=w.b.bV (p.more w.b.name 1 w.wait).2,wait:=[],n:=0},(p.more w.b.name 1 w.wait).2)
def rl (n:ByteArray) (w:Int):RW:=⟨⟨n,w,0,false⟩,[],0,[],0⟩
def aH (p:Pl) (n:ByteArray) (w:Int):Pl×Option RW×Int:=
 if aS w=0 then (p,none,60)
 else if (p.d.create n).2≠0 then (p.aV (p.d.create n).1,none,(p.d.create n).2)
 else if ((p.aV (p.d.create n).1).more n 0 []).2≠0 then (((p.aV (p.d.create n).1).more n 0 []).1,none,((p.aV (p.d.create n).1).more n 0 []).2)
 else (((p.aV (p.d.create n).1).more n 0 []).1,some (rl n w),0)
def RW.push (w:RW) (l:List Int):RW:={w with wait:=w.wait++cg (bS l),n:=w.n+1,last:=l,rows:=w.rows+1}
def RW.add (w:RW) (p:Pl) (l:List Int):Pl×RW×Int:=
 if w.b.ready≠0 then (p,w,w.b.ready)
 else if (l.length:Int)≠w.b.width then (p,w,60)
 else if 0<w.rows∧bt l w.last≤0 then (p,w,70)
 else if ((w.n+1:Nat):Int)<aS w.b.width then (p,w.push l,0)
 else (w.push l).out p
def bJ (width:Int) (rows:Nat):List UInt8:=UInt8.ofNat width.toNat::cg (bS [(rows:Int)])
def RW.head (w:RW) (p:Pl):Pl×Int:=
 if (p.aQ w.b.name 0).2.2≠0 then ((p.aQ w.b.name 0).1,(p.aQ w.b.name 0).2.2)
 else if (Pl.leave ((p.aQ w.b.name 0).1.set (p.aQ w.b.name 0).2.1 2 (bJ w.b.width w.rows)) (p.aQ w.b.name 0).2.1).2≠0 then Pl.leave ((p.aQ w.b.name 0).1.set (p.aQ w.b.name 0).2.1 2 (bJ w.b.width w.rows)) (p.aQ w.b.name 0).2.1
 else (Pl.leave ((p.aQ w.b.name 0).1.set (p.aQ w.b.name 0).2.1 2 (bJ w.b.width w.rows)) (p.aQ w.b.name 0).2.1).1.flush w.b.name
def RW.stop (w:RW):RW:={w with b:={w.b with closed:=true}}
def RW.ends (w:RW) (p:Pl):Pl×RW×Nat×Int:=
 if (w.head p).2≠0 then ((w.head p).1,{w with b:=w.b.bV (w.head p).2},0,(w.head p).2) else ((w.head p).1,w.stop,w.rows,0)
def RW.close (w:RW) (p:Pl):Pl×RW×Nat×Int:=
 if w.b.ready≠0 then (p,w,0,w.b.ready)
 else if (w.out p).2.2≠0 then ((w.out p).1,(w.out p).2.1,0,(w.out p).2.2)
 else (w.out p).2.1.ends (w.out p).1
structure RR where
 b:Rb
 rows:Nat
 at_:Nat
 page:Option Nat
 ins:List (List Int)
def Rb.room (b:Rb):Nat:=(aS b.width).toNat
def av (n room:Nat):Nat:=(n+room - 1)/room
def rnOpen (p:Pl) (n:ByteArray) (w:Int):Pl×Option RR×Int:=
 if aS w=0 then (p,none,60)
 else if (p.look n 0).2.2.2≠0 then ((p.look n 0).1,none,(p.look n 0).2.2.2)
 else if ¬((p.look n 0).2.1=2∧(p.look n 0).2.2.1.length=9∧(((p.look n 0).2.2.1.getD 0 0).toNat:Int)=w) then ((p.look n 0).1,none,280)
 else if ((p.look n 0).1.d.len n).2≠0 then ((p.look n 0).1,none,((p.look n 0).1.d.len n).2)
 else if bH (di ((p.look n 0).2.2.1.drop 1))≤528482304∧((p.look n 0).1.d.len n).1=1+av (bH (di ((p.look n 0).2.2.1.drop 1))).toNat (aS w).toNat then
  ((p.look n 0).1,some ⟨⟨n,w,0,false⟩,(bH (di ((p.look n 0).2.2.1.drop 1))).toNat,0,none,[]⟩,0)
 else ((p.look n 0).1,none,280)
def RR.fits (r:RR) (k:Nat) (kind:UInt8) (b:List UInt8):Bool:=
 kind==1&&da (di b) r.b.width&&decide ((fS (di b) r.b.width).length=min r.b.room (r.rows - k*r.b.room))
def RR.load (r:RR) (p:Pl) (k:Nat):Pl×RR×Int:=
 if r.page=some k then (p,r,0)
 else if (p.look r.b.name ((k:Int)+1)).2.2.2≠0 then ((p.look r.b.name ((k:Int)+1)).1,{r with b:=r.b.bV (p.look r.b.name ((k:Int)+1)).2.2.2},(p.look r.b.name ((k:Int)+1)).2.2.2)
 else if r.fits k (p.look r.b.name ((k:Int)+1)).2.1 (p.look r.b.name ((k:Int)+1)).2.2.1 then
  ((p.look r.b.name ((k:Int)+1)).1,{r with page:=some k,ins:=fS (di (p.look r.b.name ((k:Int)+1)).2.2.1) r.b.width},0)
 else ((p.look r.b.name ((k:Int)+1)).1,{r with b:=r.b.bV 280},280)
def RR.next (r:RR) (p:Pl):Pl×RR×List Int×Bool×Int:=
 if r.b.ready≠0 then (p,r,[],false,r.b.ready)
 else if r.at_=r.rows then (p,r,[],false,0)
 else if (r.load p (r.at_/r.b.room)).2.2≠0 then ((r.load p (r.at_/r.b.room)).1,(r.load p (r.at_/r.b.room)).2.1,[],false,(r.load p (r.at_/r.b.room)).2.2)
 else ((r.load p (r.at_/r.b.room)).1,{(r.load p (r.at_/r.b.room)).2.1 with at_:=r.at_+1},(r.load p (r.at_/r.b.room)).2.1.ins.getD (r.at_%r.b.room) [],true,0)
def jh (l:List (List Int)):List Int:=l.getD (l.length - 1) []
def RR.cw (low:List Int):Nat→Nat→Nat→Pl→RR→Pl×RR×Nat×Int
 |0,i,_,p,r=>(p,r,i,0)
 |f+1,i,j,p,r=>
   if i<j then
    if (r.load p ((i+j)/2)).2.2≠0 then ((r.load p ((i+j)/2)).1,(r.load p ((i+j)/2)).2.1,i,(r.load p ((i+j)/2)).2.2)
    else if bt (jh (r.load p ((i+j)/2)).2.1.ins) low<0 then RR.cw low f ((i+j)/2+1) j (r.load p ((i+j)/2)).1 (r.load p ((i+j)/2)).2.1
    else RR.cw low f i ((i+j)/2) (r.load p ((i+j)/2)).1 (r.load p ((i+j)/2)).2.1
   else (p,r,i,0)
def below (low:List Int) (ls:List (List Int)):Nat:=(ls.takeWhile fun l=>decide (bt l low<0)).length
def RR.goto (r:RR) (p:Pl) (low:List Int) (k:Nat):Pl×RR×Int:=
 if k=av r.rows r.b.room then (p,{r with at_:=r.rows},0)
 else if (r.load p k).2.2≠0 then r.load p k
 else ((r.load p k).1,{(r.load p k).2.1 with at_:=k*r.b.room+below low (r.load p k).2.1.ins},0)
def RR.find (r:RR) (p:Pl) (low:List Int):Pl×RR×Nat×Int:=RR.cw low (av r.rows r.b.room) 0 (av r.rows r.b.room) p r
def RR.bL (r:RR) (p:Pl) (low:List Int):Pl×RR×Int:=
 if r.b.ready≠0 then (p,r,r.b.ready)
 else if (low.length:Int)>r.b.width then (p,r,60)
 else if (r.find p low).2.2.2≠0 then ((r.find p low).1,(r.find p low).2.1,(r.find p low).2.2.2)
 else (r.find p low).2.1.goto (r.find p low).1 low (r.find p low).2.2.1
def RR.stop (r:RR):RR:={r with b:={r.b with closed:=true}}
open Go.MapKept
theorem Pl.xd {s:Pl} (h:s.WF) (x:Int):(s.get x).2.1.length≤504:=by
 unfold Pl.get
 split
 ·simp
 ·cases e:s.held x with
  |none=>simp
  |some i=>
    obtain⟨f,hf,_⟩:=Pl.dU e
    simp only[Pl.cJ hf]
    exact h.room f (List.mem_of_getElem? hf)
def bw (p:Nat) (b:Rb):List Value:=[.pointer (ay p),.string b.name,.int .i64 b.width,.int .i64 (aS b.width),.int .i64 b.wrong,.bool b.closed]
abbrev ba (H:Heap) (k:Nat) (t:TypeId) (p:Nat) (b:Rb) (rest:List Value):Prop:=ai H k t (bw p b++rest).toArray
section
variable {H:Heap} {k p dp:Nat} {t:TypeId} {b:Rb} {rest:List Value} {F:Nat→Prop} {s:Pl}
theorem ba.get (i:Nat) (v:Value) (h:(bw p b)[i]?=some v):(bw p b++rest).toArray[i]?=some v:=by
 rw[List.getElem?_toArray,List.getElem?_append_left (List.getElem?_eq_some_iff.1 h).1];exact h
theorem ba.tail {j:Nat} {v:Value} (h:rest[j]?=some v):(bw p b++rest).toArray[6+j]?=some v:=by
 rw[List.getElem?_toArray,List.getElem?_append_right (by simp[bw])]
 simpa[bw] using h
theorem j4 {K:Int→Heap→Prop} (h:ba H k t p b rest) (hK:K b.ready H):ze.sp (ay k) H K:=by
 refine ze.of ?_
 unfold ze.vc
 unfold Rb.ready at hK
 simp only[ak,ay]
 refine ai.ld (c:=aa .i64) (i:=4) (x:=b.wrong) h (ba.get 4 _ rfl) ?_
 refine ag (fun hc=>?_) (fun hc=>?_)
 ·refine ai.ld (c:=aa .i64) (i:=4) (x:=b.wrong) h (ba.get 4 _ rfl) ?_
  rw[if_pos (by simpa using hc)] at hK
  exact hK
 ·rw[if_neg (by simpa using hc)] at hK
  refine ai.ld (c:=ax) (i:=5) (x:=b.closed) h (ba.get 5 _ rfl) ?_
  cases hcl:b.closed with
  |true=>rw[hcl,if_pos rfl] at hK;exact hK
  |false=>rw[hcl,if_neg (by simp)] at hK;exact hK
theorem ub (e:Int):(bw p b++rest).toArray.setIfInBounds 4 (.int .i64 e)=(bw p {b with wrong:=e}++rest).toArray:=by
 simp[bw]
theorem rM:(bw p b++rest).toArray.setIfInBounds 5 (.bool true)=(bw p {b with closed:=true}++rest).toArray:=by
 simp[bw]
theorem nc {e:Int} {K:Int→Heap→Prop} (h:ba H k t p b rest) (hK:∀H',ba H' k t p (b.bV e) rest→Mod (fun q=>q=k) H H'→H'.size=H.size→K e H'):wP.sp (ay k) e H K:=by
 refine wP.of ?_
 unfold wP.vc
 unfold Rb.bV at hK
 simp only[ak,ay]
 refine ag (fun hc=>?_) (fun hc=>?_)
 ·rw[if_pos (by simpa using hc)] at hK
  refine ai.st h (i:=4) (by simp[bw]) rfl fun H' h' m hs=>?_
  rw[ub] at h'
  exact hK H' h' m hs
 ·rw[if_neg (by simpa using hc)] at hK
  exact hK H h (.refl _ _) rfl
theorem Step.size {F F':Nat→Prop} {H H':Heap} (h:Step F F' H H'):H.size≤H'.size:=h.mod.size
theorem wj {kd:UInt8} {sl:Sl} {l:List UInt8} {K:Int→Heap→Prop} (hg:Gl H) (h:ba H k t p b rest) (hp:aE F H p dp s) (hk:¬F k) (hb:bI H sl l) (hsl:∀ad,sl.a=some ad→¬F ad.block)
  (hn:b.name.size≤9223372036854775807) (hlogs:s.d.logs<68719470000) (hnx:s.next<1099511627776) (h0:0≤s.next) (hfit:s.Fit)
  (hK:∀F' H',aE F' H' p dp (s.more b.name kd l).1→Step F F' H H'→K (s.more b.name kd l).2 H'):BG.sp (ay k) (kd.toNat:Int) sl H K:=by
 have hkl:=az h
 refine BG.of ?_
 unfold BG.vc
 simp only[ak,ay]
 refine ai.ld (c:=al) (i:=0) (x:=ay p) h (ba.get 0 _ rfl) ?_
 refine ai.ld (c:=aR) (i:=1) (x:=b.name) h (ba.get 1 _ rfl) ?_
 refine zX hg hp hn (by omega) (by omega) hfit fun F1 H1 p1 S1=>?_
 have hg1:Gl H1:=hg.mod S1.mod hp.fG
 have h1:ba H1 k t p b rest:=h.mod S1.mod hk
 have hk1:¬F1 k:=fun q=>(S1.own k q).elim hk fun r=>by omega
 have hb1:bI H1 sl l:=hb.keep fun ad ha hl=>S1.mod.same _ hl (hsl ad ha)
 have hsl1:∀ad,sl.a=some ad→l≠[]→¬F1 ad.block:=fun ad ha hne q=>by
  obtain⟨ad',ha',hlt⟩:=hb.addr (List.length_pos_iff.2 hne)
  rw[ha] at ha';cases ha'
  rcases S1.own _ q with r|r
  ·exact hsl ad ha r
  ·omega
 unfold Pl.more at hK
 have hnx1:(s.fresh b.name).1.next≤s.next+1:=s.iE h0 hnx
 generalize hs1:(s.fresh b.name).1=s1 at*
 generalize hr:(s.fresh b.name).2.1=hd at*
 generalize he:(s.fresh b.name).2.2.2=e at*
 by_cases e0:e=0
 ·subst e0
  rw[if_neg (by simp)] at hK
  by_cases k0:kd=0
  ·subst k0
   rw[if_pos rfl] at hK
   refine ar (by simp) ?_
   refine aU (by simp) ?_
   refine ai.ld (c:=al) (i:=0) (x:=ay p) h1 (ba.get 0 _ rfl) ?_
   refine lE hg1 p1 (by omega) fun F2 H2 p2 S2=>?_
   have el:Pl.leave (s1,0) hd=s1.aD hd:=if_pos rfl
   rw[el] at hK
   exact hK F2 H2 p2 (S1.trans S2)
  ·have hkn:((kd.toNat:Int)!=0)=true:=by
    have:kd.toNat≠0:=fun q=>k0 (UInt8.toNat_inj.1 q)
    simp;omega
   rw[if_neg k0] at hK
   refine aU (by rw[hkn];rfl) ?_
   refine ai.ld (c:=al) (i:=0) (x:=ay p) h1 (ba.get 0 _ rfl) ?_
   refine zx hg1 p1 hb1 fun F2 H2 p2 S2=>?_
   have hg2:Gl H2:=hg1.mod S2.mod p1.fG
   have h2:ba H2 k t p b rest:=h1.mod S2.mod hk1
   have hn2:(s1.set hd kd l).1.next=s1.next:=s1.gv hd kd l
   generalize hs2:s1.set hd kd l=s2 at*
   refine ag (fun hc=>?_) (fun hc=>?_)
   ·have e2:s2.2=0:=by simpa using hc
    refine ai.ld (c:=al) (i:=0) (x:=ay p) h2 (ba.get 0 _ rfl) ?_
    refine lE hg2 p2 (by omega) fun F3 H3 p3 S3=>?_
    have el:Pl.leave s2 hd=s2.1.aD hd:=if_pos e2
    rw[el] at hK
    exact hK F3 H3 p3 ((S1.trans S2).trans S3)
   ·have e2:s2.2≠0:=by simpa using hc
    have el:Pl.leave s2 hd=s2:=if_neg e2
    rw[el] at hK
    exact hK F2 H2 p2 (S1.trans S2)
 ·rw[if_pos e0] at hK
  refine ar (by simp[e0]) ?_
  refine ar (by simpa using e0) ?_
  exact hK F1 H1 p1 S1
theorem uE {g:Int} {K:(Int×Sl×Int)→Heap→Prop} (hg:Gl H) (h:ba H k t p b rest) (hp:aE F H p dp s) (hk:¬F k) (hg0:0≤g∧g≤9223372036854775807)
  (hn:b.name.size≤9223372036854775807) (hlogs:s.d.logs<68719470000) (hnx:s.next<1099511627776) (h0:0≤s.next)
  (hK:∀F' H' sl,aE F' H' p dp (s.look b.name g).1→Step F F' H H'→aG EB eA H' sl (s.look b.name g).2.2.1→(∀q,aj sl q→H.size≤q∧¬F' q)→(s.look b.name g).2.2.1.length≤504→K (((s.look b.name g).2.1.toNat:Int),sl,(s.look b.name g).2.2.2) H'):CH.sp (ay k) g H K:=by
 have hkl:=az h
 refine CH.of ?_
 unfold CH.vc
 simp only[ak,ay]
 refine ai.ld (c:=al) (i:=0) (x:=ay p) h (ba.get 0 _ rfl) ?_
 refine ai.ld (c:=aR) (i:=1) (x:=b.name) h (ba.get 1 _ rfl) ?_
 refine AN hg hp hn (by omega) hg0.2 (by omega) (by omega) fun F1 H1 p1 S1=>?_
 have hg1:Gl H1:=hg.mod S1.mod hp.fG
 have h1:ba H1 k t p b rest:=h.mod S1.mod hk
 have hnx1:(s.aQ b.name g).1.next≤s.next+1:=s.ie h0 hnx
 unfold Pl.look at hK
 generalize hs1:(s.aQ b.name g).1=s1 at*
 generalize hr:(s.aQ b.name g).2.1=hd at*
 generalize he:(s.aQ b.name g).2.2=e at*
 refine ag (fun hc=>?_) (fun hc=>?_)
 ·have e0:e≠0:=by simpa using hc
  rw[if_pos e0] at hK
  exact hK F1 H1 _ p1 S1 (aG.nil _ _ _) (fun q ⟨ad,ha,_⟩=>by cases ha) (by simp)
 ·have e0:¬e≠0:=by simpa using hc
  rw[if_neg e0] at hK
  refine ai.ld (c:=al) (i:=0) (x:=ay p) h1 (ba.get 0 _ rfl) ?_
  refine Fa p1 fun sl H2 o2 e2 f2=>?_
  have p2:=p1.ext e2
  have hg2:Gl H2:=hg1.mod e2 id
  have h2:ba H2 k t p b rest:=h1.ext e2
  have S2:Step F F1 H H2:=S1.trans ⟨e2.mod,fun b hb=>.inl hb⟩
  have hgl:=Pl.xd p1.wf hd
  generalize hs2:s1.get hd=r at*
  refine ag (fun hc2=>?_) (fun hc2=>?_)
  ·have e3:¬r.2.2≠0:=by simpa using hc2
   rw[if_neg e3] at hK
   refine ai.ld (c:=al) (i:=0) (x:=ay p) h2 (ba.get 0 _ rfl) ?_
   refine lE hg2 p2 (by omega) fun F3 H3 p3 S3=>?_
   have hlt:=o2.lt
   refine hK F3 H3 sl p3 (S2.trans S3) (o2.keep fun q hq hl=>S3.mod.same q hl fun r=>by have:=p1.lt q r;have:=f2 q hq;omega) (fun q hq=>?_) hgl
   have q1:=f2 q hq
   have q2:=S1.size
   refine⟨by omega,fun r=>?_⟩
   rcases S3.own q r with r|r
   ·have:=p1.lt q r;omega
   ·have:=hlt q hq;omega
  ·have e3:r.2.2≠0:=by simpa using hc2
   rw[if_pos e3] at hK
   refine hK F1 H2 sl p2 S2 o2 (fun q hq=>?_) hgl
   have q1:=f2 q hq
   have q2:=S1.size
   exact⟨by omega,fun r=>by have:=p1.lt q r;omega⟩
end
end Go.Proofs.YtdpdmbceakdlmaaGreatDoor
