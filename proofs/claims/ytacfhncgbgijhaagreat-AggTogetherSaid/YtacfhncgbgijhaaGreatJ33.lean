/-
 The pool: a file's frames, rising: the values of a map, those that are wanted, sorted.
-/
import Derived.Lib.SliceRun
import Derived.Test.YtacfhncgbgijhaaGreatRows
import Derived.Test.YtacfhncgbgijhaaGreatVc
import Derived.Test.YtacfhncgbgijhaaGreatFxg
import Derived.Test.YtacfhncgbgijhaaGreatFxj
import Derived.Test.YtacfhncgbgijhaaGreatFxk
import Derived.Test.YtacfhncgbgijhaaGreatFxh
import Derived.Test.YtacfhncgbgijhaaGreatLay
import Derived.Test.YtacfhncgbgijhaaGreatFxq
import Derived.Test.YtacfhncgbgijhaaGreatFxo
import Derived.Test.YtacfhncgbgijhaaGreatJ32
namespace Go.Proofs.YtacfhncgbgijhaaGreat
open Go.MapKept
def eP:gr Nat:=⟨1,fun p=>[dq p],fun _=>rfl,fun x u hu=>by simp at hu;subst hu;rfl⟩
theorem qR (l:List Nat):eP.all l=l.map dq:=by
 induction l with
 |nil=>rfl
 |cons x l ih=>
   have:eP.all (x::l)=dq x::eP.all l:=rfl
   rw[this,ih];rfl
theorem JT:y8 Tryz.prog BV ru eP.size 8:=kS (by kernel_rfl)
def yZ (e:MapEntry):Nat:=match e.val with|.pointer (some a)=>a.block|_=>0
theorem tV [Tab] {l cap:Nat} {x:PG} {H:aa} {K:Unit→aa→Prop} (I:List MapEntry→aa→Prop) (hF:aG H x) (hcap:ag H cap yp #[.map (some x.mf)])
  (h0:∀A,Mod (fun _=>False) H A→I [] A) (hfr:∀l A A',I l A→Mod (fun b=>b=H.size) A A'→A'.size=A.size→I l A')
  (hs:∀ls e q A,I ls A→e∈x.ef.toList→e.val=dq q→(∀y∈ls,y∈x.ef.toList)→ls.Nodup→e∉ls→A[x.mf]?=some (.map x.ef x.cf)→H.size<A.size→b8 Tryz.prog l #[dq q] A fun b A'=>b=true∧I (ls++[e]) A'∧A'[x.mf]?=A[x.mf]?∧A'[H.size]?=A[H.size]?)
  (hfin:∀ls A,I ls A→ls.Perm x.ef.toList→K () A):DL.sp l ⟨cap,0,none⟩ H K:=by
 refine DL.of ?_
 unfold DL.vc
 have:=hcap.ld (c:=cJ) (i:=0) (x:=some x.mf) rfl (K:=fun x=>bS ar Tryz.prog (Instr.range yp (.map x)) H fun(it:Option Addr) H1=>aC Unit () H1 fun next _ H2=>bS iS Tryz.prog (Instr.next (.pointer it) false C3) H2 fun(nx:Bool×List Value) H3=>br nx.1 (bS qU Tryz.prog (Instr.entry (.pointer it)) H3 fun(en:Value×Value) H4=>JF ar en.2 fun(v:Option Addr)=>b8 Tryz.prog l #[(.pointer v)] H4 fun(b:Bool) H5=>br (!b) (K () H5) (next () H5)) (K () H3))
 refine this ?_
 obtain⟨et,inf,hu,_,_⟩:=nW
 refine ta hu hF.fmap fun H1 hit e1=>?_
 have hit1:H.size<H1.size:=aL hit
 have hF1:aG H1 x:=hF.aq fun b _ hl=>e1.same b hl id
 refine ry (it:=H.size) (fun ls _ A=>I ls A∧H.size<A.size) hF1.fmap hit ⟨h0 H1 e1,hit1⟩ (fun l x A A' h m s=>⟨hfr l A A' h.1 m s,by omega⟩) ?_ (fun ls x A h hp _=>hfin ls A h.1 hp)
 rintro ls e ⟨⟩ A next ⟨hI,hlt⟩ he hel hsub hnd hr hito hnext
 obtain⟨z,hz,_,hv⟩:=hF.entry he
 refine⟨aI z.2.p,by rw[hv];rfl,?_⟩
 refine(hs ls e z.2.p A hI he hv hsub hnd hel hr hlt).mono fun b A' hb=>?_
 obtain⟨rfl,h1,h2,h3⟩:=hb
 refine aA rfl (hnext () A' ⟨h1,?_⟩ h2 h3)
 obtain⟨o,ho⟩:=hito
 rw[←h3] at ho
 exact aL ho
theorem qi [Tab] {cap:Nat} {x:PG} {H:aa} {K:Sl→aa→Prop} (hF:aG H x) (hcap:ag H cap yp #[.map (some x.mf)]) (hlen:x.ef.size≤1048576)
  (hK:∀(s:Sl) (ls:List MapEntry) (H':aa),bc eP ru H' s (ls.map yZ)→ls.Perm x.ef.toList→Mod (fun _=>False) H H'→(∀b,ai s b→H.size≤b)→K s H'):
  Ij.sp (Sl.mk none 0 0) (.func (.func DL.no) #[] #[(.pointer (some ⟨cap,0,none⟩))]) H K:=by
 refine Ij.of ?_
 unfold Ij.vc
 refine ak fun H1 s1 r1 m1=>?_
 have hcallable:bQ Tryz.prog DL.no=true:=by kernel_rfl
 refine⟨_,_,rfl,hcallable,fun rec hround=>?_⟩
 obtain⟨r,hr⟩:∃r,r=H1.size:=⟨_,rfl⟩
 obtain⟨l,hl⟩:∃l,l=H1.size+1:=⟨_,rfl⟩
 obtain⟨p,hp⟩:∃p,p=H.size:=⟨_,rfl⟩
 rw[←hl] at hround ⊢
 rw[←hr]
 rw[←hp] at r1
 rw[←hp] at hround
 rw[←hp]
 obtain⟨HB,hHB⟩:∃HB:aa,HB=(H1.push (.deferred (some []))).push (.loop (rec .ready none)):=⟨_,rfl⟩
 rw[←hHB]
 have eB:Mod (fun _=>False) H1 HB:=by rw[hHB];exact(Mod.push _ _ _).trans (Mod.push _ _ _)
 have sB:HB.size=H1.size+2:=by rw[hHB];simp
 have lB:HB[l]?=some (.loop (rec .ready none)):=by rw[hHB,hl,Array.getElem?_push,if_pos (by simp)]
 have rB:HB[r]?=some (.deferred (some [])):=by rw[hHB,hr];simp[Array.getElem?_push]
 have pB:ag HB p BV #[(Sl.mk none 0 0).v]:=r1.ext eB
 have FB:aG HB x:=(hF.aq fun b _ hl=>m1.same b hl id).aq fun b _ hl=>eB.same b hl id
 have cB:ag HB cap yp #[.map (some x.mf)]:=(hcap.ext m1).ext eB
 have hml:=hF.fmap.lt
 have hcl:cap<H.size:=aL hcap
 let I:List MapEntry→aa→Prop:=fun ls A=>A[l]?=some (.loop (rec .ready none))∧A[r]?=some (.deferred (some []))∧(∃s,ag A p BV #[s.v]∧bc eP ru A s (ls.map yZ)∧(∀b,ai s b→HB.size<b))∧Mod (fun b=>b=p∨b=l∨b=HB.size) HB A
 refine Spec.mono (R:=fun v H'=>∃x:Unit,v=(aT []).enc x∧lR l rec H' _ _ _) (tV (l:=l) (cap:=cap) (x:=x) (H:=HB) (K:=fun _ H'=>lR l rec H' _ _ _) I FB cB ?_ ?_ ?_ ?_) (fun v H' ⟨x,_,h⟩=>h)
 ·intro A hA
  exact⟨hA.at lB id,hA.at rB id,⟨_,pB.ext hA,bc.nil _ _ _,by rintro b ⟨ad,q,_⟩;cases q⟩,Ext.mod hA⟩
 ·rintro ls A A' ⟨i1,i2,⟨s,i3,i4,i5⟩,i6⟩ hA hs
  refine⟨hA.at i1 (by omega),hA.at i2 (by omega),⟨s,i3.mod hA (by omega),i4.aq fun b hb hbl=>hA.same b hbl (by have:=i5 b hb;omega),i5⟩,i6.trans (hA.mono fun b _ e=>.inr (.inr e))⟩
 ·rintro ls e q A ⟨i1,i2,⟨s,i3,i4,i5⟩,i6⟩ he hv hsub hnd hel hmA hAl
  refine hround [dq q] A _ i1 ?_
  show iP (some (aI q)) _
  refine⟨i1,?_⟩
  obtain⟨Ab,hAb⟩:∃Ab:aa,Ab=A.setIfInBounds l (.loop (rec .busy none)):=⟨_,rfl⟩
  rw[←hAb]
  have mAb:Mod (fun b=>b=l) A Ab:=by rw[hAb];exact Mod.setObj rfl
  have sAb:Ab.size=A.size:=by rw[hAb];simp
  have lAb:Ab[l]?=some (.loop (rec .busy none)):=by rw[hAb];exact gH i1
  have hpl:p≠l:=by omega
  have p1:=i3.mod mAb hpl
  refine p1.ld (c:=an) (i:=0) (x:=s) rfl ?_
  have tl:∀b,ai s b→b≠l:=fun b hb=>by have:=i5 b hb;omega
  have o1:bc eP ru Ab s (ls.map yZ):=i4.aq fun b hb hbl=>mAb.same b hbl (tl b hb)
  have hln:(ls.map yZ).length≤1048576:=by
   have:=List.Nodup.length_le_of_subset hnd (l₂:=x.ef.toList) (fun y hy=>hsub y hy)
   simp at this ⊢;omega
  have hne:yZ e=q:=by unfold yZ;rw[hv];rfl
  refine bc.push (E:=eP) JT (x:=q) o1 rfl (by omega) (by omega) fun s2 A2 o2 g2 _=>?_
  have lp:p<Ab.size:=aL p1
  have tp:∀b,ai s b→b≠p:=fun b hb=>by have:=i5 b hb;omega
  have p2:ag A2 p BV #[s.v]:=p1.mod g2.1 (fun hb=>tp _ hb rfl)
  have i6s:=i6.size
  have t2:∀b,ai s2 b→HB.size<b:=fun b hb=>by
   rcases g2.2 b hb with q|q
   ·exact i5 b q
   ·omega
  have p2st:=p2.st (i:=0) (v:=s2.v) (by simp) rfl (K:=fun H5=>H5[l]?=some (.loop (rec .busy none))∧(fun b A'=>b=true∧I (ls++[e]) A'∧A'[x.mf]?=A[x.mf]?∧A'[HB.size]?=A[HB.size]?) true (H5.setIfInBounds l (.loop (rec .ready none))))
  rw[show (Addr.add ⟨p,0,none⟩ 0)=⟨p,0,none⟩ from rfl] at p2st
  refine p2st fun A3 p3 m3 s3=>?_
  have l2:A2[l]?=some (.loop (rec .busy none)):=g2.1.at lAb (fun hb=>tl _ hb rfl)
  have l3:A3[l]?=some (.loop (rec .busy none)):=m3.at l2 (by omega)
  have m4:Mod (fun b=>b=l) A3 (A3.setIfInBounds l (.loop (rec .ready none))):=Mod.setObj rfl
  have z2:=g2.1.size
  refine⟨l3,rfl,⟨gH l3,?_,⟨s2,?_,?_,t2⟩,?_⟩,?_,?_⟩
  ·exact m4.at (m3.at (g2.1.at (mAb.at i2 (by omega)) (fun hb=>by have:=i5 _ hb;omega)) (by omega)) (by omega)
  ·exact ag.mod (show ag A3 p BV #[s2.v] from p3) m4 hpl
  ·rw[List.map_append,List.map_cons,List.map_nil,hne]
   refine o2.aq fun b hb hbl=>?_
   have:=t2 b hb
   exact(m4.same b (by omega) (by omega)).trans (m3.same b hbl (by omega))
  ·refine i6.trans' (G:=fun b=>(b=l∨ai s b)∨b=p) ?_ ?_
   ·exact(((mAb.mono fun b _ e=>.inl (.inl e)).trans (g2.1.mono fun b _ e=>.inl (.inr e))).trans (m3.mono fun b _ e=>.inr e)).trans (m4.mono fun b _ e=>.inl (.inl e))
   ·rintro b hb ((e|e)|e)
    ·exact .inr (.inl e)
    ·have:=i5 b e;omega
    ·exact .inl e
  ·have hmAl:=aL hmA
   exact(m4.same _ (by omega) (by omega)).trans ((m3.same _ (by omega) (by omega)).trans ((g2.1.same _ (by omega) (fun hb=>by have:=i5 _ hb;omega)).trans (mAb.same _ hmAl (by omega))))
  ·exact(m4.same _ (by omega) (by omega)).trans ((m3.same _ (by omega) (by omega)).trans ((g2.1.same _ (by omega) (fun hb=>by have:=i5 _ hb;omega)).trans (mAb.same _ (by omega) (by omega))))
 ·rintro ls A ⟨i1,i2,⟨s,i3,i4,i5⟩,i6⟩ hperm
  refine⟨.ready,none,i1,rfl,?_⟩
  show ld an _ _ _
  have m4:Mod (fun b=>b=l) A (A.setIfInBounds l (.loop (rec .exhausted none))):=Mod.setObj rfl
  have p4:=i3.mod m4 (by omega)
  refine p4.ld (c:=an) (i:=0) (x:=s) rfl ?_
  have r4:=m4.at i2 (by omega)
  refine⟨r4,?_⟩
  have m5:Mod (fun b=>b=r) (A.setIfInBounds l (.loop (rec .exhausted none))) ((A.setIfInBounds l (.loop (rec .exhausted none))).setIfInBounds r (.deferred none)):=Mod.setObj rfl
  have z6:=i6.size
  have z4:=m4.size
  refine hK s ls _ ?_ hperm ?_ (fun b hb=>by have:=i5 b hb;omega)
  ·refine i4.aq fun b hb hbl=>?_
   have:=i5 b hb
   exact(m5.same b (by omega) (by omega)).trans (m4.same b hbl (by omega))
  ·have z5:=m5.size
   refine⟨by omega,fun b hb _=>(m5.same b (by omega) (by omega)).trans ((m4.same b (by omega) (by omega)).trans ((i6.same b (by omega) (by omega)).trans ((eB.same b (by omega) id).trans (m1.same b hb id))))⟩
theorem qY [Tab] {H:aa} {s:Sl} {ps:List Nat} (h:bc eP ru H s ps) {i:Nat} {q:Nat} (hi:ps[i]?=some q) {z:Int} (hz:z=(i:Int)) {K:Addr→Option Addr→Prop} (hK:∀ad,s.a=some ad→K ad (aI q)):
  ae s.a fun a=>(0≤z∧z<(s.n:Int))∧ld ar H (a.add (z.toNat*1)) fun v=>K a v:=by
 subst hz
 have hil:=(List.getElem?_eq_some_iff.1 hi).1
 have hn:=h.n (by decide)
 obtain⟨ad,ha⟩:=gJ.addr h.rd (by decide) (by omega)
 refine bT ad ha ⟨⟨by omega,by omega⟩,?_⟩
 have:=gJ.ld (E:=eP) (c:=ar) (y:=aI q) h.rd ha hi (j:=0) rfl (n:=i*1) rfl (hK ad ha)
 rw[show (Addr.add (Addr.add ad (i*1)) 0)=Addr.add ad (i*1) from rfl] at this
 rw[Int.toNat_natCast];exact this
structure Kept (H:aa) (cap:Nat) (n:ByteArray) (ps:List Nat) (sel:Nat→Bool):Prop where
 cap:ag H cap tj #[.string n]
 fr:∀q∈ps,∃g f,dF H g f∧g.p=q∧sel q=(f.name.toList==n.toList)
theorem DN {H:aa} {cap q:Nat} {n:ByteArray} {ps:List Nat} {sel:Nat→Bool} {K:Bool→aa→Prop} (h:Kept H cap n ps sel) (hq:q∈ps) (hK:K (!sel q) H):CV.sp (aI q) ⟨cap,0,none⟩ H K:=by
 refine CV.of ?_
 unfold CV.vc
 simp only[av,add_add,Nat.reduceAdd]
 obtain⟨g,f,hA,rfl,hs⟩:=h.fr q hq
 refine hA.row.ld (c:=bK) (i:=0) (x:=f.name) rfl ?_
 have:=h.cap.ld (c:=bK) (i:=0) (x:=n) rfl (K:=fun(x_1:ByteArray)=>K (!(f.name.toList==x_1.toList)) H)
 rw[show (Addr.add ⟨cap,0,none⟩ 0)=⟨cap,0,none⟩ from rfl] at this
 refine this ?_
 rw[←hs];exact hK
theorem zd [Tab] {H:aa} {cap:Nat} {n:ByteArray} {s:Sl} {ps:List Nat} {sel:Nat→Bool} {K:Int→aa→Prop} (h:bc eP ru H s ps) (hk:Kept H cap n ps sel) (hl:ps.length≤1048576)
  (hN:ps.filter sel=ps→K (-1) H) (hF:∀i,i<ps.length→(ps.take i).filter sel=ps.take i→(∃q,ps[i]?=some q∧sel q=false)→K (i:Int) H):HR.sp s ⟨cap,0,none⟩ H K:=by
 refine HR.of ?_
 unfold HR.vc
 have hn:=h.n (by decide)
 refine aB ps.length (fun k x H1=>H=H1∧x=(k:Int)∧(ps.take k).filter sel=ps.take k) ⟨rfl,rfl,by simp⟩ ?_
 rintro k _ _ next hk' ⟨rfl,rfl,hf⟩ hnext
 refine aj (fun hc=>?_) (fun hc=>?_)
 ·have hlt:k<ps.length:=by rw[hn] at hc;simpa using hc
  have hq:ps[k]?=some ps[k]:=List.getElem?_eq_getElem hlt
  refine qY h hq rfl fun ad ha=>?_
  refine DN hk (List.getElem_mem hlt) ?_
  cases hs:sel ps[k] with
  |false=>exact aZ rfl (hF k hlt hf ⟨_,hq,hs⟩)
  |true=>
    refine aA rfl (hnext hlt _ _ ⟨rfl,aP k (by omega),?_⟩)
    rw[List.take_succ_eq_append_getElem hlt,List.filter_append,hf]
    simp[hs]
 ·have hge:k=ps.length:=by rw[hn] at hc;simp at hc;omega
  rw[hge,List.take_of_length_le (Nat.le_refl _)] at hf
  exact hN hf
theorem ni [Tab] {P:Program} {w:World} {g o:Nat} {t:TypeId} {vs:List Value} {cur:Array Value} (hg:w.heap[g]?=some (.cells cur t (0,0))) (hfit:o+vs.length≤cur.size) (h1:∀v∈vs,v.oneCell'=true):
  w.setCells g o vs=w.setRow g (cur.toList.take o++vs++cur.toList.drop (o+vs.length)).toArray:=by
 have a:=run_storeCells_cells (P:=P) g o vs 0 w (fun j hj=>by simp[World.cell?,hg];omega) (fun j hj=>by simp[World.frozen?,hg]) h1
 have b:=run_storeCells_at P g o t vs 0 cur w hg (by simpa using hfit) h1
 simp only[Nat.add_zero] at a b
 rw[a] at b
 simpa using b
theorem GI:∀w:World,(zeroValue ru).run Tryz.prog w=.ok (.pointer none) w:=Tryz.zeroValue137
theorem IP:Tryz.prog.underlying BV=some (.slice ru):=by kernel_rfl
theorem BZ [Tab] {H:aa} {s:Sl} {ps:List Nat} {lo:Nat} {ty:TypeId} {K:Value→aa→Prop} (h:bc eP ru H s ps) (hlo:lo<ps.length)
  (hK:∀v H',bc eP ru H' (Sl.mk s.a lo s.c) (ps.take lo)→Mod (ai s) H H'→K v H'):
  bS eO Tryz.prog (Builtin.clear_ #[BV] ty #[(.slice (dM s.a s.c lo 1) (s.n - lo) (s.c - lo))]) H K:=by
 intro w hw
 subst hw
 have hn:=h.n (by decide)
 rcases h.2 with ⟨e1,e2⟩|⟨g,cap,cur,e1,hb,hg,h4,h5,h6,h7⟩
 ·omega
 ·cases s with
  |mk sa sn sc=>
  simp only[Sl.v,Value.slice.injEq] at e1
  obtain⟨rfl,_,rfl⟩:=e1
  simp only at hn h4 h7 hK ⊢
  have hE1:eP.size=1:=rfl
  rw[hE1,Nat.mul_one] at h6 h7
  have ea:dM (some ⟨g,0,none⟩) sc lo 1=some ⟨g,lo,none⟩:=by
   unfold dM
   rw[if_neg (by omega)]
   simp[bH]
  rw[ea]
  have hr:=Lib.run_clear_slice (P:=Tryz.prog) w BV ru ty (.pointer none) IP GI rfl rfl g lo (sn - lo) (sc - lo) (by omega) (fun j hj=>by simp[World.cell?,hg];omega) (fun j hj=>by simp[World.frozen?,hg])
  rw[ni (P:=Tryz.prog) hg (by simp;omega) (by intro v hv;rw[List.eq_of_mem_replicate hv];rfl)] at hr
  have hown:∀k,ai (Sl.mk (some ⟨g,0,none⟩) sn sc) k↔k=g:=fun k=>⟨fun⟨ad,h1,h2⟩=>by cases h1;exact h2.symm,fun h=>⟨_,rfl,h.symm⟩⟩
  refine⟨_,_,hr,⟨_,rfl,hK _ _ ?_ ⟨by simp[World.setRow],fun k _ hk=>setRow_other w g k _ (fun e=>hk ((hown k).2 e))⟩⟩,⟨rfl,Nat.le_refl _⟩⟩
  refine⟨by rw[qR];simp[hE1];omega,.inr ⟨g,sc,_,rfl,Nat.zero_le _,setRow_heap w g cur _ _ _ hg,by simp only;omega,h5,?_,?_⟩⟩
  ·simp only[hE1,Nat.mul_one,List.size_toArray,List.length_append,List.length_take,List.length_replicate,List.length_drop,Array.length_toList]
   omega
  ·simp only[hE1,Nat.mul_one]
   rw[List.append_assoc,List.take_append_of_le_length (by simp;omega),List.take_take,Nat.min_self]
   have e1:eP.all (ps.take lo)=(eP.all ps).take lo:=by rw[qR,qR,List.map_take]
   rw[e1,←h7,List.take_take,Nat.min_eq_left (by omega)]
theorem Bl [Tab] {H:aa} {cap:Nat} {n:ByteArray} {s:Sl} {ps:List Nat} {sel:Nat→Bool} {K:Sl→aa→Prop} (h:bc eP ru H s ps) (hk:Kept H cap n ps sel) (hl:ps.length≤1048576) (hcap:∀b,ai s b→b≠cap)
  (hK:∀s' H',bc eP ru H' s' (ps.filter sel)→Mod (ai s) H H'→(∀b,ai s' b→ai s b)→K s' H'):HK.sp s ⟨cap,0,none⟩ H K:=by
 refine HK.of ?_
 unfold HK.vc
 have hn:=h.n (by decide)
 have hcp:=au.cap h
 refine zd h hk hl (fun hall=>aZ rfl (hK s H (by rw[hall];exact h) (.refl _ _) fun _ q=>q)) (fun i hi hpre hno=>?_)
 refine aA (by simp) ?_
 -- the frames' own blocks are not the slice's
 have hsep:∀q∈ps,¬ai s q:=by
  intro q hq hb
  obtain⟨c,e⟩:=h.obj q hb
  obtain⟨g,f,hA,rfl,_⟩:=hk.fr q hq
  exact absurd (aR hA.row e) (by decide)
 have keepK:∀{A:aa},Mod (ai s) H A→(∀q∈ps,∃g f,dF H g f∧g.p=q∧sel q=(f.name.toList==n.toList))→Kept A cap n ps sel:=by
  intro A hM _
  refine⟨hM.at hk.cap fun q=>hcap cap q rfl,fun q hq=>?_⟩
  obtain⟨g,f,hA,e1,e2⟩:=hk.fr q hq
  refine⟨g,f,hA.aq fun b hb hl=>hM.same b hl fun q2=>?_,e1,e2⟩
  obtain⟨c,e⟩:=h.obj b q2
  obtain⟨cs,t,e3,ht⟩:=hA.obj b hb
  have:=aR e e3
  rw[←this] at ht
  exact absurd ht (by decide)
 obtain⟨q0,hq0,hs0⟩:=hno
 have hw0:IntKind.i64.wrap ((i:Int)+1)=((i+1:Nat):Int):=aP i (by omega)
 rw[hw0]
 refine⟨Nat×Nat×List Nat,fun t z A=>z=((t.1:Int),(t.2.1:Int))∧bc eP ru A s t.2.2∧t.2.2.length=ps.length∧t.2.2.take t.1=(ps.take t.2.1).filter sel∧t.2.2.drop t.2.1=ps.drop t.2.1∧t.1<t.2.1∧t.2.1≤ps.length∧Mod (ai s) H A,fun t=>ps.length - t.2.1,⟨(i,i+1,ps),rfl,h,rfl,?_,rfl,Nat.lt_succ_self _,hi,.refl _ _⟩,?_⟩
 ·show ps.take i=(ps.take (i+1)).filter sel
  have hq:ps[i]=q0:=by rw[List.getElem?_eq_getElem hi] at hq0;exact Option.some.inj hq0
  rw[List.take_succ_eq_append_getElem hi,List.filter_append,hpre,hq]
  simp[hs0]
 ·rintro⟨a,j,cur⟩ z A ⟨rfl,o,hlen,htk,hdr,haj,hj,hM⟩
  simp only at o hlen htk hdr haj hj ⊢
  have hkA:=keepK hM hk.fr
  refine aj (fun hc=>?_) (fun hc=>?_)
  ·have hjl:j<ps.length:=by rw[hn] at hc;simp at hc;omega
   have hcj:cur[j]?=some ps[j]:=by
    have e1:(cur.drop j)[0]?=(ps.drop j)[0]?:=by rw[hdr]
    rw[List.getElem?_drop,List.getElem?_drop,Nat.add_zero,List.getElem?_eq_getElem hjl] at e1
    exact e1
   refine qY o hcj rfl fun ad ha=>?_
   refine DN hkA (List.getElem_mem hjl) ?_
   have hwj:IntKind.i64.wrap ((j:Int)+1)=((j+1:Nat):Int):=aP j (by omega)
   have hdr':∀l:List Nat,l.drop j=ps.drop j→l.drop (j+1)=ps.drop (j+1):=by
    intro l e
    have:(l.drop j).drop 1=(ps.drop j).drop 1:=by rw[e]
    rwa [List.drop_drop,List.drop_drop] at this
   cases hs:sel ps[j] with
   |false=>
     refine aA rfl ⟨(a,j+1,cur),⟨by rw[hwj],o,hlen,?_,hdr' cur hdr,by simp only;omega,hjl,hM⟩,by simp only;omega⟩
     simp only
     rw[List.take_succ_eq_append_getElem hjl,List.filter_append,htk]
     simp[hs]
   |true=>
     refine aZ rfl ?_
     rw[ha]
     refine⟨⟨by omega,by omega⟩,?_⟩
     have hal:a<cur.length:=by omega
     have hca:cur[a]?=some cur[a]:=List.getElem?_eq_getElem hal
     rw[Int.toNat_natCast]
     show st A (Addr.add (Addr.add ad (a*1)) 0) (dq ps[j]) _
     refine bc.st (i:=a) (j:=0) (x:=cur[a]) (y:=ps[j]) o ha hca (by decide) rfl rfl rfl fun A' o' m' z'=>?_
     have hwa:IntKind.i64.wrap ((a:Int)+1)=((a+1:Nat):Int):=aP a (by omega)
     refine⟨(a+1,j+1,cur.set a ps[j]),⟨by rw[hwa,hwj],o',by simp[hlen],?_,?_,by simp only;omega,hjl,hM.trans m'⟩,by simp only;omega⟩
     ·simp only
      rw[List.take_succ_eq_append_getElem hjl,List.filter_append,←htk,List.take_succ_eq_append_getElem (by simp;omega),List.take_set_of_le (Nat.le_refl _)]
      simp[hs]
     ·simp only
      rw[List.drop_set_of_lt (by omega)]
      exact hdr' cur hdr
  ·have hje:j=ps.length:=by rw[hn] at hc;simp at hc;omega
   subst hje
   rw[List.take_of_length_le (Nat.le_refl _)] at htk
   refine⟨⟨by omega,by omega⟩,?_⟩
   rw[Int.toNat_natCast]
   refine BZ o (by omega) fun v A' o' m'=>⟨⟨by omega,by omega⟩,?_⟩
   rw[iW,Nat.sub_zero,Nat.sub_zero]
   rw[htk] at o'
   exact hK _ A' o' (hM.trans m') fun b q=>q
open Go.MapKept Go.Shelf Go.Sort
def PG.of (x:PG) (n:ByteArray):List FZ:=(x.zs.filter fun z=>z.1.name.toList==n.toList).mergeSort fun a b=>decide (a.1.page≤b.1.page)
theorem PG.eY {x:PG} {n:ByteArray} {z:FZ}:z∈x.of n↔z∈x.zs∧z.1.name=n:=by
 unfold PG.of
 rw[List.mem_mergeSort,List.mem_filter]
 constructor
 ·rintro⟨h1,h2⟩;exact⟨h1,jj (by simpa using h2)⟩
 ·rintro⟨h1,h2⟩;exact⟨h1,by rw[h2];simp⟩
theorem tQ {l r:List Nat} (h:l.Perm r) (hl:l.Pairwise (·≤·)) (hr:r.Pairwise (·≤·)):l=r:=
 List.Perm.eq_of_pairwise (le:=(·≤·)) (fun a b _ _ h1 h2=>Nat.le_antisymm h1 h2) hl hr h
theorem PG.uD (x:PG) (n:ByteArray):(x.of n).Pairwise fun a b=>a.1.page≤b.1.page:=by
 unfold PG.of
 have:=List.pairwise_mergeSort (le:=fun a b:FZ=>decide (a.1.page≤b.1.page)) (fun _ _ _ h1 h2=>by simp at*;omega) (fun _ _=>by simp;omega) (x.zs.filter fun z=>z.1.name.toList==n.toList)
 exact this.imp fun h=>by simpa using h
theorem PG.yh {x:PG} {s:Pl} (h:s.fs=x.fs) (n:ByteArray):(x.of n).map (fun z=>z.1.page)=s.aM n:=by
 refine tQ ?_ ?_ ?_
 ·unfold Pl.aM PG.of
  rw[h]
  unfold PG.fs
  refine((List.mergeSort_perm _ _).map _).trans (List.Perm.trans ?_ (List.mergeSort_perm _ _).symm)
  rw[List.filter_map,List.map_map]
  exact List.Perm.refl _
 ·rw[List.pairwise_map];exact x.uD n
 ·unfold Pl.aM
  have:=List.pairwise_mergeSort (le:=fun a b:Nat=>decide (a≤b)) (fun _ _ _ h1 h2=>by simp at*;omega) (fun _ _=>by simp;omega) ((s.fs.filter fun f=>f.name.toList==n.toList).map (·.page))
  exact this.imp fun h=>by simpa using h
theorem jV {α β:Type} (f:α→β) {l:List α} (h:(l.map f).Nodup):l.Nodup:=by
 unfold List.Nodup at*
 rw[List.pairwise_map] at h
 exact h.imp fun hne e=>hne (by rw[e])
theorem uQ {α β:Type} {f:α→β}:∀{l:List β},(∀b∈l,∃a,f a=b)→∃r:List α,r.map f=l
 |[],_=>⟨[],rfl⟩
 |b::l,h=>by
   obtain⟨a,ha⟩:=h b List.mem_cons_self
   obtain⟨r,hr⟩:=uQ (l:=l) fun c hc=>h c (List.mem_cons_of_mem _ hc)
   exact⟨a::r,by rw[List.map_cons,ha,hr]⟩
theorem EU {H:aa} {za zb:FZ} (ha:dF H za.2 za.1) (hb:dF H zb.2 zb.1) (h1:za.1.page<1048577) (h2:zb.1.page<1048577):
  Spec Tryz.prog CL.no #[dq za.2.p,dq zb.2.p] H fun v H'=>v=.int .i64 ((za.1.page:Int) - (zb.1.page:Int))∧Mod (fun _=>False) H H':=by
 have:=CL.of (a:=aI za.2.p) (b:=aI zb.2.p) (H:=H) (R:=fun r H'=>r=(za.1.page:Int) - (zb.1.page:Int)∧Mod (fun _=>False) H H') (by
  unfold CL.vc
  simp only[av,add_add,Nat.reduceAdd]
  refine ha.row.ld (c:=ab .i64) (i:=1) (x:=(za.1.page:Int)) rfl ?_
  refine hb.row.ld (c:=ab .i64) (i:=1) (x:=(zb.1.page:Int)) rfl ?_
  exact⟨wrap64 (by omega) (by omega),.refl _ _⟩)
 refine Spec.mono this fun v H' ⟨x,hx,h3,h4⟩=>?_
 subst hx
 exact⟨by rw[h3],h4⟩
theorem Ct:∀args w,(callFunc CL.no args).run Tryz.prog w=.ok (.enter CL.no args) w:=enters_of Tryz.func134 (by kernel_rfl) rfl
theorem IB [Tab] {x:PG} {H:aa} {p dp:Nat} {s:Pl} {n:ByteArray} {K:Sl→aa→Prop} (h:bk x H p dp s)
  (hK:∀sl H',bc eP ru H' sl ((x.of n).map fun z=>z.2.p)→Ext H H'→(∀b,ai sl b→H.size≤b)→K sl H'):FP.sp (aI p) n H K:=by
 refine FP.of ?_
 unfold FP.vc
 simp only[av]
 refine ak fun H1 s1 r1 e1=>?_
 have h1:bk x H1 p dp s:=h.aq fun b _ hl=>e1.same b hl id
 refine h1.head.ld (c:=cJ) (i:=2) (x:=some x.mf) rfl ?_
 refine IY.of ?_
 unfold IY.vc
 refine ak fun H2 s2 r2 e2=>?_
 refine Jr.of ?_
 unfold Jr.vc
 have F2:aG H2 x:=h1.af.aq fun b _ hl=>e2.same b hl id
 have hlen:=h.wf.len
 have hmost:=h.wf.most
 have hsz:=h.n
 refine qi F2 r2 (by omega) fun sl ls H3 o3 hp3 e3 f3=>?_
 have hF3:aG H3 x:=F2.aq fun b _ hl=>e3.same b hl id
 have z1:=e1.size
 have z2:=e2.size
 have z3:=e3.size
 -- the pointers that were met are the frames'
 have hperm:(ls.map yZ).Perm (x.zs.map fun z=>z.2.p):=by
  have q1:=(hp3.map fun e=>(e.key,e.val)).trans h.perm
  have q2:=q1.map fun kv:Value×Value=>(match kv.2 with|.pointer (some a)=>a.block|_=>0)
  rw[List.map_map] at q2
  refine List.Perm.trans (List.Perm.of_eq ?_) (q2.trans (List.Perm.of_eq ?_))
  ·exact List.map_congr_left fun e _=>rfl
  ·unfold qz;rw[List.map_map];exact List.map_congr_left fun z _=>rfl
 have hat:∀q∈ls.map yZ,∃z∈x.zs,z.2.p=q:=by
  intro q hq
  obtain⟨z,hz,e⟩:=List.mem_map.1 (hperm.mem_iff.1 hq)
  exact⟨z,hz,e⟩
 let sel:Nat→Bool:=fun q=>x.zs.any fun z=>z.2.p==q&&z.1.name.toList==n.toList
 have hsel:∀z∈x.zs,sel z.2.p=(z.1.name.toList==n.toList):=by
  intro z hz
  cases hq:z.1.name.toList==n.toList with
  |true=>exact List.any_eq_true.2 ⟨z,hz,by simp[hq]⟩
  |false=>
    refine List.any_eq_false.2 fun y hy=>?_
    intro q
    simp only[Bool.and_eq_true,beq_iff_eq] at q
    have:=h.af.ptr hy hz q.1
    subst this
    rw[q.2] at hq;simp at hq
 have hll:(ls.map yZ).length≤1048576:=by
  rw[hperm.length_eq,List.length_map]
  have:=h.af.size;omega
 have hk3:Kept H3 H.size n (ls.map yZ) sel:=by
  refine⟨e3.at (e2.at r1 id) id,fun q hq=>?_⟩
  obtain⟨z,hz,e⟩:=hat q hq
  exact⟨z.2,z.1,hF3.each z hz,e,by rw[←e];exact hsel z hz⟩
 refine Bl o3 hk3 hll (fun b hb e=>by have:=f3 b hb;omega) fun s4 H4 o4 m4 w4=>?_
 -- sorted
 have m4':Ext H3 H4∨True:=.inr trivial
 have hF4:aG H4 x:=hF3.aq fun b hb hl=>m4.same b hl fun q=>by
  have:=f3 b q
  have:=h.af.lt b hb;omega
 have hperm4:((ls.map yZ).filter sel).Perm ((x.of n).map fun z=>z.2.p):=by
  refine(hperm.filter sel).trans ?_
  rw[List.filter_map]
  refine List.Perm.map _ (List.Perm.trans (List.Perm.of_eq ?_) (List.mergeSort_perm _ _).symm)
  refine List.filter_congr fun z hz=>?_
  exact hsel z hz
 have fresh4:∀b,ai s4 b→H.size≤b:=fun b hb=>by have:=f3 b (w4 b hb);omega
 have e4:Ext H H4:=⟨by have:=m4.size;omega,fun b hb _=>(m4.same b (by omega) (fun q=>by have:=f3 b q;omega)).trans ((e3.same b (by omega) id).trans ((e2.same b (by omega) id).trans (e1.same b hb id)))⟩
 by_cases hnil:(x.of n)=[]
 ·-- none
  have hl0:(ls.map yZ).filter sel=[]:=by
   have:=hperm4.length_eq
   rw[hnil] at this
   exact List.eq_nil_of_length_eq_zero (by simpa using this)
  rw[hl0] at o4
  have hn0:=o4.n (by decide)
  intro w hw
  subst hw
  have hc:=AnyF.slices_SortFunc_none (P:=Tryz.prog) (ρ:=lJ) {DF with} s4.a s4.c (.func (.func CL.no) #[] #[]) w
  have e0:s4.v=.slice s4.a 0 s4.c:=by
   cases s4;simp only[Sl.v] at hn0 ⊢;rw[hn0];rfl
  rw[e0]
  refine hc.mono fun e w' ⟨he,hw'⟩=>?_
  subst hw'
  refine⟨_,he,⟨(),rfl,hK s4 _ ?_ e4 fresh4⟩,.refl _⟩
  rw[hnil];exact o4
 ·obtain⟨z0,hz0⟩:=List.exists_mem_of_ne_nil _ hnil
  obtain⟨la,hla⟩:=uQ (f:=fun a:{z:FZ // z∈x.zs∧z.1.name=n}=>a.1.2.p) (l:=(ls.map yZ).filter sel) (fun q hq=>by
   obtain⟨z,hz,e⟩:=List.mem_map.1 (hperm4.mem_iff.1 hq)
   exact⟨⟨z,PG.eY.1 hz⟩,e⟩)
  haveI:Inhabited {z:FZ // z∈x.zs∧z.1.name=n}:=⟨⟨z0,PG.eY.1 hz0⟩⟩
  let E:gr {z:FZ // z∈x.zs∧z.1.name=n}:=⟨1,fun a=>[dq a.1.2.p],fun _=>rfl,fun x u hu=>by simp at hu;subst hu;rfl⟩
  have hEall:∀l:List {z:FZ // z∈x.zs∧z.1.name=n},E.all l=eP.all (l.map fun a=>a.1.2.p):=by
   intro l
   induction l with
   |nil=>rfl
   |cons a l ih=>
     have q1:E.all (a::l)=dq a.1.2.p::E.all l:=rfl
     have q2:eP.all ((a::l).map fun a=>a.1.2.p)=dq a.1.2.p::eP.all (l.map fun a=>a.1.2.p):=rfl
     rw[q1,q2,ih]
  have oE:∀{A:aa} {l:List {z:FZ // z∈x.zs∧z.1.name=n}},bc E ru A s4 l↔bc eP ru A s4 (l.map fun a=>a.1.2.p):=by
   intro A l
   unfold bc
   rw[hEall]
   exact Iff.rfl
  have o4':bc E ru H4 s4 la:=by rw[oE,hla];exact o4
  have hpg:∀a:{z:FZ // z∈x.zs∧z.1.name=n},a.1.1.page<1048577:=fun a=>(h.wf.ao a.1.1 (by rw[h.fs];exact List.mem_map.2 ⟨a.1,a.2.1,rfl⟩)).1
  let cf:{z:FZ // z∈x.zs∧z.1.name=n}→{z:FZ // z∈x.zs∧z.1.name=n}→Int:=fun a b=>(a.1.1.page:Int) - (b.1.1.page:Int)
  have hlt:∀a b,ltOf cf a b=decide (a.1.1.page<b.1.1.page):=by
   intro a b
   show decide ((a.1.1.page:Int) - (b.1.1.page:Int)<0)=_
   rw[decide_eq_decide];omega
  have hO:SWO (ltOf cf):=⟨fun a=>by rw[hlt];simp,fun a b c h1 h2=>by rw[hlt] at*;simp at*;omega,fun a b c h1 h2=>by rw[hlt] at*;simp at*;omega⟩
  have hT:∀a b,(ltOf cf) a b=false→(ltOf cf) b a=false→a=b:=by
   intro a b h1 h2
   rw[hlt] at h1 h2
   simp at h1 h2
   apply Subtype.ext
   obtain⟨i,hi⟩:=List.mem_iff_getElem?.1 a.2.1
   obtain⟨j,hj⟩:=List.mem_iff_getElem?.1 b.2.1
   have hk:=h.wf.keys
   have:=key_inj (p:=s) hk (i:=i) (j:=j) (f:=a.1.1) (g:=b.1.1) (by rw[h.fs];simp[PG.fs,hi]) (by rw[h.fs];simp[PG.fs,hj]) (by rw[a.2.2,b.2.2]) (by omega)
   subst this
   rw[hi] at hj;exact Option.some.inj hj
  have hlal:la.length<4611686018427387904:=by
   have:la.length=((ls.map yZ).filter sel).length:=by rw[←hla,List.length_map]
   have h2:=List.length_filter_le sel (ls.map yZ)
   omega
  refine tB (ρ:=lJ) (E:=E) (e:=fun a=>dq a.1.2.p) DF (fun _=>rfl) rfl hO hT Ct o4' hlal (fun A mA a b=>?_) fun A oA mA=>?_
  ·have hFA:aG A x:=hF4.aq fun c hc hl=>mA.same c hl fun q=>by
    have:=fresh4 c q
    have:=h.af.lt c hc;omega
   exact EU (hFA.each a.1 a.2.1) (hFA.each b.1 b.2.1) (hpg a) (hpg b)
  ·rw[oE] at oA
   have hperm5:=List.mergeSort_perm la (fun x y=>!(ltOf cf) y x)
   have heq:(la.mergeSort fun x y=>!(ltOf cf) y x).map (fun a=>a.1.2.p)=(x.of n).map fun z=>z.2.p:=by
    have hz:(la.mergeSort fun x y=>!(ltOf cf) y x).map (fun a=>a.1)=x.of n:=by
     refine List.Perm.eq_of_pairwise (le:=fun a b:FZ=>a.1.page≤b.1.page) (fun a b ha hb h1 h2=>?_) ?_ (x.uD n) ?_
     ·obtain⟨a',_,rfl⟩:=List.mem_map.1 ha
      have hb':=PG.eY.1 hb
      have:=hT a' ⟨b,hb'⟩ (by rw[hlt];simp;exact h2) (by rw[hlt];simp;exact h1)
      exact congrArg Subtype.val this
     ·rw[List.pairwise_map]
      have:=List.pairwise_mergeSort (le:=fun x y=>!(ltOf cf) y x) (fun a b c h1 h2=>by rw[hlt] at*;simp at*;omega) (fun a b=>by rw[hlt,hlt];simp;omega) la
      exact this.imp fun h=>by rw[hlt] at h;simpa using h
     ·-- the same frames
      have hnd:(x.of n).Nodup:=by
       have hz:x.zs.Nodup:=by
        have:=h.wf.keys
        rw[h.fs] at this
        unfold PG.fs at this
        rw[List.map_map] at this
        exact jV _ this
       unfold PG.of
       exact(List.mergeSort_perm _ _).symm.nodup (hz.filter _)
      have hA:(la.map fun a=>a.1.2.p).Perm ((x.of n).map fun z=>z.2.p):=by rw[hla];exact hperm4
      have hpp:=(hperm5.map fun a=>a.1.2.p).trans hA
      have inj:∀a∈(la.mergeSort fun x y=>!(ltOf cf) y x).map (fun a=>a.1),∀b∈x.of n,a.2.p=b.2.p→a=b:=by
       intro a ha b hb e
       obtain⟨a',_,rfl⟩:=List.mem_map.1 ha
       exact h.af.ptr a'.2.1 (PG.eY.1 hb).1 e
      have hnd2:((x.of n).map fun z=>z.2.p).Nodup:=by
       unfold List.Nodup
       rw[List.pairwise_map]
       refine List.Pairwise.imp_of_mem (fun {a b} ha hb hne e=>hne (h.af.ptr (PG.eY.1 ha).1 (PG.eY.1 hb).1 e)) hnd
      have hpp':(((la.mergeSort fun x y=>!(ltOf cf) y x).map fun a=>a.1).map fun z=>z.2.p).Perm ((x.of n).map fun z=>z.2.p):=by rw[List.map_map];exact hpp
      have hndA:((la.mergeSort fun x y=>!(ltOf cf) y x).map fun a=>a.1).Nodup:=jV _ (hpp'.symm.nodup hnd2)
      rw[List.perm_ext_iff_of_nodup hndA hnd]
      intro z
      constructor
      ·intro hz
       obtain⟨a',_,rfl⟩:=List.mem_map.1 hz
       exact PG.eY.2 a'.2
      ·intro hz
       have:z.2.p∈((la.mergeSort fun x y=>!(ltOf cf) y x).map fun a=>a.1).map fun z=>z.2.p:=hpp'.mem_iff.2 (List.mem_map.2 ⟨z,hz,rfl⟩)
       obtain⟨y,hy,e⟩:=List.mem_map.1 this
       rw[←inj y hy z hz e];exact hy
    rw[←hz,List.map_map];rfl
   rw[heq] at oA
   refine hK s4 A oA ⟨by have:=e4.size;have:=mA.size;omega,fun b hb _=>(mA.same b (by have:=e4.size;omega) (fun q=>by have:=fresh4 b q;omega)).trans (e4.same b hb id)⟩ fresh4
end Go.Proofs.YtacfhncgbgijhaaGreat
namespace Go.Proofs.YtacfhncgbgijhaaGreat
open Go.MapKept
theorem Gx [Tab] {zs:List FZ} {i:Nat} {f f':Fr} {g:qS} (hz:zs[i]?=some (f,g)) (hk:f'.key=f.key):qz (zs.set i (f',g))=qz zs:=by
 have h1:f'.name=f.name:=congrArg Prod.fst hk
 have h2:f'.page=f.page:=congrArg Prod.snd hk
 unfold qz
 rw[show zs.set i (f',g)=zs.modify i (fun _=>(f',g)) from (bP (g:=fun _=>(f',g)) hz).symm]
 exact cT _ _ _ _ _ hz (by simp only[h1,h2])
theorem JE {x y:PG} {H:aa} {z:FZ} {n:ByteArray} (hk:qz y.zs=qz x.zs) (hz:z∈x.zs) (hn:z.1.name=n) (hy:aG H y):∃(i:Nat) (f:Fr),y.zs[i]?=some (f,(⟨z.2.p,(y.zs.getD i z).2.b⟩:qS))∧f.name=n∧f.page=z.1.page:=by
 have h1:(jv z.1.name (z.1.page:Int),dq z.2.p)∈qz y.zs:=by rw[hk];exact List.mem_map.2 ⟨z,hz,rfl⟩
 obtain⟨u,hu,e⟩:=List.mem_map.1 h1
 simp only[Prod.mk.injEq] at e
 have e1:=kB e.1
 have e2:=xg e.2
 obtain⟨i,hi⟩:=List.mem_iff_getElem?.1 hu
 refine⟨i,u.1,?_,e1.1.trans hn,by omega⟩
 have:y.zs.getD i z=u:=by simp[List.getD,hi]
 rw[hi,this,←e2]
theorem Pl.iO (s:Pl) (n:ByteArray):(s.aM n).length≤s.fs.length:=by
 unfold Pl.aM
 rw[List.length_mergeSort,List.length_map]
 exact List.length_filter_le _ _
theorem Fe [Tab] {F:Nat→Prop} {H:aa} {p dp:Nat} {s:Pl} {n:ByteArray} {K:Int→aa→Prop} (hg:Gl H) (h:al F H p dp s) (hlogs:s.d.aH<68719470000)
  (hK:∀F' H',al F' H' p dp (s.flush n).1→Step F F' H H'→K (s.flush n).2 H'):Gv.sp (aI p) n H K:=by
 have h00:=h
 obtain⟨x,D,hd,hF⟩:=h
 refine Gv.of ?_
 unfold Gv.vc
 simp only[av]
 refine jc hd.pool ?_
 unfold Pl.flush at hK
 refine aj (fun hw=>?_) (fun hw=>?_)
 ·have hw':s.wrong≠0:=by simpa using hw
  rw[if_pos hw'] at hK
  exact hK F H h00 (.refl _ _)
 have hw':¬s.wrong≠0:=by simpa using hw
 rw[if_neg hw'] at hK
 refine hd.pool.head.ld (c:=ar) (i:=0) (x:=aI dp) rfl ?_
 refine rZ hd.gW ?_
 have fin:∀(e:Int) (x':PG) (D':Nat→Prop) (H1:aa) (t:Pl),bL x' D' H1 p dp t→Step (fun b=>D b∨x.all p b) (fun b=>D' b∨x'.all p b) H H1→(∀F' H',al F' H' p dp (Pl.out (t,e)).1→Step F F' H H'→K (Pl.out (t,e)).2 H')→
   uS.sp (aI p) e H1 fun r H2=>K r H2:=by
  intro e x' D' H1 t h1 S1 hk
  refine vB (hd.gl hg S1.mod) h1 fun H2 h2 S2=>?_
  obtain⟨F',q1,q2⟩:=h2.out (x:=x) (D:=D) (F:=F) (H:=H) hF (S1.trans S2)
  exact hk F' H2 q1 q2
 refine aj (fun hz=>?_) (fun hz=>?_)
 ·have hz':(s.d.len n).2≠0:=by simpa using hz
  rw[if_pos hz'] at hK
  exact fin _ x D H s hd (.refl _ _) hK
 have hz':¬(s.d.len n).2≠0:=by simpa using hz
 rw[if_neg hz'] at hK
 refine IB hd.pool fun sl H1 o1 e1 f1=>?_
 have hd1:=hd.ext e1
 have hlen1:=o1.n (by decide)
 have hpo:=PG.yh hd.pool.fs n
 have hll:(s.aM n).length≤4096:=by
  have:=s.iO n
  have:=hd.pool.wf.len;have:=hd.pool.wf.most;omega
 have hsl:sl.n=(s.aM n).length:=by rw[hlen1,←hpo,List.length_map,List.length_map]
 have hofl:(x.of n).length=(s.aM n).length:=by rw[←hpo,List.length_map]
 refine aB (s.aM n).length (fun k z A=>z=(k:Int)∧∃y D' t,bL y D' A p dp t∧Step (fun b=>D b∨x.all p b) (fun b=>D' b∨y.all p b) H1 A∧qz y.zs=qz x.zs∧bc eP ru A sl ((x.of n).map fun z=>z.2.p)∧t.d.aH≤s.d.aH+k∧Pl.aE n (s.aM n) s=Pl.aE n ((s.aM n).drop k) t) ⟨rfl,x,D,s,hd1,.refl _ _,rfl,o1,Nat.le_refl _,rfl⟩ ?_
 rintro k _ A next hk ⟨rfl,y,D',t,hdA,SA,hkv,oA,hlg,heq⟩ hnext
 have hgA:Gl A:=hd1.gl (hg.mod e1 id) SA.mod
 refine aj (fun hc=>?_) (fun hc=>?_)
 ·have hlt:k<(s.aM n).length:=by rw[hsl] at hc;simpa using hc
  have hko:k<(x.of n).length:=by omega
  have hzk:(x.of n)[k]∈x.of n:=List.getElem_mem hko
  obtain⟨hzx,hzn⟩:=PG.eY.1 hzk
  obtain⟨i,f,hi,hfn,hfp⟩:=JE hkv hzx hzn hdA.pool.af
  obtain⟨g,hgd⟩:∃g:qS,g=⟨(x.of n)[k].2.p,(y.zs.getD i (x.of n)[k]).2.b⟩:=⟨_,rfl⟩
  rw[←hgd] at hi
  have hgp:g.p=(x.of n)[k].2.p:=by rw[hgd]
  have hfs:t.fs[i]?=some f:=by rw[hdA.pool.fs];simp[PG.fs,hi]
  have hpk:(s.aM n)[k]=f.page:=by
   have:((x.of n).map fun z=>z.1.page)[k]'(by simpa using hko)=(s.aM n)[k]:=by congr 1
   rw[←this,List.getElem_map,hfp]
  have hfind:t.find n ((s.aM n)[k]:Int)=some i:=by rw[hpk,←hfn];exact Pl.find_eq hdA.pool.wf hfs
  have hstep:Pl.aE n ((s.aM n).drop k) t=if f.dirty then (if (t.put i).2=0 then Pl.aE n ((s.aM n).drop (k+1)) (t.put i).1 else t.put i) else Pl.aE n ((s.aM n).drop (k+1)) t:=by
   rw[List.drop_eq_getElem_cons hlt]
   conv=>lhs;unfold Pl.aE
   rw[hfind]
   simp only[Pl.fI hfs]
  have hA:=hdA.pool.af.each _ (List.mem_of_getElem? hi)
  refine qY oA (i:=k) (q:=(x.of n)[k].2.p) (by simp[hko]) rfl fun ad ha=>?_
  rw[←hgp]
  simp only[av]
  refine hA.row.ld (c:=aw) (i:=4) (x:=f.dirty) rfl ?_
  have hw1:IntKind.i64.wrap ((k:Int)+1)=((k+1:Nat):Int):=aP k (by omega)
  cases hdt:f.dirty with
  |false=>
    rw[hdt,if_neg (by simp)] at hstep
    exact aZ rfl (hnext hlt _ _ ⟨hw1,y,D',t,hdA,SA,hkv,oA,by omega,heq.trans hstep⟩)
  |true=>
    rw[hdt,if_pos rfl] at hstep
    refine aA rfl ?_
    refine AO hgA hdA hi (by omega) (fun hne D2 H2 h2 S2=>?_) (fun he D2 H2 h2 S2=>?_)
    ·rw[if_neg hne] at hstep
     refine aZ (by simpa using hne) ?_
     have e0:=heq.trans hstep
     rw[e0,if_pos hne] at hK
     exact fin _ y D2 H2 _ h2 ((SA.trans S2).ahead e1) hK
    ·rw[if_pos he] at hstep
     refine aA rfl ?_
     refine hnext hlt _ _ ⟨hw1,_,D2,(t.put i).1,h2,SA.trans S2,?_,?_,?_,heq.trans hstep⟩
     ·show qz (y.zs.set i (f.clean,g))=_
      rw[Gx (f':=f.clean) hi rfl];exact hkv
     ·refine oA.aq fun b hb hl=>S2.mod.same b hl ?_
      rintro q
      rcases SA.own b q with r|r
      ·have:=hd.lt b r
       have:=f1 b hb;omega
      ·have:=o1.lt b hb;omega
     ·have:=t.nj i;omega
 ·have hge:k=(s.aM n).length:=by rw[hsl] at hc;simp at hc;omega
  have e0:Pl.aE n (s.aM n) s=(t,0):=by rw[heq,hge,List.drop_of_length_le (Nat.le_refl _)];rfl
  rw[e0,if_neg (by simp)] at hK
  simp only at hK
  refine hdA.pool.head.ld (c:=ar) (i:=0) (x:=aI dp) rfl ?_
  refine Hc hdA.gW fun D2 H2 a2 S2=>?_
  obtain⟨q1,q2⟩:=hdA.rU hgA a2 S2
  exact fin _ y D2 H2 _ q1 ((SA.trans q2).ahead e1) hK
end Go.Proofs.YtacfhncgbgijhaaGreat
namespace Go.Proofs.YtacfhncgbgijhaaGreat
theorem cM {α β:Type} (f:α→β) (u:α→α) (hu:∀x,f (u x)=f x):∀(l:List α) (i:Nat),(l.modify i u).map f=l.map f
 |[],i=>by simp
 |a::l,0=>by simp[hu]
 |a::l,i+1=>by simp[cM f u hu l i]
theorem Pl.Cr {p q:Pl} (h:q.fs.map Fr.key=p.fs.map Fr.key) (n:ByteArray) (k:Int):q.find n k=p.find n k:=by
 have e:∀r:Pl,r.find n k=(r.fs.map Fr.key).findIdx? fun x=>x.1.toList==n.toList&&decide ((x.2:Int)=k):=by
  intro r
  rw[List.findIdx?_map]
  rfl
 rw[e,e,h]
theorem Pl.rk [Tab] (p:Pl) (i:Nat):(p.put i).1.fs.map Fr.key=p.fs.map Fr.key:=by
 unfold Pl.put
 split
 ·show (p.fs.modify i Fr.clean).map Fr.key=_
  exact cM Fr.key Fr.clean (fun _=>rfl) _ _
 ·rfl
theorem Pl.kK [Tab] {n:ByteArray}:∀(l:List Nat) (p:Pl),Pl.aE n (l.filter fun k:Nat=>(p.find n k).isSome) p=Pl.aE n l p
 |[],p=>rfl
 |k::l,p=>by
   rw[List.filter_cons]
   cases hf:p.find n k with
   |none=>
     rw[if_neg (by simp),Pl.kK l p]
     conv=>rhs;unfold Pl.aE
     rw[hf]
   |some i=>
     rw[show (some i).isSome=true from rfl,if_pos rfl]
     conv=>lhs;unfold Pl.aE
     conv=>rhs;unfold Pl.aE
     rw[hf]
     simp only
     have e:(l.filter fun k:Nat=>(p.find n k).isSome)=l.filter fun k:Nat=>((p.put i).1.find n k).isSome:=List.filter_congr fun j _=>by rw[Pl.Cr (p.rk i)]
     split
     ·split
      ·rw[e];exact Pl.kK l _
      ·rfl
     ·exact Pl.kK l p
theorem Pl.eI [Tab] (p:Pl) (e:Int):(p.met e).d=p.d∧(p.met e).fs=p.fs∧(p.met e).next=p.next∧(p.met e).most=p.most:=by
 unfold Pl.met;split<;>exact⟨rfl,rfl,rfl,rfl⟩
theorem Pl.ER [Tab] (p:Pl) (n:ByteArray) (k:Int):(p.load n k).1=p∨(p.load n k).1=p.room.1:=by
 unfold Pl.load
 split
 ·exact .inl rfl
 ·split
  ·exact .inl rfl
  ·split
   ·exact .inr rfl
   ·split
    ·exact .inr rfl
    ·split<;>exact .inr rfl
theorem Pl.nc [Tab] (p:Pl) (n:ByteArray) (k:Int):(p.bn n k).1.d.aH≤p.d.aH+1:=by
 unfold Pl.bn
 split
 ·exact Nat.le_succ _
 ·split
  ·exact Nat.le_succ _
  ·have h:(p.load n k).1.d.aH≤p.d.aH+1:=by
    rcases p.ER n k with e|e
    ·rw[e];exact Nat.le_succ _
    ·rw[e];exact p.pF
   split
   ·rename_i q f e he;rw[he] at h;exact h
   ·rename_i q e he;rw[he] at h;show (q.met e).d.aH≤_;rw[(q.eI e).1];exact h
theorem Pl.yB [Tab] (p:Pl) (n:ByteArray):(p.fresh n).1.d.aH≤p.d.aH+2:=by
 have hr:=p.pF
 have hw:=p.room.1.d.sZ n (p.d.len n).1 (cc 0 [])
 unfold Pl.fresh
 split
 ·show p.d.aH≤_;omega
 ·split
  ·show (p.met _).d.aH≤_;rw[(p.eI _).1];omega
  ·split
   ·show (p.room.1.met _).d.aH≤_;rw[(p.room.1.eI _).1];omega
   ·split
    ·show ((p.room.1.bF _).met _).d.aH≤_
     rw[((p.room.1.bF _).eI _).1]
     show (p.room.1.d.write _ _ _).1.aH≤_;omega
    ·show (p.room.1.d.write _ _ _).1.aH≤_;omega
theorem Pl.jt [Tab] {n:ByteArray}:∀(l:List Nat) (p:Pl),(Pl.aE n l p).1.d.aH≤p.d.aH+l.length
 |[],p=>Nat.le_refl _
 |k::l,p=>by
   unfold Pl.aE
   have hp:=fun i=>p.nj i
   split
   ·rename_i i hi
    have:=hp i
    split
    ·split
     ·have:=Pl.jt (n:=n) l (p.put i).1
      simp only[List.length_cons];omega
     ·simp only[List.length_cons];omega
    ·have:=Pl.jt (n:=n) l p
     simp only[List.length_cons];omega
   ·have:=Pl.jt (n:=n) l p
    simp only[List.length_cons];omega
theorem Pl.wv [Tab] (r:Pl×Int):(Pl.out r).1.d=r.1.d:=(r.1.eI r.2).1
theorem Pl.yW [Tab] (p:Pl) (n:ByteArray):(p.flush n).1.d.aH≤p.d.aH+p.fs.length:=by
 have h1:=Pl.jt (n:=n) (p.aM n) p
 have h2:=p.iO n
 have h3:=(Pl.aE n (p.aM n) p).1.d.A9 n
 unfold Pl.flush
 split
 ·show p.d.aH≤_;omega
 ·split
  ·rw[Pl.wv];show p.d.aH≤_;omega
  ·split
   ·rw[Pl.wv];omega
   ·rw[Pl.wv];show (Dk.sync _ _).1.aH≤_;omega
theorem Pl.DC [Tab] (p:Pl) (h:Int) (k:UInt8) (b:List UInt8):(p.set h k b).1.d=p.d:=by
 unfold Pl.set
 split
 ·rfl
 ·split
  ·split<;>rfl
  ·rfl
theorem Pl.vC [Tab] (p:Pl) (h:Int):(p.aQ h).1.d=p.d:=by
 unfold Pl.aQ
 split
 ·rfl
 ·split<;>rfl
theorem Pl.rO [Tab] (p:Pl) (n:ByteArray):(p.dt n).1.d.aH≤p.d.aH:=by
 have:=p.d.yj n
 unfold Pl.dt
 split
 ·exact Nat.le_refl _
 ·split
  ·rw[Pl.wv];exact Nat.le_refl _
  ·split
   ·exact Nat.le_refl _
   ·rw[Pl.wv];exact this
theorem Pl.jq [Tab] {n:ByteArray}:∀(l:List Nat) (p:Pl),(Pl.aE n l p).1.next=p.next∧(Pl.aE n l p).1.tick=p.tick
 |[],p=>⟨rfl,rfl⟩
 |k::l,p=>by
   unfold Pl.aE
   split
   ·rename_i i hi
    have:=p.nC i
    split
    ·split
     ·have h:=Pl.jq (n:=n) l (p.put i).1
      exact⟨h.1.trans this.2.1,h.2.trans this.2.2.1⟩
     ·exact⟨this.2.1,this.2.2.1⟩
    ·exact Pl.jq l p
   ·exact Pl.jq l p
theorem Pl.lS [Tab] (p:Pl) (n:ByteArray):(p.flush n).1.next=p.next:=by
 have h1:=(Pl.jq (n:=n) (p.aM n) p).1
 unfold Pl.flush
 split
 ·rfl
 ·split
  ·exact(p.eI _).2.2.1
  ·split
   ·exact((Pl.aE n (p.aM n) p).1.eI _).2.2.1.trans h1
   ·exact(((Pl.aE n (p.aM n) p).1.bF _).eI _).2.2.1.trans h1
theorem Dk.zi {s t:Dk} {i:Nat} {f:Fl} {g:Fl→Fl} (hf:s.files[i]?=some f) (ht:t.files=s.files.modify i g) (hn:(g f).name=f.name) (n:ByteArray):t.idx n=s.idx n:=by
 unfold Dk.idx
 rw[ht]
 have:∀(l:List Fl) (j:Nat),l[j]?=some f→(l.modify j g).findIdx? (fun f=>f.name.toList==n.toList)=l.findIdx? (fun f=>f.name.toList==n.toList):=by
  intro l
  induction l with
  |nil=>intro j h;simp at h
  |cons a l ih=>
    intro j h
    match j with
    |0=>
      simp at h;subst h
      simp only[List.modify_zero_cons,List.findIdx?_cons,hn]
    |j+1=>
      simp only[List.getElem?_cons_succ] at h
      simp only[List.modify_succ_cons,List.findIdx?_cons,ih j h]
 exact this s.files i hf
theorem Dk.nM {s:Dk} {n:ByteArray} {k:Int} {b:List UInt8} (h:(s.write n k b).2=0):0≤k∧k.toNat<(s.write n k b).1.size n:=by
 unfold Dk.write at h ⊢
 by_cases hd:s.down=true
 ·rw[if_pos hd] at h;cases h
 rw[if_neg hd] at h ⊢
 by_cases hb:b.length=512
 ·rw[dif_pos hb] at h ⊢
  cases hi:s.idx n with
  |none=>rw[hi] at h;cases h
  |some i=>
    rw[hi] at h
    simp only at h ⊢
    by_cases hk:k<0∨k>(s.file i).ao.length
    ·rw[if_pos hk] at h;cases h
    rw[if_neg hk] at h ⊢
    by_cases hq:k=(s.file i).ao.length∧s.used≥s.quota
    ·rw[if_pos hq] at h;cases h
    rw[if_neg hq] at h ⊢
    unfold Dk.step at h ⊢
    by_cases hc:s.change.2=0
    ·rw[if_pos hc]
     refine⟨by omega,?_⟩
     obtain⟨f,hf,_⟩:=Dk.dC hi
     have hf2:s.change.1.files[i]?=some f:=by rw[s.bW];exact hf
     have hix:s.change.1.idx n=some i:=by unfold Dk.idx at hi ⊢;rw[s.bW];exact hi
     obtain⟨w,hw⟩:∃w:Wr,w=⟨s.change.1.next,k.toNat,⟨b,hb⟩⟩:=⟨_,rfl⟩
     simp only[←hw]
     obtain⟨t,ht⟩:∃t:Dk,t=(s.change.1.po i w).j6 (max s.change.1.most (s.change.1.po i w).used):=⟨_,rfl⟩
     rw[←ht]
     have htf:t.files=s.change.1.files.modify i fun f=>{f with log:=f.log++[w]}:=by rw[ht];rfl
     have h2:=Dk.zi (g:=fun f=>{f with log:=f.log++[w]}) hf2 htf rfl n
     have h3:t.files[i]?=some {f with log:=f.log++[w]}:=by rw[htf];exact bh hf2
     unfold Dk.size
     rw[h2,hix]
     simp only
     rw[Dk.ez h3,Fl.eV,gV,hw]
     show k.toNat<max _ (k.toNat+1)
     omega
    ·rw[if_neg hc] at h;exact absurd h hc
 ·rw[dif_neg hb] at h;cases h
theorem Dk.Gk {s:Dk} {n:ByteArray} {k:Int} (h:(s.read n k).2=0):0≤k∧k.toNat<s.size n:=by
 unfold Dk.read Dk.open at h
 unfold Dk.size
 by_cases hd:s.down=true
 ·rw[if_pos hd] at h;cases h
 rw[if_neg hd] at h
 cases hi:s.idx n with
 |none=>rw[hi] at h;cases h
 |some i=>
   rw[hi] at h
   simp only at h ⊢
   by_cases hk:k<0
   ·rw[if_pos hk] at h;cases h
   rw[if_neg hk] at h
   refine⟨by omega,?_⟩
   rcases Nat.lt_or_ge k.toNat (s.file i).ao.length with q|q
   ·exact q
   ·rw[List.getElem?_eq_none q] at h;cases h
theorem Da {l r:List Fr} (h:l.map Fr.key=r.map Fr.key):∀f∈l,∃f'∈r,f'.key=f.key:=by
 intro f hf
 have:f.key∈r.map Fr.key:=by rw[←h];exact List.mem_map_of_mem hf
 obtain⟨f',h1,h2⟩:=List.mem_map.1 this
 exact⟨f',h1,h2⟩
theorem Pl.Fit.keys {s t:Pl} (h:s.Fit) (hd:s.d.fy t.d) (hk:t.fs.map Fr.key=s.fs.map Fr.key):t.Fit:=h.grow hd (Da hk)
theorem Pl.Fit.met [Tab] {s:Pl} (h:s.Fit) (e:Int):(s.met e).Fit:=by
 have:=s.eI e
 intro f hf
 rw[this.2.1] at hf
 rw[this.1]
 exact h f hf
theorem Pl.Fit.room [Tab] {s:Pl} (h:s.Fit):s.room.1.Fit:=h.grow s.yA s.uf
theorem Pl.Fit.ir [Tab] {s:Pl} (h:s.Fit) (i:Nat):(s.ir i).Fit:=h.keys (.refl _) (cM Fr.key (Fr.bn s.next) (fun _=>rfl) _ _)
theorem Pl.Fit.take [Tab] {s:Pl} {f:Fr} (h:s.Fit) (hf:f.page<s.d.size f.name):(s.take f).Fit:=by
 refine Pl.Fit.ir ?_ s.fs.length
 intro g hg
 rcases List.mem_append.1 (show g∈s.fs++[f] from hg) with q|q
 ·exact h g q
 ·simp at q;subst q;exact hf
theorem Pl.lL [Tab] (s:Pl) (n:ByteArray) (k:Int):(∃e,s.load n k=(s,none,e))∨(∃e,s.load n k=(s.room.1,none,e))∨∃f,s.load n k=(s.room.1,some f,0)∧f.name=n∧(f.page:Int)=k∧(s.room.1.d.read n k).2=0:=by
 unfold Pl.load
 split
 ·exact .inl ⟨_,rfl⟩
 ·split
  ·exact .inl ⟨_,rfl⟩
  ·rename_i hk
   split
   ·exact .inr (.inl ⟨_,rfl⟩)
   ·split
    ·exact .inr (.inl ⟨_,rfl⟩)
    ·rename_i hr
     split
     ·exact .inr (.inl ⟨_,rfl⟩)
     ·exact .inr (.inr ⟨_,rfl,rfl,by show ((k.toNat:Nat):Int)=k;omega,by simpa using hr⟩)
theorem Pl.Fit.bn [Tab] {s:Pl} (h:s.Fit) (n:ByteArray) (k:Int):(s.bn n k).1.Fit:=by
 unfold Pl.bn
 split
 ·exact h
 ·split
  ·exact h.ir _
  ·rcases s.lL n k with ⟨e,he⟩|⟨e,he⟩|⟨f,he,h1,h2,h3⟩
   ·rw[he];exact h.met e
   ·rw[he];exact h.room.met e
   ·rw[he]
    refine h.room.take ?_
    have:=(Dk.Gk h3).2
    rw[h1];omega
theorem Pl.Fit.fresh [Tab] {s:Pl} (h:s.Fit) (n:ByteArray):(s.fresh n).1.Fit:=by
 unfold Pl.fresh
 split
 ·exact h
 ·split
  ·exact h.met _
  ·split
   ·exact h.room.met _
   ·have h2:(s.room.1.bF (s.room.1.d.write n (s.d.len n).1 (cc 0 [])).1).Fit:=h.room.keys (s.room.1.d.pN _ _ _) rfl
    split
    ·exact h2.met _
    ·rename_i hw
     refine h2.take ?_
     exact(Dk.nM (show (s.room.1.d.write n (s.d.len n).1 (cc 0 [])).2=0 by simpa using hw)).2
theorem Pl.Fit.set [Tab] {s:Pl} (h:s.Fit) (c:Int) (k:UInt8) (b:List UInt8):(s.set c k b).1.Fit:=by
 unfold Pl.set
 split
 ·exact h
 ·split
  ·split
   ·exact h
   ·exact h.keys (.refl _) (cM Fr.key (Fr.set k b) (fun _=>rfl) _ _)
  ·exact h
theorem Pl.Fit.aQ [Tab] {s:Pl} (h:s.Fit) (c:Int):(s.aQ c).1.Fit:=by
 unfold Pl.aQ
 split
 ·exact h
 ·split
  ·exact h.keys (.refl _) (cM Fr.key (Fr.aQ c _) (fun _=>rfl) _ _)
  ·exact h
theorem Pl.Fit.put [Tab] {s:Pl} (h:s.Fit) (i:Nat):(s.put i).1.Fit:=h.keys (s.oW i) (s.rk i)
theorem Pl.Fit.aE [Tab] {n:ByteArray}:∀(l:List Nat) {s:Pl},s.Fit→(Pl.aE n l s).1.Fit
 |[],_,h=>h
 |k::l,s,h=>by
   unfold Pl.aE
   split
   ·split
    ·split
     ·exact Pl.Fit.aE l (h.put _)
     ·exact h.put _
    ·exact Pl.Fit.aE l h
   ·exact Pl.Fit.aE l h
theorem Pl.Fit.out [Tab] {r:Pl×Int} (h:r.1.Fit):(Pl.out r).1.Fit:=h.met _
theorem Pl.Fit.flush [Tab] {s:Pl} (h:s.Fit) (n:ByteArray):(s.flush n).1.Fit:=by
 have h1:=Pl.Fit.aE (n:=n) (s.aM n) h
 unfold Pl.flush
 split
 ·exact h
 ·split
  ·exact Pl.Fit.out h
  ·split
   ·exact Pl.Fit.out h1
   ·refine Pl.Fit.out ?_
    exact h1.keys (Dk.zY _ _) rfl
theorem wz {α:Type} {q:α→Bool} {d:α}:∀l:List α,(l.findIdx? q).map (fun i=>l.getD i d)=l.find? q
 |[]=>rfl
 |a::l=>by
   rw[List.findIdx?_cons,List.find?_cons]
   cases h:q a with
   |true=>simp
   |false=>
     simp only[Bool.false_eq_true,if_false,Option.map_map]
     rw[←wz (d:=d) l]
     congr 1
theorem rm {α:Type} {q:α→Bool}:∀(l:List α) (i:Nat) (x:α),l[i]?=some x→q x=false→(l.eraseIdx i).find? q=l.find? q
 |[],i,x,h,_=>by simp at h
 |a::l,0,x,h,hq=>by simp at h;subst h;simp[hq]
 |a::l,i+1,x,h,hq=>by
   rw[List.eraseIdx_cons_succ,List.find?_cons,List.find?_cons,rm l i x (by simpa using h) hq]
theorem Dk.uI (s:Dk) (n:ByteArray):s.size n=match s.files.find? (fun f=>f.name.toList==n.toList) with|some f=>f.ao.length|none=>0:=by
 unfold Dk.size
 rw[←wz (d:=⟨ByteArray.empty,[],[]⟩) s.files]
 show (match s.idx n with|some i=>(s.file i).ao.length|none=>0)=_
 unfold Dk.idx
 cases s.files.findIdx? fun f=>f.name.toList==n.toList<;>rfl
theorem Dk.Bp [Tab] (s:Dk) {n m:ByteArray} (h:m≠n):(s.drop n).size m=s.size m:=by
 unfold Dk.drop
 cases hi:s.idx n with
 |none=>rfl
 |some i=>
   obtain⟨f,hf,hfn⟩:=Dk.dC hi
   rw[Dk.uI,Dk.uI]
   simp only
   rw[rm s.files i f hf (by rw[hfn,beq_eq_false_iff_ne];exact fun e=>h (jj e).symm)]
theorem Dk.wF [Tab] (s:Dk) {n m:ByteArray} (h:m≠n):s.size m≤(s.remove n).1.size m:=by
 unfold Dk.remove
 split
 ·exact Nat.le_refl _
 ·split
  ·exact Nat.le_refl _
  ·unfold Dk.step
   split
   ·rw[Dk.Bp _ h];exact s.iw m
   ·exact s.iw m
theorem Pl.Fit.dt [Tab] {s:Pl} (h:s.Fit) (n:ByteArray):(s.dt n).1.Fit:=by
 unfold Pl.dt
 split
 ·exact h
 ·split
  ·exact Pl.Fit.out h
  ·split
   ·exact h
   ·refine Pl.Fit.out ?_
    intro f hf
    have hf':f∈s.fs.filter fun f=>!(f.name.toList==n.toList):=hf
    rw[List.mem_filter] at hf'
    have hne:f.name≠n:=fun e=>by have:=hf'.2;rw[e] at this;simp at this
    exact Nat.lt_of_lt_of_le (h f hf'.1) (s.d.wF hne)
theorem Pl.Fit.bF [Tab] {s:Pl} (h:s.Fit) {d:Dk} (hd:s.d.fy d):(s.bF d).Fit:=h.keys hd rfl
theorem sG {x:Int} (h0:0≤x) (h1:x<1099511627776):fT (x+1)=x+1:=by unfold fT;exact wrap64 (by omega) (by omega)
theorem Pl.sj [Tab] (s:Pl) (i:Nat) (h0:0≤s.next) (h1:s.next<1099511627776):(s.ir i).next=s.next+1:=sG h0 h1
theorem Pl.lu [Tab] (s:Pl) (f:Fr) (h0:0≤s.next) (h1:s.next<1099511627776):(s.take f).next=s.next+1:=sG h0 h1
theorem Pl.sS [Tab] {s:Pl} {n:ByteArray} {k:Int} (h0:0≤s.next) (h1:s.next<1099511627776):(s.bn n k).1.next≤s.next+1:=by
 unfold Pl.bn
 split
 ·show s.next≤_;omega
 ·split
  ·rw[Pl.sj s _ h0 h1];omega
  ·rcases s.lL n k with ⟨e,he⟩|⟨e,he⟩|⟨f,he,_⟩
   ·rw[he];show (s.met e).next≤_;rw[(s.eI e).2.2.1];omega
   ·rw[he];show (s.room.1.met e).next≤_;rw[(s.room.1.eI e).2.2.1,s.cr.2.1];omega
   ·rw[he];show (s.room.1.take f).next≤_;rw[Pl.lu _ _ (by rw[s.cr.2.1];exact h0) (by rw[s.cr.2.1];exact h1),s.cr.2.1];omega
theorem Pl.rv [Tab] {s:Pl} {n:ByteArray} (h0:0≤s.next) (h1:s.next<1099511627776):(s.fresh n).1.next≤s.next+1:=by
 have hr:=s.cr.2.1
 unfold Pl.fresh
 split
 ·show s.next≤_;omega
 ·split
  ·show (s.met _).next≤_;rw[(s.eI _).2.2.1];omega
  ·split
   ·show (s.room.1.met _).next≤_;rw[(s.room.1.eI _).2.2.1,hr];omega
   ·split
    ·show ((s.room.1.bF _).met _).next≤_
     rw[((s.room.1.bF _).eI _).2.2.1]
     show s.room.1.next≤_;rw[hr];omega
    ·show ((s.room.1.bF _).take _).next≤_
     rw[Pl.lu _ _ (by show 0≤s.room.1.next;rw[hr];exact h0) (by show s.room.1.next<_;rw[hr];exact h1)]
     show s.room.1.next+1≤_;rw[hr];omega
theorem Pl.nz [Tab] (s:Pl) (c:Int) (k:UInt8) (b:List UInt8):(s.set c k b).1.next=s.next:=by
 unfold Pl.set
 split
 ·rfl
 ·split
  ·split<;>rfl
  ·rfl
theorem Pl.qM [Tab] (s:Pl) (c:Int):(s.aQ c).1.next=s.next:=by
 unfold Pl.aQ
 split
 ·rfl
 ·split<;>rfl
theorem Pl.qH [Tab] (s:Pl) (n:ByteArray):(s.dt n).1.next=s.next:=by
 unfold Pl.dt
 split
 ·rfl
 ·split
  ·exact(s.eI _).2.2.1
  ·split
   ·rfl
   ·exact(((s.forget n).bF _).eI _).2.2.1
def Pl.leave (r:Pl×Int) (h:Int):Pl×Int:=if r.2=0 then r.1.aQ h else r
def Pl.more [Tab] (p:Pl) (n:ByteArray) (k:UInt8) (b:List UInt8):Pl×Int:=
 if (p.fresh n).2.2.2≠0 then ((p.fresh n).1,(p.fresh n).2.2.2)
 else Pl.leave (if k=0 then ((p.fresh n).1,0) else (p.fresh n).1.set (p.fresh n).2.1 k b) (p.fresh n).2.1
def Pl.look [Tab] (p:Pl) (n:ByteArray) (g:Int):Pl×UInt8×List UInt8×Int:=
 if (p.bn n g).2.2≠0 then ((p.bn n g).1,0,[],(p.bn n g).2.2)
 else if ((p.bn n g).1.get (p.bn n g).2.1).2.2≠0 then ((p.bn n g).1,(p.bn n g).1.get (p.bn n g).2.1)
 else (((p.bn n g).1.aQ (p.bn n g).2.1).1,((p.bn n g).1.get (p.bn n g).2.1).1,((p.bn n g).1.get (p.bn n g).2.1).2.1,((p.bn n g).1.aQ (p.bn n g).2.1).2)
theorem zK [Tab] {p:List UInt8} {k:UInt8} {b:List UInt8} (h:fW p=some (k,b)):b.length≤504:=by
 unfold fW at h
 split at h
 ·rename_i hc
  cases h
  have hl:=hc.1
  rw[List.length_take]
  omega
 ·cases h
theorem Pl.WF.flush [Tab] {p:Pl} (h:p.WF) (n:ByteArray):(p.flush n).1.WF:=by
 unfold Pl.flush
 split
 ·exact h
 split
 ·exact h.met _
 split
 ·exact(Pl.WF.aE _ h).met _
 ·exact((Pl.WF.aE _ h).bF _).met _
section
variable {p:Pl} {n:ByteArray} {N q:Nat} {T:Nat→UInt8×List UInt8}
end
theorem jb {a b:Sl} {la lb:List Int} {H:aa} {K:Bool→aa→Prop} (ha:Ints .u64 H a la) (hb:Ints .u64 H b lb) (hlen:la.length<1099511627776) (hK:K (decide (la=lb)) H):Cp.sp a b H K:=by
 refine Cp.of ?_
 unfold Cp.vc
 have la1:=ha.len
 have lb1:=hb.len
 refine aj (fun h=>?_) (fun h=>?_)
 ·have h1:la≠lb:=by intro e;subst e;simp[la1,lb1] at h
  simpa[h1] using hK
 ·have h':(a.n:Int)=(b.n:Int):=by simpa using h
  have hl:la.length=lb.length:=by omega
  refine⟨Nat,fun k i H'=>i=(k:Int)∧k≤la.length∧H'=H∧la.take k=lb.take k,fun k=>la.length - k,⟨0,rfl,Nat.zero_le _,rfl,by simp⟩,?_⟩
  rintro k i H' ⟨rfl,hk,rfl,ht⟩
  refine aj (fun h1=>?_) (fun h1=>?_)
  ·have h1':(k:Int)<(a.n:Int):=by simpa using h1
   have hlt:k<la.length:=by omega
   refine ha.ld (by omega) (by omega) fun ad1 e1=>?_
   refine hb.ld (by omega) (by omega) fun ad2 e2=>?_
   simp only[Int.toNat_natCast]
   refine aj (fun h2=>?_) (fun h2=>?_)
   ·have h3:la≠lb:=by intro e;subst e;simp at h2
    simpa[h3] using hK
   ·refine⟨k+1,⟨by rw[wrap64 (by omega) (by omega)];omega,by omega,by trivial,?_⟩,by omega⟩
    rw[List.take_succ_eq_append_getElem hlt,List.take_succ_eq_append_getElem (by omega:k<lb.length),ht]
    have:la[k]'hlt=lb[k]'(by omega):=by simpa[List.getD,List.getElem?_eq_getElem hlt,List.getElem?_eq_getElem (by omega:k<lb.length)] using h2
    rw[this]
  ·have h1':¬((k:Int)<(a.n:Int)):=by simpa using h1
   have hge:k=la.length:=by omega
   subst hge
   have h2:la=lb:=by rw[List.take_of_length_le (Nat.le_refl _),List.take_of_length_le (by omega)] at ht;exact ht
   simpa[h2] using hK
theorem sM:El Tryz.prog gw fx 8 (.int .u64 0):=AY (zb:=se .u64) oO rfl (by kernel_rfl)
theorem Km:El Tryz.prog jP lF 1 (.int .u8 0):=AY (zb:=se .u8) oO rfl (by kernel_rfl)
theorem xI:El Tryz.prog fG gw 24 (.slice none 0 0):=AY (zb:=Dj) EY rfl (by kernel_rfl)
def aF:List Int→List Int→Int
 |[],[]=>0
 |[],_::_=>-1
 |_::_,[]=>1
 |x::a,y::b=>if x<y then -1 else if y<x then 1 else aF a b
theorem cG:∀{a b:List Int},aF a b=0↔a=b
 |[],[]=>by simp[aF]
 |[],_::_=>by simp[aF]
 |_::_,[]=>by simp[aF]
 |x::a,y::b=>by
   unfold aF
   have ih:=@cG a b
   split
   ·simp;intro h;omega
   ·split
    ·simp;intro h;omega
    ·rw[ih];simp;intro;omega
theorem cI:∀(a b:List Int),aF b a=- aF a b
 |[],[]=>by simp[aF]
 |[],_::_=>by simp[aF]
 |_::_,[]=>by simp[aF]
 |x::a,y::b=>by
   have ih:=cI a b
   simp only[aF]
   split
   ·rw[if_neg (by omega)];try rfl
   ·split
    ·rfl
    ·exact ih
theorem drop_cons {l:List Int} {k:Nat} (h:k<l.length):l.drop k=l.getD k 0::l.drop (k+1):=by
 rw[List.drop_eq_getElem_cons h];simp[List.getD,List.getElem?_eq_getElem h]
theorem tG {x y:Int} {H:aa} {K:Int→aa→Prop} (hK:K (if x<y then -1 else if y<x then 1 else 0) H):Fs.sp x y H K:=by
 have hn:∀{z:Int} {H:aa} {K:Bool→aa→Prop},K false H→GK.sp z H K:=by
  intro z H K h
  refine GK.of ?_
  unfold GK.vc
  simpa using h
 refine Fs.of ?_
 unfold Fs.vc
 refine hn (hn ?_)
 simp only[br]
 refine aj (fun h=>?_) (fun h=>?_)
 ·rw[if_pos (by simpa using h)] at hK;exact hK
 ·rw[if_neg (by simpa using h)] at hK
  refine aj (fun h=>?_) (fun h=>?_)
  ·rw[if_pos (by simpa using h)] at hK;exact hK
  ·rw[if_neg (by simpa using h)] at hK;exact hK
theorem iE {a b:Sl} {la lb:List Int} {H:aa} {K:Int→aa→Prop} (ha:Ints .u64 H a la) (hb:Ints .u64 H b lb) (hlen:la.length<1099511627776) (hK:K (aF la lb) H):ve.sp a b H K:=by
 refine ve.of ?_
 unfold ve.vc
 refine I7.of ?_
 unfold I7.vc
 have la1:=ha.len
 have lb1:=hb.len
 refine aB la.length (fun k i H'=>i=(k:Int)∧k≤lb.length∧H'=H∧aF la lb=aF (la.drop k) (lb.drop k)) ⟨rfl,Nat.zero_le _,rfl,by simp⟩ ?_
 rintro k i H' next hk ⟨rfl,hkb,rfl,hc⟩ hnext
 refine aj (fun h=>?_) (fun h=>?_)
 ·have h1:k<la.length:=by simp at h;omega
  rw[drop_cons h1] at hc
  refine ha.ld (by omega) (by omega) fun ad1 e1=>?_
  simp only[Int.toNat_natCast]
  refine aj (fun h2=>?_) (fun h2=>?_)
  ·have h2':lb.length≤k:=by simp at h2;omega
   rw[List.drop_of_length_le h2',aF] at hc
   rw[←hc];exact hK
  ·have h2':k<lb.length:=by simp at h2;omega
   rw[drop_cons h2',aF] at hc
   refine hb.ld (by omega) (by omega) fun ad2 e2=>?_
   simp only[Int.toNat_natCast]
   refine tG ?_
   refine aj (fun h3=>?_) (fun h3=>?_)
   ·have e:aF la lb=(if la.getD k 0<lb.getD k 0 then -1 else if lb.getD k 0<la.getD k 0 then 1 else 0):=by
     rw[hc]
     by_cases q1:la.getD k 0<lb.getD k 0
     ·rw[if_pos q1,if_pos q1]
     ·by_cases q2:lb.getD k 0<la.getD k 0
      ·rw[if_neg q1,if_pos q2,if_neg q1,if_pos q2]
      ·rw[if_neg q1,if_neg q2] at h3;simp at h3
    rw[←e];exact hK
   ·have h3':¬la.getD k 0<lb.getD k 0∧¬lb.getD k 0<la.getD k 0:=by
     constructor
     ·intro q;rw[if_pos q] at h3;simp at h3
     ·intro q;rw[if_neg (by omega),if_pos q] at h3;simp at h3
    rw[if_neg h3'.1,if_neg h3'.2] at hc
    exact hnext h1 _ _ ⟨by rw[aP k (by omega)],h2',rfl,hc⟩
 ·have h1:la.length≤k:=by simp at h;omega
  rw[List.drop_of_length_le h1] at hc
  refine aj (fun h2=>?_) (fun h2=>?_)
  ·have h2':k<lb.length:=by simp at h2;omega
   rw[drop_cons h2',aF] at hc
   rw[←hc];exact hK
  ·have h2':lb.length≤k:=by simp at h2;omega
   rw[List.drop_of_length_le h2',aF] at hc
   rw[←hc];exact hK
theorem Ints.front {k:IntKind} {H:aa} {s:Sl} {l:List Int} (h:Ints k H s l) {n:Nat} (hn:n≤l.length) (c:Nat):Ints k H ⟨s.a,n,c⟩ (l.take n):=
 ⟨by simp;omega,by rw[List.map_take];exact h.reads.take n⟩
theorem qV {a b:Sl} {la lb:List Int} {H:aa} {K:Bool→aa→Prop} (ha:Ints .u64 H a la) (hb:Ints .u64 H b lb) (hlen:la.length<1099511627776) (hK:K (decide (la=lb)) H):G6.sp a b H K:=by
 refine G6.of ?_
 have:=jb ha hb hlen hK
 unfold G6.vc
 have la1:=ha.len
 have lb1:=hb.len
 refine aj (fun h=>?_) (fun h=>?_)
 ·have h1:la≠lb:=by intro e;subst e;simp[la1,lb1] at h
  simpa[h1] using hK
 ·have h':(a.n:Int)=(b.n:Int):=by simpa using h
  have hl:la.length=lb.length:=by omega
  refine aB la.length (fun k i H'=>i=(k:Int)∧H'=H∧la.take k=lb.take k) ⟨rfl,rfl,by simp⟩ ?_
  rintro k i H' next hk ⟨rfl,rfl,ht⟩ hnext
  refine aj (fun h1=>?_) (fun h1=>?_)
  ·have hlt:k<la.length:=by simp at h1;omega
   refine ha.ld (by omega) (by omega) fun ad1 e1=>?_
   refine hb.ld (by omega) (by omega) fun ad2 e2=>?_
   simp only[Int.toNat_natCast]
   refine aj (fun h2=>?_) (fun h2=>?_)
   ·have h3:la≠lb:=by intro e;subst e;simp at h2
    simpa[h3] using hK
   ·refine hnext hlt _ _ ⟨by rw[aP k (by omega)],rfl,?_⟩
    rw[List.take_succ_eq_append_getElem hlt,List.take_succ_eq_append_getElem (by omega:k<lb.length),ht]
    have:la[k]'hlt=lb[k]'(by omega):=by simpa[List.getD,List.getElem?_eq_getElem hlt,List.getElem?_eq_getElem (by omega:k<lb.length)] using h2
    rw[this]
  ·have hge:k=la.length:=by simp at h1;omega
   subst hge
   have h2:la=lb:=by rw[List.take_of_length_le (Nat.le_refl _),List.take_of_length_le (by omega)] at ht;exact ht
   simpa[h2] using hK
def bJ (w:Int):Int:=if w<0∨w>16 then 0 else if w=0 then 1 else 8*w
theorem sW {w:Int} {H:aa} {K:Int→aa→Prop} (hK:K (bJ w) H):Gf.sp w H K:=by
 refine Gf.of ?_
 unfold Gf.vc
 unfold bJ at hK
 refine aj (fun h=>?_) (fun h=>?_)
 ·have h':w<0:=by simpa using h
  rw[if_pos (.inl h')] at hK
  simpa[h',br] using hK
 ·have h':¬w<0:=by simpa using h
  refine aj (fun h2=>?_) (fun h2=>?_)
  ·rw[if_pos (.inr (by simpa using h2))] at hK;exact hK
  ·have h2':¬w>16:=by simpa using h2
   rw[if_neg (by omega)] at hK
   refine aj (fun h3=>?_) (fun h3=>?_)
   ·rw[if_pos (by simpa using h3)] at hK;exact hK
   ·rw[if_neg (by simpa using h3)] at hK
    rw[wrap64 (by omega) (by omega)];exact hK
def aU (w:Int):Int:=if bJ w=0 then 0 else Int.tdiv 504 (bJ w)
theorem gS (w:Int):bJ w=0∨(0<bJ w∧bJ w≤128):=by
 unfold bJ;split
 ·simp
 ·split
  ·simp
  ·right;omega
theorem xL (w:Int):IntKind.i64.wrap (Int.tdiv 504 (bJ w))=Int.tdiv 504 (bJ w):=by
 have h0:=Int.tdiv_nonneg (a:=504) (b:=bJ w) (by omega) (by rcases gS w with h|h<;>omega)
 have h1:Int.tdiv 504 (bJ w)≤504:=by
  rcases gS w with h|h
  ·rw[h];simp
  ·exact Int.tdiv_le_self _ (by omega)
 exact wrap64 (by omega) (by omega)
theorem kj {w:Int} {H:aa} {K:Int→aa→Prop} (hK:K (aU w) H):CZ.sp w H K:=by
 refine CZ.of ?_
 unfold CZ.vc
 refine sW ?_
 unfold aU at hK
 have hc:=gS w
 refine aj (fun h=>?_) (fun h=>?_)
 ·have h':bJ w>0:=by simpa using h
  rw[if_neg (by omega)] at hK
  refine⟨by omega,?_⟩
  rw[xL];exact hK
 ·have h':¬bJ w>0:=by simpa using h
  rw[if_pos (by omega)] at hK;exact hK
def iM (l cols:List Int):Bool:=cols.all fun c=>decide (0≤c)&&decide (c<(l.length:Int))
def bV (l cols:List Int):List Int:=if iM l cols then cols.map fun c=>l.getD c.toNat 0 else []
def sd (l cols:List Int):Int:=if iM l cols then 0 else 2
theorem CF {l cols:List Int} {k:Nat} (hk:k<cols.length) (hb:¬(0≤cols.getD k 0∧cols.getD k 0<(l.length:Int))):iM l cols=false:=by
 unfold iM
 rw[List.all_eq_false]
 refine⟨cols[k],List.getElem_mem _,?_⟩
 simp[List.getD,List.getElem?_eq_getElem hk] at hb
 simpa using hb
theorem xY {l cols:List Int} {k:Nat} (hk:k<cols.length) (h:iM l (cols.take k)=true) (h1:0≤cols.getD k 0) (h2:cols.getD k 0<(l.length:Int)):iM l (cols.take (k+1))=true:=by
 unfold iM at h ⊢
 rw[List.take_succ_eq_append_getElem hk,List.all_append,h]
 simp[List.getD,List.getElem?_eq_getElem hk] at h1 h2
 simp[h1,h2]
theorem tS {cols:List Int} {k:Nat} (f:Int→Value) (hk:k<cols.length):(cols.take (k+1)).map f=(cols.take k).map f++[f (cols.getD k 0)]:=by
 rw[List.take_succ_eq_append_getElem hk,List.map_append]
 simp only[List.map_cons,List.map_nil,List.getD,List.getElem?_eq_getElem hk,Option.getD_some]
theorem th {l cols:Sl} {ll lc:List Int} {H:aa} {K:(Sl×Int)→aa→Prop} (hl:Ints .u64 H l ll) (hc:Ints .i64 H cols lc) (hlen:lc.length≤1000000)
  (hK:∀s H',au H' H.size fx 1 s ((bV ll lc).map (Value.int .u64))→Ext H H'→K (s,sd ll lc) H'):Fk.sp l cols H K:=by
 refine Fk.of ?_
 unfold Fk.vc
 have ln:=hl.len
 have cn:=hc.len
 refine sM.make (base:=H.size) (by omega) (by omega) (by omega) (by omega) (Nat.le_refl _) ?_
 intro out H1 n1 o1 e1 b1 _
 refine aB lc.length (fun k z H'=>z.2=(k:Int)∧z.1.n=k∧iM ll (lc.take k)=true∧au H' H.size fx 1 z.1 ((lc.take k).map fun c=>Value.int .u64 (ll.getD c.toNat 0))∧Ext H H') ⟨rfl,by simpa using n1,by simp[iM],by simpa using o1,e1⟩ ?_
 rintro k ⟨s,i⟩ H2 next hk ⟨hi,hn,hok,o2,e2⟩ hnext
 simp only at hi hn o2 ⊢
 subst hi
 refine aj (fun h=>?_) (fun h=>?_)
 ·have hlt:k<lc.length:=by simp at h;omega
  refine(hc.ext e2).ld (by omega) (by omega) fun ad1 q1=>?_
  simp only[Int.toNat_natCast]
  refine aj (fun h2=>?_) (fun h2=>?_)
  ·have h2':¬(0≤lc.getD k 0∧lc.getD k 0<(ll.length:Int)):=by simp at h2 ⊢;omega
   have hf:=CF hlt h2'
   have:=hK (Sl.mk none 0 0) H2 (by unfold bV;rw[hf];exact au.nil _ _ _ _) e2
   unfold sd at this
   rw[hf] at this
   exact this
  ·have h2':0≤lc.getD k 0∧lc.getD k 0<(ll.length:Int):=by simp at h2 ⊢;omega
   refine(hl.ext e2).ld h2'.1 h2'.2 fun ad2 q2=>?_
   refine sM.push (base:=H.size) o2 rfl (by omega) (by omega) e2.size ?_
   intro s' H3 n3 o3 m3 b3 _
   refine hnext hlt _ _ ⟨by rw[aP k (by omega)],by simp only;omega,xY hlt hok h2'.1 h2'.2,?_,(e2.mod (F:=ai s).trans m3).ext (fun b hb=>(o2.block b hb).1)⟩
   simp only
   rw[tS (fun c=>Value.int .u64 (ll.getD c.toNat 0)) hlt];exact o3
 ·have hge:k=lc.length:=by simp at h;omega
  subst hge
  rw[List.take_of_length_le (Nat.le_refl _)] at hok o2
  have:=hK s H2 (by unfold bV;rw[hok,if_pos rfl,List.map_map];exact o2) e2
  unfold sd at this
  rw[hok] at this
  exact this
structure Rows (H:aa) (s:Sl) (ls:List (List Int)):Prop where
 len:s.n=ls.length
 at':∀i (h:i<ls.length),∃ad r,s.a=some ad∧cQ H (ad.add i)=some (Sl.v r)∧Ints .u64 H r ls[i]
theorem Rows.ld {H:aa} {s:Sl} {ls:List (List Int)} (h:Rows H s ls) {i:Nat} (hi:i<ls.length) {K:Addr→Sl→Prop} (hK:∀ad r,s.a=some ad→Ints .u64 H r (ls[i]'hi)→K ad r):
  ae s.a fun a=>(0≤(i:Int)∧(i:Int)<(s.n:Int))∧ld an H (a.add ((i:Int).toNat*1)) fun x=>K a x:=by
 obtain⟨ad,r,e,hc,hr⟩:=h.at' i hi
 refine bT ad e ⟨⟨by omega,by rw[h.len];omega⟩,r,?_,hK ad r e hr⟩
 simp only[Int.toNat_natCast,Nat.mul_one]
 exact hc
theorem wH {a b:Sl} {la lb:List (List Int)} {H:aa} {K:Bool→aa→Prop} (ha:Rows H a la) (hb:Rows H b lb) (hlen:la.length<1099511627776) (hl:∀l∈la,l.length<1099511627776) (hK:K (decide (la=lb)) H):IA.sp a b H K:=by
 refine IA.of ?_
 unfold IA.vc
 have la1:=ha.len
 have lb1:=hb.len
 refine aj (fun h=>?_) (fun h=>?_)
 ·have h1:la≠lb:=by intro e;subst e;simp[la1,lb1] at h
  simpa[h1] using hK
 ·have h':(a.n:Int)=(b.n:Int):=by simpa using h
  have hll:la.length=lb.length:=by omega
  refine aB la.length (fun k i H'=>i=(k:Int)∧H'=H∧la.take k=lb.take k) ⟨rfl,rfl,by simp⟩ ?_
  rintro k i H' next hk ⟨rfl,rfl,ht⟩ hnext
  refine aj (fun h1=>?_) (fun h1=>?_)
  ·have hlt:k<la.length:=by simp at h1;omega
   refine ha.ld hlt fun ad1 r1 e1 hr1=>?_
   refine hb.ld (by omega) fun ad2 r2 e2 hr2=>?_
   refine jb hr1 hr2 (hl _ (List.getElem_mem _)) ?_
   refine aj (fun h2=>?_) (fun h2=>?_)
   ·have h3:la≠lb:=by intro e;subst e;simp at h2
    simpa[h3] using hK
   ·refine hnext hlt _ _ ⟨by rw[aP k (by omega)],rfl,?_⟩
    have h2':la[k]'hlt=lb[k]'(by omega):=by simpa using h2
    rw[List.take_succ_eq_append_getElem hlt,List.take_succ_eq_append_getElem (by omega:k<lb.length),ht,h2']
  ·have hge:k=la.length:=by simp at h1;omega
   subst hge
   have h2:la=lb:=by rw[List.take_of_length_le (Nat.le_refl _),List.take_of_length_le (by omega)] at ht;exact ht
   simpa[h2] using hK
def iq (n:Int) (k:Nat):Int:=IntKind.u8.wrap (jX .u64 n (56 - 8*(k:Int)))
def dy (n:Int):List Int:=(List.range 8).map (iq n)
def dh (l:List Int):List Int:=if l=[] then [0] else l.flatMap dy
theorem bX (n:Int):(dy n).length=8:=by simp[dy]
theorem qc:∀(l:List Int),(l.flatMap dy).length=8*l.length
 |[]=>rfl
 |x::r=>by rw[List.flatMap_cons,List.length_append,bX,qc r];simp;omega
theorem qj (n:Int) {k:Nat} (hk:k<8):(dy n).take (k+1)=(dy n).take k++[iq n k]:=by
 rw[List.take_succ_eq_append_getElem (by rw[bX];exact hk)]
 simp[dy]
theorem sH {l:List Int} {k:Nat} (hk:k<l.length):(l.take (k+1)).flatMap dy=(l.take k).flatMap dy++dy (l.getD k 0):=by
 rw[List.take_succ_eq_append_getElem hk,List.flatMap_append]
 simp only[List.flatMap_cons,List.flatMap_nil,List.append_nil,List.getD,List.getElem?_eq_getElem hk,Option.getD_some]
theorem AU:zc Tryz.prog Du=Array.replicate 8 (.int .u8 0):=by kernel_rfl
theorem uN:lI Tryz.prog Du 8=true:=by kernel_rfl
theorem Ca {n:Int} {H:aa} {K:Array Value→aa→Prop} (hK:∀H',Ext H H'→K ((dy n).map (Value.int .u8)).toArray H'):Ia.sp (zc Tryz.prog Du) n H K:=by
 refine Ia.of ?_
 unfold Ia.vc
 rw[AU]
 refine qL fun p H1 hp s1 r1 e1=>?_
 refine qL fun q H2 hq s2 r2 e2=>?_
 have hpq:p.block≠q.block:=by omega
 refine aB 8 (fun k z H'=>z=(k:Int)∧(∃cs:List Value,cs.length=8∧cs.take k=((dy n).take k).map (Value.int .u8)∧jF H' p cs.toArray)∧jF H' q (Array.replicate 8 (.int .u8 0))∧Ext H H') ⟨rfl,⟨List.replicate 8 (.int .u8 0),by simp,by simp,r1.mod e2 id⟩,r2,e1.trans e2⟩ ?_
 rintro k z H3 next hk ⟨rfl,⟨cs,hl,ht,r3⟩,q3,e3⟩ hnext
 refine aj (fun h=>?_) (fun h=>?_)
 ·have hlt:k<8:=by simp at h;omega
  rw[wrap64 (x:=8*(k:Int)) (by omega) (by omega),wrap64 (by omega) (by omega)]
  refine⟨by omega,by omega,?_⟩
  simp only[Int.toNat_natCast,Nat.mul_one]
  refine r3.st (by simp;omega) rfl fun H4 r4 m4 _=>?_
  refine hnext hlt _ _ ⟨by rw[aP k (by omega)],⟨cs.set k (.int .u8 (iq n k)),by simpa using hl,?_,by rw[←List.setIfInBounds_toArray];exact r4⟩,q3.mod m4 (fun hh=>hpq hh.symm),?_⟩
  ·rw[qj n hlt,List.map_append,←ht,List.take_succ_eq_append_getElem (by simpa[hl] using hlt)]
   simp[List.take_set]
   rw[List.set_eq_of_length_le (by simp;omega)]
  ·exact⟨Nat.le_trans e3.size m4.size,fun b hb _=>(m4.same b (Nat.lt_of_lt_of_le hb e3.size) (by omega)).trans (e3.same b hb id)⟩
 ·have hge:k=8:=by simp at h;omega
  subst hge
  rw[List.take_of_length_le (by omega),List.take_of_length_le (by rw[bX];omega)] at ht
  subst ht
  refine r3.db (by simp[bX]) ?_
  refine q3.kM (by simpa[bX] using uN) (by simp[bX]) (by simp[Value.oneCell']) fun H5 r5 m5 _=>?_
  refine r5.db (by simp[bX]) ?_
  exact hK _ ⟨Nat.le_trans e3.size m5.size,fun b hb _=>(m5.same b (Nat.lt_of_lt_of_le hb e3.size) (by omega)).trans (e3.same b hb id)⟩
theorem Jh {H:aa}:au (H.push (.cells #[.int .u8 0] lF)) H.size lF 1 ⟨some ⟨H.size,0,none⟩,1,1⟩ ([(0:Int)].map (Value.int .u8)):=
 au.fresh (Nat.le_refl _) (Nat.le_refl _) (by unfold maxLen;omega) rfl rfl rfl
theorem uO {l:Sl} {ll:List Int} {H:aa} {K:Sl→aa→Prop} (hl:Ints .u64 H l ll) (hlen:ll.length≤1000000)
  (hK:∀s H',au H' H.size lF 1 s ((dh ll).map (Value.int .u8))→Ext H H'→K s H'):yQ.sp l H K:=by
 refine yQ.of ?_
 unfold yQ.vc
 have ln:=hl.len
 refine aj (fun h=>?_) (fun h=>?_)
 ·have h':ll=[]:=List.eq_nil_of_length_eq_zero (by simp at h;omega)
  refine hK _ _ ?_ (Mod.push _ _ _)
  unfold dh
  rw[if_pos h']
  exact Jh
 ·have h':ll≠[]:=by intro e;subst e;simp at ln;simp[ln] at h
  unfold dh at hK
  rw[if_neg h'] at hK
  rw[wrap64 (by omega) (by omega)]
  refine Km.make (base:=H.size) (by omega) (by omega) (by omega) (by omega) (Nat.le_refl _) ?_
  intro out H1 n1 o1 e1 b1 _
  refine aB ll.length (fun k z H'=>z.2=(k:Int)∧z.1.n=8*k∧au H' H.size lF 1 z.1 (((ll.take k).flatMap dy).map (Value.int .u8))∧Ext H H') ⟨rfl,by simpa using n1,by simpa using o1,e1⟩ ?_
  rintro k ⟨s,i⟩ H2 next hk ⟨hi,hn,o2,e2⟩ hnext
  simp only at hi hn o2 ⊢
  subst hi
  refine aj (fun h=>?_) (fun h=>?_)
  ·have hlt:k<ll.length:=by simp at h;omega
   refine(hl.ext e2).ld (by omega) (by omega) fun ad1 q1=>?_
   simp only[Int.toNat_natCast]
   refine Ca fun H3 e3=>?_
   rw[AU]
   refine qL fun p H4 hp s4 r4 e4=>?_
   refine r4.kM (by simpa[bX] using uN) (by simp[bX]) (by simp[Value.oneCell']) fun H5 r5 m5 s5=>?_
   have e34:Ext H2 H4:=e3.trans e4
   have e25:Ext H2 H5:=(e34.mod (F:=fun b=>b=p.block).trans m5).ext (fun b hb=>by have:=e3.size;omega)
   rw[iW]
   refine Km.append (base:=H.size) (s:=s) (x:=⟨some p,8 - 0,8 - 0⟩) (ws:=(dy (ll.getD k 0)).map (Value.int .u8)) (o2.ext e25) (by simp[bX]) (by simpa using r5.reads) (qG _ _) (by simp only;omega) (by simp only;omega) (e2.trans e25).size ?_
   intro s' H6 n6 o6 m6 b6 _
   refine hnext hlt _ _ ⟨by rw[aP k (by omega)],by simp only at n6 ⊢;omega,?_,((Ext.mod (F:=ai s) (e2.trans e25)).trans m6).ext (fun b hb=>(o2.block b hb).1)⟩
   simp only
   rw[sH hlt,List.map_append];exact o6
  ·have hge:k=ll.length:=by simp at h;omega
   subst hge
   rw[List.take_of_length_le (Nat.le_refl _)] at o2
   exact hK s H2 o2 e2
def nH (w b:Int):Int:=IntKind.u64.wrap (IntKind.u64.wrap (w*256)+IntKind.u64.wrap b)
def dm (bs:List Int):Int:=bs.foldl nH 0
def rowOf (c:List Int) (w:Nat):List Int:=(List.range w).map fun j=>dm ((c.drop (8*j)).take 8)
def fu (b:List Int) (w:Int):Bool:=decide (bJ w≠0)&&decide (Int.tmod (b.length:Int) (bJ w)=0)&&(decide (w≠0)||b.all fun x=>decide (x=0))
def cj (b:List Int) (n k:Nat):List Int:=(b.drop (k*n)).take n
def rowsOf (b:List Int) (w:Int) (m:Nat):List (List Int):=(List.range m).map fun k=>rowOf (cj b (bJ w).toNat k) w.toNat
def lA (b:List Int) (w:Int):List (List Int):=if fu b w then rowsOf b w (b.length/(bJ w).toNat) else []
def tE (b:List Int) (w:Int):Int:=if fu b w then 0 else 60
theorem rQ (x:Int):IntKind.u64.wrap x=x%18446744073709551616:=by
 rw[IntKind.wrap_u64]
theorem xu (w b:Int):0≤nH w b∧nH w b<18446744073709551616:=by
 unfold nH;rw[rQ];omega
theorem j7 (bs:List Int):0≤dm bs∧dm bs<18446744073709551616:=by
 unfold dm
 rcases List.eq_nil_or_concat bs with h|⟨l,x,h⟩
 ·subst h;simp
 ·subst h;rw[List.concat_eq_append,List.foldl_append];exact xu _ _
theorem C8 {x b:Int} (hx:0≤x) (hx2:x<18446744073709551616) (hb:0≤b) (hb2:b<256):ym .u64 (ku .u64 x 8) (IntKind.u64.wrap b)=nH x b:=by
 unfold nH ym ku
 have e0:(2:Int)^(min (8:Int).toNat IntKind.u64.bits)=256:=by decide
 rw[e0]
 simp only[rQ]
 obtain⟨n,rfl⟩:=Int.eq_ofNat_of_zero_le hx
 obtain⟨m,rfl⟩:=Int.eq_ofNat_of_zero_le hb
 have hm:m<256:=by omega
 obtain⟨r,hr⟩:∃r,r=n%72057594037927936:=⟨_,rfl⟩
 have hr2:r<72057594037927936:=by omega
 have e1:((n:Int)*256)%18446744073709551616=((256*r:Nat):Int):=by omega
 have e2:(m:Int)%18446744073709551616=((m:Nat):Int):=by omega
 have e3:(BitVec.ofInt IntKind.u64.bits ((256*r:Nat):Int)|||BitVec.ofInt IntKind.u64.bits ((m:Nat):Int)).toNat=256*r+m:=by
  have hb64:IntKind.u64.bits=64:=rfl
  have hor:=Nat.two_pow_add_eq_or_of_lt (i:=8) (b:=m) hm r
  rw[BitVec.ofInt_natCast,BitVec.ofInt_natCast,BitVec.toNat_or,BitVec.toNat_ofNat,BitVec.toNat_ofNat,hb64,Nat.mod_eq_of_lt (by omega),Nat.mod_eq_of_lt (by omega)]
  exact hor.symm
 rw[e1,e2,e3]
 rw[Int.natCast_add]
theorem mM (c:List Int) (w:Nat):(rowOf c w).length=w:=by simp[rowOf]
theorem yF {c:List Int} {w i:Nat} (hi:i<c.length) (hw:c.length=8*w):
  (rowOf (c.take i) w).set (i/8) (nH ((rowOf (c.take i) w).getD (i/8) 0) (c.getD i 0))=rowOf (c.take (i+1)) w:=by
 have hq:i/8<w:=by omega
 apply List.ext_getElem
 ·simp[rowOf]
 ·intro j h1 h2
  have hj:j<w:=by simpa[rowOf] using h2
  have e0:∀t,((c.take t).drop (8*j)).take 8=(c.drop (8*j)).take (min 8 (t - 8*j)):=by
   intro t;rw[List.drop_take,List.take_take]
  rw[List.getElem_set]
  by_cases hji:i/8=j
  ·subst hji
   rw[if_pos rfl]
   simp only[rowOf,List.getD,List.getElem?_map,List.getElem?_range hq,Option.map_some,Option.getD_some,List.getElem_map,List.getElem_range]
   simp only[e0]
   have e1:min 8 (i+1 - 8*(i/8))=min 8 (i - 8*(i/8))+1:=by omega
   have e2:min 8 (i - 8*(i/8))=i - 8*(i/8):=by omega
   have hlt:i - 8*(i/8)<(c.drop (8*(i/8))).length:=by simp;omega
   rw[e1,e2,List.take_succ_eq_append_getElem hlt]
   unfold dm
   rw[List.foldl_append,List.foldl_cons,List.foldl_nil]
   congr 1
   rw[List.getElem?_eq_getElem hi,Option.getD_some,List.getElem_drop]
   congr 1
   omega
  ·rw[if_neg hji]
   simp only[rowOf,List.getElem_map,List.getElem_range,e0]
   congr 2
   omega
theorem BA (w:Nat):rowOf [] w=List.replicate w 0:=by
 apply List.ext_getElem
 ·simp[rowOf]
 ·intro j h1 h2;simp[rowOf,dm]
structure ax (H:aa) (base:Nat) (s:Sl) (rs:List Sl) (ls:List (List Int)):Prop where
 out:au H base gw 1 s (rs.map Sl.v)
 len:rs.length=ls.length
 row:∀(i:Nat) (r:Sl) (l:List Int),rs[i]?=some r→ls[i]?=some l→au H base fx 1 r (l.map (Value.int .u64))
 apart:∀(i j:Nat) (r r':Sl),i≠j→rs[i]?=some r→rs[j]?=some r'→∀b,ai r b→¬ai r' b
theorem ax.nil (H:aa) (base:Nat):ax H base (Sl.mk none 0 0) [] []:=⟨au.nil _ _ _ _,rfl,by simp,by simp⟩
theorem ax.n {H:aa} {base:Nat} {s:Sl} {rs:List Sl} {ls:List (List Int)} (h:ax H base s rs ls):s.n=ls.length:=by
 have h1:=h.out.1;have h2:=h.len;simp at h1;omega
theorem ax.mod {F:Nat→Prop} {H H':aa} {base:Nat} {s:Sl} {rs:List Sl} {ls:List (List Int)} (h:ax H base s rs ls) (hm:Mod F H H') (hs:∀b,ai s b→¬F b) (hr:∀r∈rs,∀b,ai r b→¬F b):ax H' base s rs ls:=
 ⟨h.out.mod hm hs,h.len,fun i r l h1 h2=>(h.row i r l h1 h2).mod hm (hr r (List.mem_of_getElem? h1)),h.apart⟩
theorem ax.ext {H H':aa} {base:Nat} {s:Sl} {rs:List Sl} {ls:List (List Int)} (h:ax H base s rs ls) (hm:Ext H H'):ax H' base s rs ls:=h.mod hm (fun _ _=>id) (fun _ _ _ _=>id)
theorem ax.rowAt {H:aa} {base:Nat} {s:Sl} {rs:List Sl} {ls:List (List Int)} (h:ax H base s rs ls) {r:Sl} (hr:r∈rs):∃l:List Int,au H base fx 1 r (l.map (Value.int .u64)):=by
 obtain⟨i,hi⟩:=List.mem_iff_getElem?.1 hr
 have hlt:i<ls.length:=by rw[←h.len];exact(List.getElem?_eq_some_iff.1 hi).1
 exact⟨_,h.row i r _ hi (List.getElem?_eq_getElem hlt)⟩
theorem ax.block {H:aa} {base:Nat} {s:Sl} {rs:List Sl} {ls:List (List Int)} (h:ax H base s rs ls):(∀b,ai s b→base≤b∧b<H.size)∧∀r∈rs,∀b,ai r b→base≤b∧b<H.size:=
 ⟨h.out.block,fun r hr=>by obtain⟨l,hl⟩:=h.rowAt hr;exact hl.block⟩
theorem ax.rows {H:aa} {base:Nat} {s:Sl} {rs:List Sl} {ls:List (List Int)} (h:ax H base s rs ls):Rows H s ls:=by
 refine⟨h.n,fun i hi=>?_⟩
 have hir:i<rs.length:=by rw[h.len];exact hi
 obtain⟨ad,ha,hc⟩:=h.out.reads.at (i:=i) (by simpa using hir)
 exact⟨ad,rs[i],ha,by simpa using hc,(h.row i _ _ (List.getElem?_eq_getElem hir) (List.getElem?_eq_getElem hi)).ints⟩
theorem ax.Ag {ty:TypeId} {H:aa} {base:Nat} {s:Sl} {rs:List Sl} {ls:List (List Int)} {r:Sl} {l:List Int} {K:Sl→aa→Prop} (h:ax H base s rs ls)
  (hr:au H base fx 1 r (l.map (Value.int .u64))) (hap:∀r'∈rs,∀b,ai r b→¬ai r' b) (hn:s.n+1≤1099511627776) (hbase:base≤H.size)
  (hK:∀s' H',s'.n=s.n+1→ax H' base s' (rs++[r]) (ls++[l])→Mod (ai s) H H'→(∀b,ai s' b→ai s b∨H.size≤b)→K s' H'):
  aD H #[r.v] gw fun p H1=>bS an Tryz.prog (Builtin.append_ #[fG,fG] ty #[s.v,.slice (some p) 1 1]) H1 K:=by
 refine xI.push (base:=base) h.out rfl hn (by omega) hbase ?_
 intro s' H' n1 o1 m1 b1 _
 refine hK s' H' n1 ⟨by simpa using o1,by simp[h.len],?_,?_⟩ m1 b1
 ·intro i x y hx hy
  rw[List.getElem?_append] at hx hy
  have hl:=h.len
  split at hx
  ·rename_i hlt
   rw[if_pos (by omega)] at hy
   exact(h.row i x y hx hy).mod m1 (fun b hb hb'=>(h.row i x y hx hy).apart h.out (by decide) b hb hb')
  ·rename_i hge
   rw[if_neg (by omega)] at hy
   have e1:i - rs.length=0:=by
    have:=(List.getElem?_eq_some_iff.1 hx).1;simp at this;omega
   have e2:i - ls.length=0:=by omega
   rw[e1] at hx;rw[e2] at hy
   simp at hx hy
   subst hx;subst hy
   exact hr.mod m1 (fun b hb hb'=>hr.apart h.out (by decide) b hb hb')
 ·intro i j x y hij hx hy b hb
  have key:∀(i:Nat) (x:Sl),(rs++[r])[i]?=some x→(i<rs.length∧rs[i]?=some x)∨(i=rs.length∧x=r):=by
   intro i x hx
   rw[List.getElem?_append] at hx
   split at hx
   ·rename_i hlt;exact .inl ⟨hlt,hx⟩
   ·rename_i hge
    have e1:i - rs.length=0:=by
     have:=(List.getElem?_eq_some_iff.1 hx).1;simp at this;omega
    rw[e1] at hx;simp at hx
    exact .inr ⟨by omega,hx.symm⟩
  rcases key i x hx with ⟨h1,h2⟩|⟨h1,h2⟩<;>rcases key j y hy with ⟨h3,h4⟩|⟨h3,h4⟩
  ·exact h.apart i j x y hij h2 h4 b hb
  ·subst h4;exact fun hb'=>hap x (List.mem_of_getElem? h2) b hb' hb
  ·subst h2;exact hap y (List.mem_of_getElem? h4) b hb
  ·omega
theorem ax.push {ty:TypeId} {H:aa} {base:Nat} {s:Sl} {rs:List Sl} {ls:List (List Int)} {r:Sl} {l:List Int} {K:Sl→aa→Prop} (h:ax H base s rs ls)
  (hr:au H base fx 1 r (l.map (Value.int .u64))) (hap:∀r'∈rs,∀b,ai r b→¬ai r' b) (hn:s.n+1≤1099511627776) (hbase:base≤H.size)
  (hK:∀s' H',s'.n=s.n+1→ax H' base s' (rs++[r]) (ls++[l])→Mod (ai s) H H'→K s' H'):
  aD H #[r.v] gw fun p H1=>bS an Tryz.prog (Builtin.append_ #[fG,fG] ty #[s.v,.slice (some p) 1 1]) H1 K:=
 ax.Ag h hr hap hn hbase fun s' H' a b c _=>hK s' H' a b c
theorem xD (b:List Int) (w:Int) (m:Nat):rowsOf b w (m+1)=rowsOf b w m++[rowOf (cj b (bJ w).toNat m) w.toNat]:=by
 simp[rowsOf,List.range_succ]
theorem tmod_zero {a n:Nat} (_:0<n) (h:Int.tmod (a:Int) (n:Int)=0):a=a/n*n:=by
 rw[←Int.ofNat_tmod] at h
 have h1:a%n=0:=by exact_mod_cast h
 have:=Nat.div_add_mod a n
 rw[h1,Nat.mul_comm] at this
 omega
theorem vK {b:List Int} {n k j:Nat} (hj:j<n):(cj b n k).getD j 0=b.getD (k*n+j) 0:=by
 unfold cj
 simp only[List.getD,List.getElem?_take,List.getElem?_drop]
 rw[if_pos hj]
theorem sK {b:List Int} {n k m:Nat} (hb:b.length=m*n) (hk:k<m):(cj b n k).length=n:=by
 unfold cj
 have:=Nat.mul_le_mul_right n (Nat.succ_le_of_lt hk)
 rw[Nat.succ_mul] at this
 simp;omega
theorem Bk {b:List Int} {w:Int} {k:Nat} (hw:w=0) (hk:k<b.length) (h:b.getD k 0≠0):fu b w=false:=by
 unfold fu
 have:(b.all fun x=>decide (x=0))=false:=by
  rw[List.all_eq_false]
  refine⟨b[k],List.getElem_mem _,?_⟩
  simp[List.getD,List.getElem?_eq_getElem hk] at h
  simpa using h
 rw[this]
 simp[hw]
theorem sh {b:List Int} {w:Int} (h1:bJ w≠0) (h2:Int.tmod (b.length:Int) (bJ w)=0) (h3:w=0→∀k,k<b.length→b.getD k 0=0):fu b w=true:=by
 unfold fu
 simp only[Bool.and_eq_true,decide_eq_true_eq,Bool.or_eq_true,List.all_eq_true]
 refine⟨⟨h1,h2⟩,?_⟩
 by_cases hw:w=0
 ·right
  intro x hx
  obtain⟨k,hk,e⟩:=List.mem_iff_getElem.1 hx
  have:=h3 hw k hk
  simp[List.getD,List.getElem?_eq_getElem hk] at this
  rw[←e];exact this
 ·exact .inl hw
theorem GN:zc Tryz.prog fG=#[.slice none 0 0]:=by kernel_rfl
theorem Dx:zc Tryz.prog Jq=#[.int .i64 0]:=by kernel_rfl
theorem DK {p:Sl} {n:Int} {H:aa} {K:Value→aa→Prop} (hn:1≤n)
  (hK:∀c c1 H',c.block=H.size→c1.block=H.size+1→H'.size=H.size+2→dO H' c jP p.v→dO H' c1 ig (.int .i64 n)→Ext H H'→
   K (.func (.func CS.no) #[] #[.pointer (some c),.pointer (some c1)]) H'):Iu.sp p n H K:=by
 refine Iu.of ?_
 unfold Iu.vc
 refine iH fun c H1 hc s1 v1 e1=>?_
 refine iH fun c1 H2 hc1 s2 v2 e2=>?_
 refine v2.ld (c:=ab .i64) (x:=n) ?_
 refine aj (fun h=>?_) (fun h=>?_)
 ·simp at h;omega
 ·exact hK c c1 H2 hc (by omega) (by omega) (v1.ext e2) v2 (e1.trans e2)
theorem Bs {l:Nat} {c c1:Addr} {p:Sl} {n m:Nat} {H:aa} {K:Unit→aa→Prop} (I:Nat→aa→Prop) (D:aa→Prop) (hn:0<n) (hm:p.n=m*n) (hc:p.n≤p.c) (hbig:p.n≤1000000) (hnb:n≤1000000)
  (hI:∀k H',I k H'→dO H' c jP p.v∧dO H' c1 ig (.int .i64 (n:Int))) (h0:I 0 H)
  (hs:∀k H',k<m→I k H'→b8 Tryz.prog l #[(Sl.mk (p.a.map (·.add (k*n))) n n).v] H' fun b H''=>if b then I (k+1) H'' else D H'')
  (hfin:∀H',I m H'→K () H') (hD:∀H',D H'→K () H'):CS.sp l c c1 H K:=by
 refine CS.of ?_
 unfold CS.vc
 refine aB m (fun k i H'=>i=((k*n:Nat):Int)∧I k H') ⟨by simp,h0⟩ ?_
 rintro k i H1 next hk ⟨rfl,hIk⟩ hnext
 obtain⟨v,v1⟩:=hI k H1 hIk
 refine v.ld (c:=an) (x:=p) ?_
 refine aj (fun h=>?_) (fun h=>?_)
 ·have hlt:k<m:=by
   rcases Nat.lt_or_ge k m with q|q
   ·exact q
   ·have e:k=m:=by omega
    subst e;simp at h;omega
  have hle:k*n+n≤p.n:=by
   have:=Nat.mul_le_mul_right n (Nat.succ_le_of_lt hlt)
   rw[Nat.succ_mul] at this;omega
  obtain⟨q,hq⟩:∃q,q=k*n:=⟨_,rfl⟩
  have hnx:(((k+1)*n:Nat):Int)=((q+n:Nat):Int):=by rw[hq,Nat.succ_mul]
  have hsy:=hs k H1 hlt hIk
  rw[←hq] at hle hsy ⊢
  refine v1.ld (c:=ab .i64) (x:=(n:Int)) ?_
  refine v.ld (c:=an) (x:=p) ?_
  refine⟨by omega,?_⟩
  refine v.ld (c:=an) (x:=p) ?_
  have eE:IntKind.i64.wrap ((q:Int)+(if ((p.n - (q:Int).toNat:Nat):Int)<(n:Int) then ((p.n - (q:Int).toNat:Nat):Int) else (n:Int)))=((q+n:Nat):Int):=by
   have:(if ((p.n - (q:Int).toNat:Nat):Int)<(n:Int) then ((p.n - (q:Int).toNat:Nat):Int) else (n:Int))=(n:Int):=by split<;>omega
   rw[this,wrap64 (by omega) (by omega)];omega
  rw[eE]
  refine⟨by omega,by omega,by omega,?_⟩
  have ea:dM p.a ((q+n:Nat):Int).toNat (q:Int).toNat 1=p.a.map (·.add q):=by
   unfold dM
   rw[if_neg (by simp;omega)]
   simp
  have en:((q+n:Nat):Int).toNat - (q:Int).toNat=n:=by omega
  rw[ea,en]
  refine hsy.mono fun b H2 hb=>?_
  cases b with
  |false=>exact hD H2 hb
  |true=>
    have hb':I (k+1) H2:=hb
    refine(hI _ _ hb').2.ld (c:=ab .i64) (x:=(n:Int)) ?_
    refine hnext hlt _ _ ⟨?_,hb'⟩
    rw[hnx,wrap64 (by omega) (by omega)];omega
 ·have e:k=m:=by
   rcases Nat.lt_or_ge k m with q|q
   ·have:=Nat.mul_le_mul_right n (Nat.succ_le_of_lt q)
    rw[Nat.succ_mul] at this;simp at h;omega
   ·omega
  subst e
  exact hfin H1 hIk
theorem Ints.chunk {H:aa} {p:Sl} {b:List Int} (hp:Ints .u8 H p b) {k n:Nat} (hl:k*n+n≤b.length):Ints .u8 H (Sl.mk (p.a.map (·.add (k*n))) n n) (cj b n k):=by
 refine⟨by simp[cj];omega,?_⟩
 intro i v hv
 unfold cj at hv
 rw[List.map_take,List.map_drop] at hv
 have hi:i<n:=by
  have:=(List.getElem?_eq_some_iff.1 hv).1;simp at this;omega
 rw[List.getElem?_take,if_pos hi,List.getElem?_drop] at hv
 obtain⟨ad,e,hc⟩:=hp.reads _ _ hv
 exact⟨ad.add (k*n),by rw[e];rfl,by rw[add_add];exact hc⟩
structure ou (H0:aa) (B:Nat) (b:List Int) (w:Int) (p:Sl) (r2:Nat) (p1 p2 p3 p4 c c1:Addr) (k:Nat) (H:aa):Prop where
 r2:H[r2]?=some (.deferred (some []))
 v1:dO H p1 ig (.int .i64 w)
 v2:dO H p2 fG (.slice none 0 0)
 v3:dO H p3 Jq (.int .i64 0)
 vc:dO H c jP p.v
 vc1:dO H c1 ig (.int .i64 (bJ w))
 rows:∃s rs,dO H p4 fG (Sl.v s)∧s.n=k∧ax H B s rs (rowsOf b w k)∧∀x∈rs,x.a≠none
 ext:Ext H0 H
 zero:w=0→∀j,j<k→b.getD j 0=0
theorem ou.mod {H0:aa} {B:Nat} {b:List Int} {w:Int} {p:Sl} {r2:Nat} {p1 p2 p3 p4 c c1:Addr} {k:Nat} {F:Nat→Prop} {H H':aa} (h:ou H0 B b w p r2 p1 p2 p3 p4 c c1 k H) (hm:Mod F H H')
  (h0:∀b,b<H0.size→¬F b) (hc:∀b cs t,H[b]?=some (.cells cs t (0,0))→¬F b) (hd:∀b d,H[b]?=some (.deferred d)→¬F b):ou H0 B b w p r2 p1 p2 p3 p4 c c1 k H':=by
 obtain⟨s,rs,v4,hn,ro,nn⟩:=h.rows
 refine⟨(hm.same _ ?_ (hd _ _ h.r2)).trans h.r2,h.v1.mod hm (hc _ _ _ h.v1.obj),h.v2.mod hm (hc _ _ _ h.v2.obj),h.v3.mod hm (hc _ _ _ h.v3.obj),h.vc.mod hm (hc _ _ _ h.vc.obj),h.vc1.mod hm (hc _ _ _ h.vc1.obj),
  ⟨s,rs,v4.mod hm (hc _ _ _ v4.obj),hn,ro.mod hm (fun b hb=>?_) (fun r hr b hb=>?_),nn⟩,(h.ext.mod (F:=F).trans hm).ext (fun b hb=>?_),h.zero⟩
 ·exact(Array.getElem?_eq_some_iff.1 h.r2).1
 ·obtain⟨cur,q⟩:=ro.out.obj b hb;exact hc _ _ _ q
 ·obtain⟨l,hl⟩:=ro.rowAt hr
  obtain⟨cur,q⟩:=hl.obj b hb;exact hc _ _ _ q
 ·rcases Nat.lt_or_ge b H0.size with q|q
  ·exact absurd hb (h0 b q)
  ·exact q
theorem ou.set {H0:aa} {B:Nat} {b:List Int} {w:Int} {p:Sl} {r2:Nat} {p1 p2 p3 p4 c c1:Addr} {k l:Nat} {H:aa} {x:Loop} {o:Obj} (h:ou H0 B b w p r2 p1 p2 p3 p4 c c1 k H) (hl:H[l]?=some (.loop x)) (hl0:H0.size≤l):
  ou H0 B b w p r2 p1 p2 p3 p4 c c1 k (H.setIfInBounds l o):=
 h.mod (F:=fun b=>b=l) (Mod.setObj rfl) (fun b hb e=>by omega) (fun b cs t hb e=>by subst e;rw[hl] at hb;cases hb) (fun b d hb e=>by subst e;rw[hl] at hb;cases hb)
theorem ou.JW {H0:aa} {B:Nat} {b:List Int} {w:Int} {p:Sl} {r2:Nat} {p1 p2 p3 p4 c c1:Addr} {k:Nat} {H H':aa} (h:ou H0 B b w p r2 p1 p2 p3 p4 c c1 k H) (hm:Ext H H'):ou H0 B b w p r2 p1 p2 p3 p4 c c1 k H':=
 h.mod hm (fun _ _=>id) (fun _ _ _ _=>id) (fun _ _ _=>id)
set_option maxHeartbeats 4000000 in
theorem Bu {p:Sl} {b:List Int} {w:Int} {H:aa} {K:(Sl×Int)→aa→Prop} (hp:Ints .u8 H p b) (hc:p.n≤p.c) (hbb:∀x∈b,0≤x∧x<256) (hlen:b.length≤1000000)
  (hK:∀s rs H',ax H' H.size s rs (lA b w)→Ext H H'→(∀x∈rs,x.a≠none)→K (s,tE b w) H'):FA.sp p w H K:=by
 refine FA.of ?_
 unfold FA.vc
 rw[GN,Dx]
 have pn:=hp.len
 refine iH fun p1 H1 hp1 s1 v1 e1=>?_
 refine iH fun p2 H2 hp2 s2 v2 e2=>?_
 refine iH fun p3 H3 hp3 s3 v3 e3=>?_
 have v1':=(v1.ext e2).ext e3
 have v2':=v2.ext e3
 have e03:Ext H H3:=(e1.trans e2).trans e3
 refine v1'.ld (c:=ab .i64) (x:=w) ?_
 -- the answer where the width is not one
 have bad:∀H4:aa,dO H4 p2 fG (.slice none 0 0)→dO H4 p3 Jq (.int .i64 60)→Ext H H4→fu b w=false→
   ld an H4 p2 fun res=>ld (ab .i64) H4 p3 fun res_1=>K (res,res_1) H4:=by
  intro H4 q2 q3 e hf
  refine q2.ld (c:=an) (x:=Sl.mk none 0 0) ?_
  refine q3.ld (c:=ab .i64) (x:=60) ?_
  have:=hK (Sl.mk none 0 0) [] H4 (by unfold lA;rw[hf];exact ax.nil _ _) e (by simp)
  unfold tE at this;rw[hf] at this;exact this
 have badW:fu b w=false→st H3 p2 (.slice none 0 0) fun H5=>st H5 p3 (.int .i64 60) fun H6=>ld an H6 p2 fun res=>ld (ab .i64) H6 p3 fun res_1=>K (res,res_1) H6:=by
  intro hf
  refine v2'.st rfl fun H5 q2 m5 s5=>?_
  refine(v3.mod m5 (by omega)).st rfl fun H6 q3 m6 s6=>?_
  exact bad H6 (q2.mod m6 (by omega)) q3 (((e03.mod (F:=fun b=>b=p2.block∨b=p3.block).trans (m5.mono (fun b _ h=>.inl h))).trans (m6.mono (fun b _ h=>.inr h))).ext (fun b hb=>by omega)) hf
 refine sW ?_
 refine aj (fun h=>badW (by unfold fu;simp at h;simp[h])) (fun h=>?_)
 have h':bJ w≠0:=by simpa using h
 have hsz:=gS w
 refine⟨h',aj (fun h2=>badW (by unfold fu;rw[pn] at h2;simp at h2;simp[h2])) (fun h2=>?_)⟩
 have h2':Int.tmod (b.length:Int) (bJ w)=0:=by rw[pn] at h2;simpa using h2
 obtain⟨n,hn⟩:∃n:Nat,bJ w=(n:Int):=⟨(bJ w).toNat,by omega⟩
 have hn0:0<n:=by omega
 obtain⟨m,hm⟩:∃m,m=b.length/n:=⟨_,rfl⟩
 have hmul:b.length=m*n:=by rw[hm];exact tmod_zero hn0 (by rw[←hn];exact h2')
 have hw0:0≤w∧w≤16:=by
  unfold bJ at h'
  split at h'
  ·exact absurd rfl h'
  ·omega
 have hnw:w≠0→n=8*w.toNat:=by
  intro hw;unfold bJ at hn;rw[if_neg (by omega),if_neg hw] at hn;omega
 have hn1:w=0→n=1:=by intro hw;unfold bJ at hn;rw[hw] at hn;simp at hn;omega
 have hdiv:m≤b.length:=by rw[hm];exact Nat.div_le_self _ _
 have ediv:IntKind.i64.wrap (Int.tdiv (p.n:Int) (bJ w))=((m:Nat):Int):=by
  rw[pn,hn,←Int.ofNat_tdiv,←hm,wrap64 (by omega) (by omega)]
 refine⟨h',?_⟩
 rw[ediv]
 refine xI.make (base:=H.size) (by omega) (by omega) (by omega) (by omega) e03.size ?_
 intro sl H9 n9 o9 e9 b9 _
 refine iH fun p4 H10 hp4 s10 v4 e10=>?_
 refine v4.st rfl fun H11 v4b m11 s11=>?_
 have m911:Ext H9 H11:=(e10.mod (F:=fun b=>b=p4.block).trans m11).ext (fun b hb=>by omega)
 have e011:Ext H H11:=(e03.trans e9).trans m911
 refine DK (by omega) fun c c1 H12 hcb hc1b s12 vc vc1 e12=>?_
 have hcallable:bQ Tryz.prog CS.no=true:=by kernel_rfl
 refine⟨CS.no,#[.pointer (some c),.pointer (some c1)],rfl,hcallable,fun rec hround=>?_⟩
 obtain⟨l,hl⟩:∃l,l=H12.size+1:=⟨_,rfl⟩
 obtain⟨r2,hr2⟩:∃r,r=H12.size:=⟨_,rfl⟩
 rw[←hl] at hround ⊢
 rw[←hr2]
 obtain⟨H13,hH13⟩:∃H13:aa,H13=(H12.push (.deferred (some []))).push (.loop (rec .ready none)):=⟨_,rfl⟩
 rw[←hH13]
 have e13:Ext H12 H13:=by rw[hH13];exact(Mod.push _ _ _).trans (Mod.push _ _ _)
 have hl13:H13[l]?=some (.loop (rec .ready none)):=by rw[hH13,hl,Array.getElem?_push,if_pos (by simp)]
 have hr13:H13[r2]?=some (.deferred (some [])):=by rw[hH13,hr2];simp[Array.getElem?_push]
 have hl0:H.size≤l:=by have:=(e011.trans e12).size;omega
 have hp24:p2.block≠p4.block:=by have:=e9.size;omega
 have e913:Ext H9 H13:=(m911.trans e12).trans e13
 have e313:Ext H3 H13:=e9.trans e913
 -- between the rounds
 let I:Nat→aa→Prop:=fun k H'=>H'[l]?=some (.loop (rec .ready none))∧ou H H.size b w p r2 p1 p2 p3 p4 c c1 k H'
 let D:aa→Prop:=fun H'=>H'[l]?=some (.loop (rec .done (some .ret)))∧H'[r2]?=some (.deferred (some []))∧dO H' p2 fG (.slice none 0 0)∧dO H' p3 Jq (.int .i64 60)∧Ext H H'∧fu b w=false
 refine Spec.mono (R:=fun v H'=>∃x:Unit,v=(aT []).enc x∧lR l rec H' _ _ _) (Bs (l:=l) (c:=c) (c1:=c1) (p:=p) (n:=n) (m:=m) (H:=H13) (K:=fun _ H'=>lR l rec H' _ _ _) I D hn0 (by rw[pn];exact hmul) hc (by omega) (by omega) ?_ ?_ ?_ ?_ ?_) (fun v H' ⟨x,_,h⟩=>h)
 ·clear hround
  rintro k H' ⟨_,g⟩
  exact⟨g.vc,by have:=g.vc1;rw[hn] at this;exact this⟩
 ·clear hround
  refine⟨hl13,hr13,v1'.ext e313,v2'.ext e313,v3.ext e313,vc.ext e13,vc1.ext e13,⟨sl,[],(v4b.ext e12).ext e13,by simpa using n9,⟨by simpa using o9.ext e913,rfl,by simp,by simp⟩,by simp⟩,(e011.trans e12).trans e13,fun _ j hj=>by omega⟩
 ·-- a round
  rintro k H' hk ⟨hlr,g⟩
  refine hround [(Sl.mk (p.a.map (·.add (k*n))) n n).v] H' _ hlr ?_
  clear hround
  have hb2:k*n+n≤b.length:=by
   have:=Nat.mul_le_mul_right n (Nat.succ_le_of_lt hk)
   rw[Nat.succ_mul] at this;omega
  have hk1:k<b.length:=by have:=Nat.le_mul_of_pos_right k hn0;omega
  have hcl:=sK hmul hk
  show _∧_
  refine⟨hlr,?_⟩
  obtain⟨Hb,hHb⟩:∃Hb:aa,Hb=H'.setIfInBounds l (.loop (rec .busy none)):=⟨_,rfl⟩
  rw[←hHb]
  have gb:ou H H.size b w p r2 p1 p2 p3 p4 c c1 k Hb:=by rw[hHb];exact g.set hlr hl0
  have hlb:Hb[l]?=some (.loop (rec .busy none)):=by rw[hHb];exact gH hlr
  refine⟨fun _ H14=>Hb=H14∧(w=0→b.getD k 0=0),?_,?_⟩
  ·refine gb.v1.ld (c:=ab .i64) (x:=w) ?_
   refine aj (fun h4=>?_) (fun h4=>⟨rfl,fun hw=>by simp at h4;exact absurd hw h4⟩)
   have hw:w=0:=by simpa using h4
   have hci:=(hp.ext gb.ext).chunk hb2
   refine fN hci (i:=0) (j:=0) rfl (by omega) fun ad q=>?_
   rw[vK hn0,hn1 hw]
   have e0:k*1+0=k:=by omega
   rw[e0]
   refine aj (fun h5=>?_) (fun h5=>⟨rfl,fun _=>by simpa using h5⟩)
   have hf:=Bk hw hk1 (by simpa using h5)
   refine gb.v2.st rfl fun H15 q2 m15 s15=>?_
   have hp23:p3.block≠p2.block:=by omega
   refine(gb.v3.mod m15 hp23).st rfl fun H16 q3 m16 s16=>?_
   have mm:Mod (fun b=>b=p2.block∨b=p3.block) Hb H16:=(m15.mono (fun b _ h=>.inl h)).trans (m16.mono (fun b _ h=>.inr h))
   have hll:l<Hb.size:=(Array.getElem?_eq_some_iff.1 hlb).1
   have h16:H16[l]?=some (.loop (rec .busy none)):=(mm.same l hll (by
    rintro(e|e)
    ·have:=gb.v2.obj;rw[←e,hlb] at this;cases this
    ·have:=gb.v3.obj;rw[←e,hlb] at this;cases this)).trans hlb
   have hrr:r2<Hb.size:=(Array.getElem?_eq_some_iff.1 gb.r2).1
   have h16r:H16[r2]?=some (.deferred (some [])):=(mm.same r2 hrr (by
    rintro(e|e)
    ·have:=gb.v2.obj;rw[←e,gb.r2] at this;cases this
    ·have:=gb.v3.obj;rw[←e,gb.r2] at this;cases this)).trans gb.r2
   refine⟨h16,?_⟩
   show D _
   have m17:Mod (fun b=>b=l) H16 (H16.setIfInBounds l (.loop (rec .done (some .ret)))):=Mod.setObj rfl
   have hne:∀q:Addr,∀t v,dO H16 q t v→q.block≠l:=fun q t v hv e=>by have:=hv.obj;rw[e,h16] at this;cases this
   have q2':=q2.mod m16 (Ne.symm hp23)
   refine⟨gH h16,(m17.same r2 (Array.getElem?_eq_some_iff.1 h16r).1 (by omega)).trans h16r,q2'.mod m17 (hne _ _ _ q2'),q3.mod m17 (hne _ _ _ q3),?_,hf⟩
   have e16:Ext H H16:=(gb.ext.mod (F:=fun b=>b=p2.block∨b=p3.block).trans mm).ext (fun b hb=>by omega)
   exact(e16.mod (F:=fun b=>b=l).trans m17).ext (fun b hb=>by omega)
  ·rintro _ H14 ⟨rfl,hzero⟩
   refine gb.v1.ld (c:=ab .i64) (x:=w) ?_
   refine sM.make (base:=H.size) hw0.1 (Int.le_refl _) (by omega) (by omega) gb.ext.size ?_
   intro sl1 H17 n17 o17 e17 b17 nn17
   have g17:=gb.JW e17
   refine g17.v1.ld (c:=ab .i64) (x:=w) ?_
   rw[wrap64 (x:=8*w) (by omega) (by omega)]
   refine aB (8*w.toNat) (fun i z H'=>z=(i:Int)∧au H' H.size fx 1 sl1 ((rowOf ((cj b n k).take i) w.toNat).map (Value.int .u64))∧Ext Hb H') ⟨rfl,by simpa[BA] using o17,e17⟩ ?_
   rintro i z H18 next hi ⟨rfl,o18,e18⟩ hnext
   refine aj (fun h6=>?_) (fun h6=>?_)
   ·have hi8:i<8*w.toNat:=by simp at h6;omega
    have hw:w≠0:=by omega
    have hn8:=hnw hw
    have ei:IntKind.i64.wrap (Int.tdiv (i:Int) 8)=((i/8:Nat):Int):=by
     rw[show (8:Int)=((8:Nat):Int) from rfl,←Int.ofNat_tdiv,wrap64 (by omega) (by omega)]
    rw[ei]
    have hq:i/8<w.toNat:=by omega
    refine o18.ints.ld (by omega) (by rw[mM];omega) fun ad1 q1=>?_
    refine((hp.ext (gb.ext.trans e18)).chunk hb2).ld (by omega) (by omega) fun ad2 q2=>?_
    simp only[Int.toNat_natCast]
    have hr:=j7 ((((cj b n k).take i).drop (8*(i/8))).take 8)
    have hx:(rowOf ((cj b n k).take i) w.toNat).getD (i/8) 0=dm ((((cj b n k).take i).drop (8*(i/8))).take 8):=by
     simp only[rowOf,List.getD,List.getElem?_map,List.getElem?_range hq,Option.map_some,Option.getD_some]
    have hby:0≤(cj b n k).getD i 0∧(cj b n k).getD i 0<256:=by
     have hi2:i<(cj b n k).length:=by omega
     simp only[List.getD,List.getElem?_eq_getElem hi2,Option.getD_some]
     exact hbb _ (List.mem_of_mem_drop (List.mem_of_mem_take (List.getElem_mem hi2)))
    rw[C8 (by rw[hx];exact hr.1) (by rw[hx];exact hr.2) hby.1 hby.2]
    refine o18.st (by omega) (by rw[n17];omega) rfl fun H19 o19 m19 s19=>?_
    refine hnext hi8 _ _ ⟨by rw[aP i (by omega)],?_,(e18.mod (F:=ai sl1).trans m19).ext b17⟩
    rw[←yF (by omega) (by omega)]
    simp only[Int.toNat_natCast,←List.map_set] at o19
    exact o19
   ·have hi8:i=8*w.toNat:=by simp at h6;omega
    have hfull:rowOf ((cj b n k).take i) w.toNat=rowOf (cj b n k) w.toNat:=by
     by_cases hw:w=0
     ·rw[hw];rfl
     ·rw[List.take_of_length_le (by rw[hcl,hnw hw];omega)]
    rw[hfull] at o18
    have g18:=gb.JW e18
    obtain⟨s,rs,v4s,hsn,ro,nn⟩:=gb.rows
    have ro18:=ro.ext e18
    refine(v4s.ext e18).ld (c:=an) (x:=s) ?_
    refine ro18.push o18 (fun r' hr' x hx hx'=>?_) (by omega) (gb.ext.trans e18).size ?_
    ·have h1:=(ro.block.2 r' hr' x hx').2
     have h2:=b17 x hx
     omega
    intro s7 H21 n21 r21 m21
    have hne4:¬ai s p4.block:=fun hb=>by
     obtain⟨cur,q⟩:=ro18.out.obj _ hb
     exact absurd (aR q (v4s.ext e18).obj) (by decide)
    refine((v4s.ext e18).mod m21 hne4).st rfl fun H22 v22 m22 s22=>?_
    have hb21:∀b,ai s b→H.size≤b:=fun b hb=>(ro.block.1 b hb).1
    have hl18:H18[l]?=some (.loop (rec .busy none)):=(e18.same l (Array.getElem?_eq_some_iff.1 hlb).1 id).trans hlb
    have hl21:H21[l]?=some (.loop (rec .busy none)):=(m21.same l (Array.getElem?_eq_some_iff.1 hl18).1 (fun hb=>by
     obtain⟨cur,q⟩:=ro18.out.obj _ hb;rw[hl18] at q;cases q)).trans hl18
    have hl22:H22[l]?=some (.loop (rec .busy none)):=(m22.same l (Array.getElem?_eq_some_iff.1 hl21).1 (fun hb=>by
     have q:=(v4s.ext e18).mod m21 hne4
     have:=q.obj;rw[←hb,hl21] at this;cases this)).trans hl21
    refine⟨hl22,?_⟩
    show I (k+1) _
    have mm:Mod (fun b=>ai s b∨b=p4.block) H18 H22:=(m21.mono (fun b _ h=>.inl h)).trans (m22.mono (fun b _ h=>.inr h))
    have aq:∀{q:Addr} {t:TypeId} {v:Value},dO H18 q t v→t≠gw→q.block≠p4.block→dO H22 q t v:=by
     intro q t v hv ht hq
     refine hv.mod mm ?_
     rintro(hb|hb)
     ·obtain⟨cur,q1⟩:=ro18.out.obj _ hb
      have:=hv.obj;rw[this] at q1;simp at q1;exact ht q1.2
     ·exact hq hb
    have g22:ou H H.size b w p r2 p1 p2 p3 p4 c c1 (k+1) H22:=by
     have hr18:r2<H18.size:=(Array.getElem?_eq_some_iff.1 g18.r2).1
     refine⟨(mm.same r2 hr18 ?_).trans g18.r2,aq g18.v1 (by decide) (by have:=e9.size;omega),aq g18.v2 (by decide) hp24,aq g18.v3 (by decide) (by have:=e9.size;omega),aq g18.vc (by decide) (by have:=e9.size;omega),aq g18.vc1 (by decide) (by have:=e9.size;omega),⟨s7,rs++[sl1],v22,by omega,?_,fun x hx=>by rcases List.mem_append.1 hx with q|q;exact nn x q;simp at q;subst q;exact nn17⟩,?_,?_⟩
     ·rintro(hb|hb)
      ·obtain⟨cur,q1⟩:=ro18.out.obj _ hb
       rw[g18.r2] at q1;cases q1
      ·have:=(v4s.ext e18).obj;rw[←hb,g18.r2] at this;cases this
     ·rw[xD,hn]
      have r21':ax H21 H.size s7 (rs++[sl1]) (rowsOf b w k++[rowOf (cj b n k) w.toNat]):=r21
      have v21:=(v4s.ext e18).mod m21 hne4
      refine r21'.mod m22 (fun b hb e=>?_) (fun r hr b hb e=>?_)
      ·obtain⟨cur,q1⟩:=r21'.out.obj _ hb
       rw[e] at q1;exact absurd (aR q1 v21.obj) (by decide)
      ·obtain⟨lx,hlx⟩:=r21'.rowAt hr
       obtain⟨cur,q1⟩:=hlx.obj _ hb
       rw[e] at q1;exact absurd (aR q1 v21.obj) (by decide)
     ·exact((Ext.mod (F:=fun b=>ai s b∨b=p4.block) (gb.ext.trans e18)).trans mm).ext (fun b hb=>by
       rcases hb with hb|hb
       ·exact hb21 b hb
       ·have:=(e03.trans e9).size;omega)
     ·intro hw j hj
      rcases Nat.lt_or_ge j k with q|q
      ·exact gb.zero hw j q
      ·have:j=k:=by omega
       rw[this];exact hzero hw
    exact⟨gH hl22,g22.set hl22 hl0⟩
 ·-- all rounds are done
  clear hround
  rintro H' ⟨hlr,g⟩
  refine⟨.ready,none,hlr,rfl,?_⟩
  obtain⟨H'',hH''⟩:∃H'':aa,H''=H'.setIfInBounds l (.loop (rec .exhausted none)):=⟨_,rfl⟩
  show ld _ _ _ _
  rw[←hH'']
  have g2:ou H H.size b w p r2 p1 p2 p3 p4 c c1 m H'':=by rw[hH''];exact g.set hlr hl0
  obtain⟨s,rs,v4s,hsn,ro,nn⟩:=g2.rows
  refine v4s.ld (c:=an) (x:=s) ?_
  refine g2.v2.st rfl fun H24 q2 m24 s24=>?_
  have hp23:p3.block≠p2.block:=by omega
  refine(g2.v3.mod m24 hp23).st rfl fun H25 q3 m25 s25=>?_
  have mm:Mod (fun b=>b=p2.block∨b=p3.block) H'' H25:=(m24.mono (fun b _ h=>.inl h)).trans (m25.mono (fun b _ h=>.inr h))
  have hr:r2<H''.size:=(Array.getElem?_eq_some_iff.1 g2.r2).1
  have h25r:H25[r2]?=some (.deferred (some [])):=(mm.same r2 hr (by
   rintro(e|e)
   ·have:=g2.v2.obj;rw[←e,g2.r2] at this;cases this
   ·have:=g2.v3.obj;rw[←e,g2.r2] at this;cases this)).trans g2.r2
  refine⟨h25r,?_⟩
  have m26:Mod (fun b=>b=r2) H25 (H25.setIfInBounds r2 (.deferred none)):=Mod.setObj rfl
  have hne:∀{q:Addr} {t:TypeId} {v:Value},dO H25 q t v→¬q.block=r2:=fun hv e=>by have:=hv.obj;rw[e,h25r] at this;cases this
  have q2':=q2.mod m25 (Ne.symm hp23)
  refine(q2'.mod m26 (hne q2')).ld (c:=an) (x:=s) ?_
  refine(q3.mod m26 (hne q3)).ld (c:=ab .i64) (x:=0) ?_
  have hok:fu b w=true:=sh h' h2' (fun hw j hj=>g2.zero hw j (by rw[hm,hn1 hw];simpa using hj))
  have mAll:Mod (fun b=>b=p2.block∨b=p3.block∨b=r2) H'' (H25.setIfInBounds r2 (.deferred none)):=(mm.mono (fun b _ h=>by rcases h with h|h;exact .inl h;exact .inr (.inl h))).trans (m26.mono (fun b _ h=>.inr (.inr h)))
  have hcells:∀b cs t,H''[b]?=some (.cells cs t (0,0))→t≠fG→t≠Jq→¬(b=p2.block∨b=p3.block∨b=r2):=by
   rintro b cs t hb h1 h2 (e|e|e)
   ·have:=g2.v2.obj;rw[←e,hb] at this;simp at this;exact h1 this.2
   ·have:=g2.v3.obj;rw[←e,hb] at this;simp at this;exact h2 this.2
   ·rw[e,g2.r2] at hb;cases hb
  have:=hK s rs (H25.setIfInBounds r2 (.deferred none)) (by
   unfold lA;rw[hok,if_pos rfl,hn];simp only[Int.toNat_natCast];rw[←hm]
   refine ro.mod mAll (fun b hb=>?_) (fun r hr b hb=>?_)
   ·obtain⟨cur,q1⟩:=ro.out.obj _ hb
    exact hcells _ _ _ q1 (by decide) (by decide)
   ·obtain⟨lx,hlx⟩:=ro.rowAt hr
    obtain⟨cur,q1⟩:=hlx.obj _ hb
    exact hcells _ _ _ q1 (by decide) (by decide)) ((g2.ext.mod (F:=fun b=>b=p2.block∨b=p3.block∨b=r2).trans mAll).ext (fun b hb=>by
     have:=(e011.trans e12).size
     omega)) nn
  unfold tE at this;rw[hok] at this;exact this
 ·-- left by a return
  clear hround
  rintro H' ⟨hlr,hrr,q2,q3,e,hf⟩
  refine⟨.done,some .ret,hlr,rfl,?_⟩
  obtain⟨H'',hH''⟩:∃H'':aa,H''=H'.setIfInBounds l (.loop (rec .exhausted (some .ret))):=⟨_,rfl⟩
  show _∧_
  rw[←hH'']
  have m1:Mod (fun b=>b=l) H' H'':=by rw[hH''];exact Mod.setObj rfl
  have hne:∀{q:Addr} {t:TypeId} {v:Value},dO H' q t v→¬q.block=l:=fun hv e=>by have:=hv.obj;rw[e,hlr] at this;cases this
  have hrr':H''[r2]?=some (.deferred (some [])):=(m1.same r2 (Array.getElem?_eq_some_iff.1 hrr).1 (by omega)).trans hrr
  refine⟨hrr',?_⟩
  have m2:Mod (fun b=>b=r2) H'' (H''.setIfInBounds r2 (.deferred none)):=Mod.setObj rfl
  have hne2:∀{q:Addr} {t:TypeId} {v:Value},dO H'' q t v→¬q.block=r2:=fun hv e=>by have:=hv.obj;rw[e,hrr'] at this;cases this
  have q2':=q2.mod m1 (hne q2)
  have q3':=q3.mod m1 (hne q3)
  exact bad _ (q2'.mod m2 (hne2 q2')) (q3'.mod m2 (hne2 q3')) (((e.mod (F:=fun b=>b=l∨b=r2).trans (m1.mono (fun b _ h=>.inl h))).trans (m2.mono (fun b _ h=>.inr h))).ext (fun b hb=>by
   have:=(e011.trans e12).size
   omega)) hf
theorem uK {p:Sl} {b:List Int} {w:Int} {H:aa} {K:(Sl×Int)→aa→Prop} (hp:Ints .u8 H p b) (hc:p.n≤p.c) (hbb:∀x∈b,0≤x∧x<256) (hlen:b.length≤1000000)
  (hK:∀s rs H',ax H' H.size s rs (lA b w)→Ext H H'→K (s,tE b w) H'):FA.sp p w H K:=Bu hp hc hbb hlen fun s rs H' r e _=>hK s rs H' r e
theorem cY (n:Int) (k:Nat):0≤iq n k∧iq n k<256:=by
 unfold iq
 rw[IntKind.wrap_u8];omega
theorem ka (l:List Int):∀x∈dh l,0≤x∧x<256:=by
 intro x hx
 unfold dh at hx
 split at hx
 ·simp at hx;omega
 ·obtain⟨n,_,hn⟩:=List.mem_flatMap.1 hx
  obtain⟨k,_,hk⟩:=List.mem_map.1 hn
  rw[←hk];exact cY n k
def dL (l:List Int):List UInt8:=l.map fun x=>UInt8.ofNat x.toNat
@[simp] theorem rP (b:List UInt8):(ie b).length=b.length:=by simp[ie]
@[simp] theorem dH (b:List Int):(dL b).length=b.length:=by simp[dL]
theorem lX {l:List Int} (h:∀x∈l,0≤x∧x<256):ie (dL l)=l:=by
 unfold ie dL
 rw[List.map_map]
 conv=>rhs;rw[←List.map_id l]
 refine List.map_congr_left fun x hx=>?_
 obtain⟨a,b⟩:=h x hx
 simp only[Function.comp,UInt8.toNat_ofNat',id]
 omega
structure Rb where
 name:ByteArray
 width:Int
 wrong:Int
 closed:Bool
def Rb.ready (b:Rb):Int:=if b.wrong≠0 then b.wrong else if b.closed then 2 else 0
def Rb.dE (b:Rb) (e:Int):Rb:=if e≠0 then {b with wrong:=e} else b
structure RW where
 b:Rb
 wait:List UInt8
 n:Nat
 last:List Int
 rows:Nat
def RW.out [Tab] (w:RW) (p:Pl):Pl×RW×Int:=
 if w.n=0 then (p,w,0)
 else ((p.more w.b.name 1 w.wait).1,{w with b:=w.b.dE (p.more w.b.name 1 w.wait).2,wait:=[],n:=0},(p.more w.b.name 1 w.wait).2)
def vi (n:ByteArray) (w:Int):RW:=⟨⟨n,w,0,false⟩,[],0,[],0⟩
def bo [Tab] (p:Pl) (n:ByteArray) (w:Int):Pl×Option RW×Int:=
 if aU w=0 then (p,none,60)
 else if (p.d.create n).2≠0 then (p.bF (p.d.create n).1,none,(p.d.create n).2)
 else if ((p.bF (p.d.create n).1).more n 0 []).2≠0 then (((p.bF (p.d.create n).1).more n 0 []).1,none,((p.bF (p.d.create n).1).more n 0 []).2)
 else (((p.bF (p.d.create n).1).more n 0 []).1,some (vi n w),0)
def RW.push (w:RW) (l:List Int):RW:={w with wait:=w.wait++dL (dh l),n:=w.n+1,last:=l,rows:=w.rows+1}
def RW.add [Tab] (w:RW) (p:Pl) (l:List Int):Pl×RW×Int:=
 if w.b.ready≠0 then (p,w,w.b.ready)
 else if (l.length:Int)≠w.b.width then (p,w,60)
 else if 0<w.rows∧aF l w.last≤0 then (p,w,70)
 else if ((w.n+1:Nat):Int)<aU w.b.width then (p,w.push l,0)
 else (w.push l).out p
def cD (width:Int) (rows:Nat):List UInt8:=UInt8.ofNat width.toNat::dL (dh [(rows:Int)])
def RW.head [Tab] (w:RW) (p:Pl):Pl×Int:=
 if (p.bn w.b.name 0).2.2≠0 then ((p.bn w.b.name 0).1,(p.bn w.b.name 0).2.2)
 else if (Pl.leave ((p.bn w.b.name 0).1.set (p.bn w.b.name 0).2.1 2 (cD w.b.width w.rows)) (p.bn w.b.name 0).2.1).2≠0 then Pl.leave ((p.bn w.b.name 0).1.set (p.bn w.b.name 0).2.1 2 (cD w.b.width w.rows)) (p.bn w.b.name 0).2.1
 else (Pl.leave ((p.bn w.b.name 0).1.set (p.bn w.b.name 0).2.1 2 (cD w.b.width w.rows)) (p.bn w.b.name 0).2.1).1.flush w.b.name
def RW.stop (w:RW):RW:={w with b:={w.b with closed:=true}}
def RW.ends [Tab] (w:RW) (p:Pl):Pl×RW×Nat×Int:=
 if (w.head p).2≠0 then ((w.head p).1,{w with b:=w.b.dE (w.head p).2},0,(w.head p).2) else ((w.head p).1,w.stop,w.rows,0)
def RW.close [Tab] (w:RW) (p:Pl):Pl×RW×Nat×Int:=
 if w.b.ready≠0 then (p,w,0,w.b.ready)
 else if (w.out p).2.2≠0 then ((w.out p).1,(w.out p).2.1,0,(w.out p).2.2)
 else (w.out p).2.1.ends (w.out p).1
structure RR where
 b:Rb
 rows:Nat
 at_:Nat
 page:Option Nat
 ins:List (List Int)
def Rb.room [Tab] (b:Rb):Nat:=(aU b.width).toNat
def aJ (n room:Nat):Nat:=(n+room - 1)/room
def rnOpen [Tab] (p:Pl) (n:ByteArray) (w:Int):Pl×Option RR×Int:=
 if aU w=0 then (p,none,60)
 else if (p.look n 0).2.2.2≠0 then ((p.look n 0).1,none,(p.look n 0).2.2.2)
 else if ¬((p.look n 0).2.1=2∧(p.look n 0).2.2.1.length=9∧(((p.look n 0).2.2.1.getD 0 0).toNat:Int)=w) then ((p.look n 0).1,none,280)
 else if ((p.look n 0).1.d.len n).2≠0 then ((p.look n 0).1,none,((p.look n 0).1.d.len n).2)
 else if dm (ie ((p.look n 0).2.2.1.drop 1))≤528482304∧((p.look n 0).1.d.len n).1=1+aJ (dm (ie ((p.look n 0).2.2.1.drop 1))).toNat (aU w).toNat then
  ((p.look n 0).1,some ⟨⟨n,w,0,false⟩,(dm (ie ((p.look n 0).2.2.1.drop 1))).toNat,0,none,[]⟩,0)
 else ((p.look n 0).1,none,280)
def RR.fits [Tab] (r:RR) (k:Nat) (kind:UInt8) (b:List UInt8):Bool:=
 kind==1&&fu (ie b) r.b.width&&decide ((lA (ie b) r.b.width).length=min r.b.room (r.rows - k*r.b.room))
def RR.load [Tab] (r:RR) (p:Pl) (k:Nat):Pl×RR×Int:=
 if r.page=some k then (p,r,0)
 else if (p.look r.b.name ((k:Int)+1)).2.2.2≠0 then ((p.look r.b.name ((k:Int)+1)).1,{r with b:=r.b.dE (p.look r.b.name ((k:Int)+1)).2.2.2},(p.look r.b.name ((k:Int)+1)).2.2.2)
 else if r.fits k (p.look r.b.name ((k:Int)+1)).2.1 (p.look r.b.name ((k:Int)+1)).2.2.1 then
  ((p.look r.b.name ((k:Int)+1)).1,{r with page:=some k,ins:=lA (ie (p.look r.b.name ((k:Int)+1)).2.2.1) r.b.width},0)
 else ((p.look r.b.name ((k:Int)+1)).1,{r with b:=r.b.dE 280},280)
def RR.next [Tab] (r:RR) (p:Pl):Pl×RR×List Int×Bool×Int:=
 if r.b.ready≠0 then (p,r,[],false,r.b.ready)
 else if r.at_=r.rows then (p,r,[],false,0)
 else if (r.load p (r.at_/r.b.room)).2.2≠0 then ((r.load p (r.at_/r.b.room)).1,(r.load p (r.at_/r.b.room)).2.1,[],false,(r.load p (r.at_/r.b.room)).2.2)
 else ((r.load p (r.at_/r.b.room)).1,{(r.load p (r.at_/r.b.room)).2.1 with at_:=r.at_+1},(r.load p (r.at_/r.b.room)).2.1.ins.getD (r.at_%r.b.room) [],true,0)
def below (low:List Int) (ls:List (List Int)):Nat:=(ls.takeWhile fun l=>decide (aF l low<0)).length
def RR.stop (r:RR):RR:={r with b:={r.b with closed:=true}}
section
variable {α:Type} {lt:α→α→Prop}
def Hp (lt:α→α→Prop) (l:List α):Prop:=∀i a b,0<i→l[i]?=some a→l[(i - 1)/2]?=some b→¬lt a b
def DP (lt:α→α→Prop) (l:List α) (k:Nat):Prop:=
 (∀i a b,0<i→i≠k→l[i]?=some a→l[(i - 1)/2]?=some b→¬lt a b)∧∀i a b,0<k→0<i→(i - 1)/2=k→l[i]?=some a→l[(k - 1)/2]?=some b→¬lt a b
def Ep (lt:α→α→Prop) (l:List α) (k:Nat):Prop:=
 (∀i a b,0<i→(i - 1)/2≠k→l[i]?=some a→l[(i - 1)/2]?=some b→¬lt a b)∧∀i a b,0<k→0<i→(i - 1)/2=k→l[i]?=some a→l[(k - 1)/2]?=some b→¬lt a b
structure Ord (lt:α→α→Prop):Prop where
 asym:∀a b,lt a b→¬lt b a
 trans:∀a b c,¬lt a b→¬lt b c→¬lt a c
variable {l:List α} {k:Nat}
theorem xC [Tab] {i j:Nat} {a b:α} (hi:i<l.length) (hj:j<l.length) (m:Nat):((l.set i b).set j a)[m]?=if m=j then some a else if m=i then some b else l[m]?:=by
 rw[List.getElem?_set]
 by_cases h1:j=m
 ·subst h1;rw[if_pos rfl,if_pos rfl,if_pos (by simpa using hj)]
 ·rw[if_neg h1,if_neg (fun q=>h1 q.symm),List.getElem?_set]
  by_cases h2:i=m
  ·subst h2;rw[if_pos rfl,if_pos rfl,if_pos hi]
  ·rw[if_neg h2,if_neg (fun q=>h2 q.symm)]
theorem swap_perm [Tab] {i j:Nat} {a b:α} (hi:l[i]?=some a) (hj:l[j]?=some b):((l.set i b).set j a).Perm l:=by
 obtain⟨i1,i2⟩:=List.getElem?_eq_some_iff.1 hi
 obtain⟨j1,j2⟩:=List.getElem?_eq_some_iff.1 hj
 subst i2;subst j2
 exact List.set_set_perm i1 j1
theorem Gr (h:Hp lt l) (x:α):DP lt (l++[x]) l.length:=by
 refine⟨fun i a b h0 hk ha hb=>?_,fun i a b h0 h1 h2 ha hb=>?_⟩
 ·have hi:i<l.length:=by
   have:=(List.getElem?_eq_some_iff.1 ha).1
   simp at this;omega
  rw[List.getElem?_append_left hi] at ha
  rw[List.getElem?_append_left (by omega)] at hb
  exact h i a b h0 ha hb
 ·have:=(List.getElem?_eq_some_iff.1 ha).1
  simp at this;omega
theorem rJ (h:DP lt l k) (hs:∀a b,0<k→l[k]?=some a→l[(k - 1)/2]?=some b→¬lt a b):Hp lt l:=fun i a b h0 ha hb=>by
 by_cases e:i=k
 ·subst e;exact hs a b h0 ha hb
 ·exact h.1 i a b h0 e ha hb
theorem zX [Tab] (o:Ord lt) (h:DP lt l k) {a b:α} (h0:0<k) (ha:l[k]?=some a) (hb:l[(k - 1)/2]?=some b) (hl:lt a b):DP lt ((l.set k b).set ((k - 1)/2) a) ((k - 1)/2):=by
 have k1:=(List.getElem?_eq_some_iff.1 ha).1
 have k2:=(List.getElem?_eq_some_iff.1 hb).1
 have g:=fun m=>xC (l:=l) (a:=a) (b:=b) k1 k2 m
 refine⟨fun i x y i0 hi hx hy=>?_,fun i x y u0 i0 hi hx hy=>?_⟩
 ·rw[g,if_neg hi] at hx
  rw[g] at hy
  by_cases ik:i=k
  ·subst ik
   rw[if_pos rfl] at hx;cases hx
   rw[if_pos rfl] at hy;cases hy
   exact o.asym _ _ hl
  ·rw[if_neg ik] at hx
   split at hy
   ·rename_i q
    cases hy
    have:=h.1 i x b i0 ik hx (by rw[q];exact hb)
    exact o.trans _ _ _ this (o.asym _ _ hl)
   ·split at hy
    ·rename_i q
     cases hy
     exact h.2 i x b h0 i0 q hx hb
    ·exact h.1 i x y i0 ik hx hy
 ·rw[g,if_neg (by omega)] at hx
  rw[g,if_neg (by omega),if_neg (by omega)] at hy
  have hby:=h.1 ((k - 1)/2) b y u0 (by omega) hb hy
  by_cases ik:i=k
  ·subst ik
   rw[if_pos rfl] at hx;cases hx
   exact hby
  ·rw[if_neg ik] at hx
   exact o.trans _ _ _ (h.1 i x b i0 ik hx (by rw[hi];exact hb)) hby
theorem yO (h:Ep lt l k) (hs:∀i a b,0<i→(i - 1)/2=k→l[i]?=some a→l[k]?=some b→¬lt a b):Hp lt l:=fun i a b h0 ha hb=>by
 by_cases e:(i - 1)/2=k
 ·exact hs i a b h0 e ha (by rw[←e];exact hb)
 ·exact h.1 i a b h0 e ha hb
theorem Ae [Tab] (o:Ord lt) (h:Ep lt l k) {c:Nat} {a x:α} (hc:(c - 1)/2=k) (c0:0<c) (ha:l[k]?=some a) (hx:l[c]?=some x) (hl:lt x a) (hd:∀d y,0<d→(d - 1)/2=k→l[d]?=some y→¬lt y x):Ep lt ((l.set k x).set c a) c:=by
 have k1:=(List.getElem?_eq_some_iff.1 ha).1
 have k2:=(List.getElem?_eq_some_iff.1 hx).1
 have g:=fun m=>xC (l:=l) (a:=a) (b:=x) k1 k2 m
 refine⟨fun i y z i0 hi hy hz=>?_,fun i y z _ i0 hi hy hz=>?_⟩
 ·rw[g] at hy hz
  rw[if_neg hi] at hz
  by_cases ic:i=c
  ·subst ic
   rw[if_pos rfl] at hy;cases hy
   rw[if_pos hc] at hz;cases hz
   exact o.asym _ _ hl
  ·rw[if_neg ic] at hy
   by_cases ik:i=k
   ·subst ik
    rw[if_pos rfl] at hy;cases hy
    rw[if_neg (by omega)] at hz
    exact h.2 c x z i0 c0 hc hx hz
   ·rw[if_neg ik] at hy
    by_cases q:(i - 1)/2=k
    ·rw[if_pos q] at hz;cases hz
     exact hd i y i0 q hy
    ·rw[if_neg q] at hz
     exact h.1 i y z i0 q hy hz
 ·rw[g,if_neg (by omega),if_neg (by omega)] at hy
  rw[g,if_neg (by omega),if_pos hc] at hz
  cases hz
  exact h.1 i y x i0 (by omega) hy (by rw[hi];exact hx)
theorem ED (o:Ord lt) (h:Hp lt l) {a:α} (ha:l[0]?=some a):∀(i:Nat) (b:α),l[i]?=some b→¬lt b a:=by
 intro i
 induction i using Nat.strongRecOn with
 |ind i ih=>
   intro b hb
   rcases Nat.eq_zero_or_pos i with q|q
   ·subst q
    rw[ha] at hb;cases hb
    exact fun u=>o.asym _ _ u u
   ·have hi:=(List.getElem?_eq_some_iff.1 hb).1
    have hp:l[(i - 1)/2]?=some l[(i - 1)/2]:=List.getElem?_eq_getElem (by omega)
    exact o.trans _ _ _ (h i b _ q hb hp) (ih _ (by omega) _ hp)
theorem I8 [Tab] (h:Hp lt l) {a z:α} {n:Nat} (hn:l.length=n+1) (ha:l[0]?=some a) (hz:l[n]?=some z):Ep lt ((l.set 0 z).take n) 0∧l.Perm (a::(l.set 0 z).take n):=by
 refine⟨⟨fun i x y i0 hi hx hy=>?_,fun i x y h0=>absurd h0 (Nat.lt_irrefl _)⟩,?_⟩
 ·rw[List.getElem?_take] at hx hy
  split at hx
  ·split at hy
   ·rw[List.getElem?_set,if_neg (by omega)] at hx
    rw[List.getElem?_set,if_neg (fun q=>hi q.symm)] at hy
    exact h i x y i0 hx hy
   ·cases hy
  ·cases hx
 ·cases l with
  |nil=>simp at hn
  |cons b t=>
    simp at ha hn
    subst ha
    rw[List.set_cons_zero]
    cases n with
    |zero=>
      have:t=[]:=List.eq_nil_of_length_eq_zero hn
      subst this
      exact .refl _
    |succ n=>
      refine .cons _ ?_
      rw[List.getElem?_cons_succ] at hz
      obtain⟨h1,h2⟩:=List.getElem?_eq_some_iff.1 hz
      rw[List.take_succ_cons]
      have:t=t.take n++[z]:=by
       have:=List.take_append_getElem h1
       rw[h2,List.take_of_length_le (i:=n+1) (by omega)] at this
       exact this.symm
      conv=>lhs;rw[this]
      exact List.perm_append_singleton _ _
end
open Go.MapKept
theorem xP {P:Program} {g:FuncId} {caps:Array Value} {args:List Value} {H:aa} {K:Bool→aa→Prop} (arr:Array Value) (ha:(args++caps.toList).toArray=arr) (hc:bQ P g=true) (h:ah aw P g arr H K):ur P (.func (.func g) #[] caps) args H K:=by
 unfold ur
 simp only[hc,cond_true]
 subst ha
 simpa using h
theorem kJ {c:fe} {P:Program} {g:FuncId} {caps:Array Value} {args:List Value} {H:aa} {K:c.α→aa→Prop} (arr:Array Value) (ha:(args++caps.toList).toArray=arr) (hc:bQ P g=true) (h:ah c P g arr H K):jG c P (.func (.func g) #[] caps) args H K:=by
 unfold jG
 simp only[hc,cond_true]
 subst ha
 simpa using h
theorem rK {c:fe} {P:Program} {n:String} {t:TypeId} {v:Value} {g:FuncId} {caps:Array Value} {H:aa} {K:c.α→aa→Prop} (hm:rp P t n=some g) (hc:bQ P g=true) (h:ah c P g #[v] H K):jG c P (.func (.method n) #[.iface t v] caps) [] H K:=by
 unfold jG
 show od c P n [.iface t v] H K
 unfold od
 simp only[hm,hc,cond_true]
 exact h
section
variable {P:Program} {t kt et:TypeId} {d:TypeDesc} {H:aa} {r:Nat} {es:Array MapEntry} {clk:Nat} {k:Value}
end
structure qK (X:Nat→Prop) (H:aa) (s:Sl) (ls:List (List Int)):Prop where
 len:s.n=ls.length
 off:∀ad,s.a=some ad→ad.block<H.size∧¬X ad.block
 at':∀i (h:i<ls.length),∃ad r,s.a=some ad∧cQ H (ad.add i)=some (Sl.v r)∧(∀a,r.a=some a→a.block<H.size∧¬X a.block)∧Ints .u64 H r ls[i]
theorem qK.mod {X:Nat→Prop} {H B:aa} {s:Sl} {ls:List (List Int)} (h:qK X H s ls) (m:Mod X H B):qK X B s ls:=
 ⟨h.len,fun ad ha=>⟨by have:=(h.off ad ha).1;have:=m.size;omega,(h.off ad ha).2⟩,fun i hi=>by
  obtain⟨ad,r,q1,q2,q3,q4⟩:=h.at' i hi
  exact⟨ad,r,q1,m.cell q2 (by rw[cU];exact(h.off ad q1).2),fun a ha=>⟨by have:=(q3 a ha).1;have:=m.size;omega,(q3 a ha).2⟩,q4.mod m fun a ha=>(q3 a ha).2⟩⟩
theorem qK.drop {X:Nat→Prop} {H:aa} {s:Sl} {ls:List (List Int)} (h:qK X H s ls) (hc:s.n≤s.c) {i:Nat} (hi:i≤ls.length):qK X H ⟨dM s.a s.c i 1,s.n - i,s.c - i⟩ (ls.drop i):=by
 have hln:=h.len
 refine⟨by rw[List.length_drop];show s.n - i=_;omega,fun ad ha=>?_,fun j hj=>?_⟩
 ·have ha:dM s.a s.c i 1=some ad:=ha
  unfold dM at ha
  split at ha
  ·exact h.off ad ha
  ·cases hsa:s.a with
   |none=>rw[hsa] at ha;simp at ha
   |some a0=>
     rw[hsa] at ha
     simp at ha
     subst ha
     rw[cU]
     exact h.off a0 hsa
 ·rw[List.length_drop] at hj
  obtain⟨ad,r,q1,q2,q3,q5⟩:=h.at' (i+j) (by omega)
  refine⟨ad.add i,r,?_,by rw[add_add];exact q2,q3,?_⟩
  ·show dM s.a s.c i 1=_
   unfold dM
   rw[if_neg (by omega),q1,Nat.mul_one];rfl
  ·rw[List.getElem_drop];exact q5
theorem AV {H:aa} {t:TypeId} {K:Addr→aa→Prop} (hK:∀H',au H' 0 t 1 ⟨some ⟨H.size,0,none⟩,0,0⟩ []→Ext H H'→K ⟨H.size,0,none⟩ H'):aD H #[] t K:=
 hK _ ⟨rfl,.inr ⟨H.size,0,#[],rfl,Nat.zero_le _,by simp,by simp,Nat.zero_le _,by simp,by simp⟩⟩ (Mod.push _ _ _)
theorem Ee:El Tryz.prog xy ig 8 (.int .i64 0):=AY (zb:=se .i64) oO rfl (by kernel_rfl)
theorem BO {H:aa} {s:Sl} {l:List Int} {K:Sl→aa→Prop} (h:Ints .u64 H s l) (hl:l.length≤1000000)
  (hK:∀s' H',au H' 0 fx 1 s' (l.map (Value.int .u64))→Ext H H'→(∀b,ai s' b→H.size≤b)→K s' H'):AQ.sp s H K:=by
 refine AQ.of ?_
 unfold AQ.vc
 have hn:=h.len
 refine aj (fun hc=>?_) (fun hc=>?_)
 ·have hl0:l=[]:=by
   cases l with
   |nil=>rfl
   |cons x r=>
     obtain⟨ad,e,_⟩:=h.at (i:=0) (by simp)
     rw[e] at hc;simp at hc
  subst hl0
  exact hK _ H (au.nil _ _ _ _) (.refl _ _) fun b u=>by obtain⟨ad,ha,_⟩:=u;cases ha
 ·refine AV fun H1 o1 e1=>?_
  refine sM.append (base:=0) (s:=⟨some ⟨H.size,0,none⟩,0,0⟩) (x:=s) (xs:=[]) (ws:=l.map (Value.int .u64)) o1 (by simp;omega) (h.ext e1).reads (qG _ _) (by simp only;omega) (by simp only;omega) (Nat.zero_le _) ?_
  intro s' H2 n2 o2 m2 b2 _
  have f1:∀b,ai (Sl.mk (some ⟨H.size,0,none⟩) 0 0) b→H.size≤b:=by
   rintro b ⟨ad,ha,rfl⟩
   cases ha;exact Nat.le_refl _
  refine hK s' H2 (by simpa using o2) (((Ext.mod e1).trans m2).ext f1) fun b u=>?_
  rcases b2 b u with v|v
  ·exact f1 b v
  ·have:=e1.size;omega
theorem yK {H:aa} {s:Sl} {l:List Int} {K:Sl→aa→Prop} (h:Ints .i64 H s l) (hl:l.length≤1000000)
  (hK:∀s' H',au H' 0 ig 1 s' (l.map (Value.int .i64))→Ext H H'→(∀b,ai s' b→H.size≤b)→K s' H'):Ih.sp s H K:=by
 refine Ih.of ?_
 unfold Ih.vc
 have hn:=h.len
 refine aj (fun hc=>?_) (fun hc=>?_)
 ·have hl0:l=[]:=by
   cases l with
   |nil=>rfl
   |cons x r=>
     obtain⟨ad,e,_⟩:=h.at (i:=0) (by simp)
     rw[e] at hc;simp at hc
  subst hl0
  exact hK _ H (au.nil _ _ _ _) (.refl _ _) fun b u=>by obtain⟨ad,ha,_⟩:=u;cases ha
 ·refine AV fun H1 o1 e1=>?_
  refine Ee.append (base:=0) (s:=⟨some ⟨H.size,0,none⟩,0,0⟩) (x:=s) (xs:=[]) (ws:=l.map (Value.int .i64)) o1 (by simp;omega) (h.ext e1).reads (qG _ _) (by simp only;omega) (by simp only;omega) (Nat.zero_le _) ?_
  intro s' H2 n2 o2 m2 b2 _
  have f1:∀b,ai (Sl.mk (some ⟨H.size,0,none⟩) 0 0) b→H.size≤b:=by
   rintro b ⟨ad,ha,rfl⟩
   cases ha;exact Nat.le_refl _
  refine hK s' H2 (by simpa using o2) (((Ext.mod e1).trans m2).ext f1) fun b u=>?_
  rcases b2 b u with v|v
  ·exact f1 b v
  ·have:=e1.size;omega
end Go.Proofs.YtacfhncgbgijhaaGreat
namespace Go.Proofs.YtacfhncgbgijhaaGreat
open Go.ChangeShapes Go.WideShapes Go.ChangeAt Go.RowKit
end Go.Proofs.YtacfhncgbgijhaaGreat
namespace Go.Proofs.YtacfhncgbgijhaaGreat
theorem fm (n:Int) (k:Nat) (d:Int) (hd:(2:Int)^(min (56 - 8*(k:Int)).toNat IntKind.u64.bits)=d) (h0:0≤d):iq n k=n/d%256:=by
 unfold iq jX
 rw[IntKind.wrap_u8,hd,Int.fdiv_eq_ediv_of_nonneg _ h0]
theorem xh {n:Int} (h0:0≤n) (h1:n<18446744073709551616):∃b0 b1 b2 b3 b4 b5 b6 b7:Int,dy n=[b0,b1,b2,b3,b4,b5,b6,b7]∧
  (0≤b0∧b0<256)∧(0≤b1∧b1<256)∧(0≤b2∧b2<256)∧(0≤b3∧b3<256)∧(0≤b4∧b4<256)∧(0≤b5∧b5<256)∧(0≤b6∧b6<256)∧(0≤b7∧b7<256)∧
  n=b0*72057594037927936+b1*281474976710656+b2*1099511627776+b3*4294967296+b4*16777216+b5*65536+b6*256+b7:=by
 refine⟨iq n 0,iq n 1,iq n 2,iq n 3,iq n 4,iq n 5,iq n 6,iq n 7,rfl,cY n 0,cY n 1,cY n 2,cY n 3,cY n 4,cY n 5,cY n 6,cY n 7,?_⟩
 rw[fm n 0 72057594037927936 (by decide) (by decide),fm n 1 281474976710656 (by decide) (by decide),fm n 2 1099511627776 (by decide) (by decide),fm n 3 4294967296 (by decide) (by decide),
  fm n 4 16777216 (by decide) (by decide),fm n 5 65536 (by decide) (by decide),fm n 6 256 (by decide) (by decide),fm n 7 1 (by decide) (by decide)]
 omega
theorem du {w b:Int} (h0:0≤w) (h1:w<72057594037927936) (h2:0≤b) (h3:b<256):nH w b=w*256+b:=by
 unfold nH
 simp only[rQ]
 omega
theorem vp {n:Int} (h0:0≤n) (h1:n<18446744073709551616):dm (dy n)=n:=by
 obtain⟨b0,b1,b2,b3,b4,b5,b6,b7,e,r0,r1,r2,r3,r4,r5,r6,r7,hs⟩:=xh h0 h1
 rw[e]
 unfold dm
 simp only[List.foldl_cons,List.foldl_nil]
 rw[du (w:=0) (by omega) (by omega) r0.1 r0.2,du (by omega) (by omega) r1.1 r1.2,du (by omega) (by omega) r2.1 r2.2,du (by omega) (by omega) r3.1 r3.2,
  du (by omega) (by omega) r4.1 r4.2,du (by omega) (by omega) r5.1 r5.2,du (by omega) (by omega) r6.1 r6.2,du (by omega) (by omega) r7.1 r7.2]
 omega
def fQ (l:List Int):Prop:=∀x∈l,0≤x∧x<18446744073709551616
theorem lU {n:Nat}:∀(L:List (List Int)),(∀l∈L,l.length=n)→∀k (hk:k<L.length),((L.flatten).drop (k*n)).take n=L[k]
 |[],_,k,hk=>by simp at hk
 |l::L,h,0,_=>by
   have:=h l List.mem_cons_self
   simp[←this]
 |l::L,h,k+1,hk=>by
   have h1:=h l List.mem_cons_self
   have ih:=lU L (fun x hx=>h x (List.mem_cons_of_mem _ hx)) k (by simpa using hk)
   rw[List.flatten_cons,Nat.succ_mul,Nat.add_comm,List.drop_append,List.drop_of_length_le (by omega),List.nil_append]
   have:n+k*n - l.length=k*n:=by omega
   rw[this]
   simpa using ih
theorem yl {n:Nat}:∀(L:List (List Int)),(∀l∈L,l.length=n)→L.flatten.length=L.length*n
 |[],_=>by simp
 |l::L,h=>by
   rw[List.flatten_cons,List.length_append,h l List.mem_cons_self,yl L (fun x hx=>h x (List.mem_cons_of_mem _ hx))]
   simp[Nat.succ_mul];omega
theorem Be {l:List Int} {w:Nat} (hl:l.length=w) (hf:fQ l):rowOf (dh l) w=l:=by
 by_cases h:l=[]
 ·subst h;simp at hl;subst hl;rfl
 ·unfold dh
  rw[if_neg h]
  apply List.ext_getElem
  ·simp[rowOf,hl]
  ·intro j h1 h2
   simp only[rowOf,List.getElem_map,List.getElem_range]
   have:=lU (n:=8) (l.map dy) (by intro x hx;obtain⟨y,_,rfl⟩:=List.mem_map.1 hx;exact bX y) j (by simpa using h2)
   rw[←List.flatMap_def] at this
   rw[Nat.mul_comm,this]
   simp only[List.getElem_map]
   exact vp (hf _ (List.getElem_mem h2)).1 (hf _ (List.getElem_mem h2)).2
theorem nT {l:List Int} {w:Nat} (hl:l.length=w) (hw:w≤16):(dh l).length=(bJ w).toNat∧0<(bJ w).toNat:=by
 unfold dh bJ
 by_cases h:l=[]
 ·subst h;simp at hl;subst hl;simp
 ·have:0<l.length:=List.length_pos_iff.2 h
  rw[if_neg h,if_neg (by omega),if_neg (by omega),qc]
  omega
theorem sq {L:List (List Int)} {w:Nat} (hw:w≤16) (hl:∀l∈L,l.length=w) (hf:∀l∈L,fQ l):lA (L.flatMap dh) w=L∧tE (L.flatMap dh) w=0:=by
 have hlen:∀l∈L.map dh,l.length=(bJ w).toNat:=by
  intro l h
  obtain⟨x,hx,rfl⟩:=List.mem_map.1 h
  exact(nT (hl x hx) hw).1
 have hn0:0<(bJ w).toNat:=(nT (l:=List.replicate w 0) (by simp) hw).2
 have htot:(L.flatMap dh).length=L.length*(bJ w).toNat:=by
  rw[List.flatMap_def,yl _ hlen];simp
 have hok:fu (L.flatMap dh) w=true:=by
  refine sh (by omega) ?_ ?_
  ·have e:bJ w=(((bJ w).toNat:Nat):Int):=by omega
   rw[e,htot,←Int.ofNat_tmod,Nat.mul_mod_left];rfl
  ·intro h0 k hk
   have h0':w=0:=by omega
   subst h0'
   have:∀x∈L.flatMap dh,x=0:=by
    intro x hx
    obtain⟨l,h1,h2⟩:=List.mem_flatMap.1 hx
    have:l=[]:=List.eq_nil_of_length_eq_zero (hl l h1)
    subst this
    simpa[dh] using h2
   simp only[List.getD,List.getElem?_eq_getElem hk,Option.getD_some]
   exact this _ (List.getElem_mem hk)
 unfold lA tE
 rw[hok,if_pos rfl,if_pos rfl,htot,Nat.mul_div_cancel _ hn0]
 refine⟨?_,rfl⟩
 apply List.ext_getElem
 ·simp[rowsOf]
 ·intro k h1 h2
  simp only[rowsOf,List.getElem_map,List.getElem_range]
  have:=lU (L.map dh) hlen k (by simpa using h2)
  rw[←List.flatMap_def] at this
  unfold cj
  rw[this]
  simp only[List.getElem_map,Int.toNat_natCast]
  exact Be (hl _ (List.getElem_mem h2)) (hf _ (List.getElem_mem h2))
theorem eW:∀{a b c:List Int},aF a b<0→aF b c<0→aF a c<0
 |[],[],_,h,_=>by simp[aF] at h
 |[],_::_,[],_,h=>by simp[aF] at h
 |[],_::_,_::_,_,_=>by simp[aF]
 |_::_,[],_,h,_=>by simp[aF] at h
 |_::_,_::_,[],_,h=>by simp[aF] at h
 |x::a,y::b,z::c,h1,h2=>by
   simp only[aF] at h1 h2 ⊢
   have ih:=@eW a b c
   split at h1
   ·split at h2
    ·rw[if_pos (by omega)];decide
    ·split at h2
     ·omega
     ·rw[if_pos (by omega)];decide
   ·split at h1
    ·omega
    ·split at h2
     ·rw[if_pos (by omega)];decide
     ·split at h2
      ·omega
      ·rw[if_neg (by omega),if_neg (by omega)];exact ih h1 h2
theorem GJ {a b:List Int}:0<aF a b↔aF b a<0:=by rw[cI b a];omega
theorem cE (a:List Int):aF a a=0:=cG.2 rfl
structure fR (W:Nat) (rs:List (List Int)):Prop where
 len:∀l∈rs,l.length=W
 fit:∀l∈rs,fQ l
 up:∀i,i+1<rs.length→aF (rs.getD i []) (rs.getD (i+1) [])<0
def yq (W:Nat):Nat:=if W=0 then 1 else 8*W
def cg (W:Nat):Nat:=504/yq W
theorem G2 (W:Nat):1≤yq W:=by unfold yq;split<;>omega
theorem bR {W:Nat} (h1:0≤W) (h2:W≤16):aU W=((cg W:Nat):Int)∧3≤cg W∧cg W*yq W≤504∧cg W≤504:=by
 have hs:bJ W=(yq W:Int):=by
  unfold bJ yq
  rw[if_neg (by omega)]
  by_cases h:W=0
  ·rw[if_pos (by omega),if_pos h];rfl
  ·rw[if_neg (by omega),if_neg h];omega
 have hp:=G2 W
 have hm:yq W≤128:=by unfold yq;split<;>omega
 refine⟨?_,?_,Nat.div_mul_le_self _ _,Nat.div_le_self _ _⟩
 ·unfold aU
  rw[if_neg (by rw[hs];omega),hs,Int.tdiv_eq_ediv_of_nonneg (by omega)]
  exact(Int.natCast_ediv 504 (yq W)).symm
 ·unfold cg
  rw[Nat.le_div_iff_mul_le (by omega)];omega
def iu (l:List Int):List UInt8:=dL (dh l)
theorem xZ {l:List Int} (h:l≠[]):(iu l).length=8*l.length:=by
 unfold iu dh
 rw[if_neg h,dH,List.length_flatMap]
 have:∀l:List Int,(l.map fun x=>(dy x).length).sum=8*l.length:=by
  intro l
  induction l with
  |nil=>rfl
  |cons x l ih=>rw[List.map_cons,List.sum_cons,ih];simp[dy];omega
 exact this l
def dw (L:List (List Int)):List UInt8:=L.flatMap iu
theorem Ci {l:List Int} {W:Nat} (h:l.length=W):(iu l).length=yq W:=by
 unfold yq
 by_cases q:W=0
 ·rw[if_pos q]
  have:l=[]:=List.eq_nil_of_length_eq_zero (by omega)
  subst this;rfl
 ·rw[if_neg q,xZ (by intro e;rw[e] at h;simp at h;omega),h]
theorem kg {W:Nat} (hW:0≤W):∀{L:List (List Int)},(∀l∈L,l.length=W)→(dw L).length=L.length*yq W
 |[],_=>by simp[dw]
 |a::L,h=>by
   have h2:=kg hW (L:=L) fun l hl=>h l (List.mem_cons_of_mem _ hl)
   have h3:(iu a).length=yq W:=Ci (h a List.mem_cons_self)
   unfold dw at h2 ⊢
   rw[List.flatMap_cons,List.length_append,h2,h3,List.length_cons,Nat.add_mul]
   omega
theorem uZ:∀(L:List (List Int)),ie (dw L)=L.flatMap dh
 |[]=>rfl
 |a::L=>by
   have:=uZ L
   unfold dw at this ⊢
   rw[List.flatMap_cons,List.flatMap_cons,←this]
   unfold ie
   rw[List.map_append]
   congr 1
   exact lX (ka a)
def df (rs:List (List Int)) (room k:Nat):List (List Int):=(rs.drop (k*room)).take room
def runT (rs:List (List Int)) (room:Nat):Nat→UInt8×List UInt8
 |0=>(0,[])
 |k+1=>(1,dw (df rs room k))
theorem E4 {i room:Nat} (hr:1≤room):(i%room+1<room∧(i+1)/room=i/room∧(i+1)%room=i%room+1)∨(i%room+1=room∧(i+1)/room=i/room+1∧(i+1)%room=0):=by
 have h1:=Nat.mod_lt i hr
 have h2:=Nat.div_add_mod i room
 rcases Nat.lt_or_ge (i%room+1) room with h|h
 ·left
  have e:i+1=room*(i/room)+(i%room+1):=by omega
  refine⟨h,?_,?_⟩
  ·rw[e,Nat.mul_add_div hr,Nat.div_eq_of_lt h];simp
  ·rw[e,Nat.mul_add_mod,Nat.mod_eq_of_lt h]
 ·right
  have e:i+1=room*(i/room+1):=by rw[Nat.mul_add];omega
  refine⟨by omega,?_,?_⟩
  ·rw[e,Nat.mul_div_cancel_left _ hr]
  ·rw[e,Nat.mul_mod_right]
section
variable {p:Pl} {w:RW} {n:ByteArray} {W:Nat} {rs:List (List Int)} {q i:Nat}
end
open Go.MapKept
structure Hx where
 no:Nat
 sl:Sl
 ptr:Option Addr
 row:List Int
def CK (x:Hx):List Value:=[.int .i64 (x.no:Int),x.sl.v,.pointer x.ptr]
def JC:gr Hx:=⟨3,CK,fun _=>rfl,fun x u hu=>by
 simp[CK] at hu
 rcases hu with rfl|rfl|rfl<;>rfl⟩
theorem KQ:y8 Tryz.prog Ku jO 3 40:=kS (by kernel_rfl)
theorem vg [Tab]:(zc Tryz.prog jO).size=3:=by kernel_rfl
theorem kW:lI Tryz.prog jO 3=true:=by kernel_rfl
theorem zf:bQ Tryz.prog C0.no=true:=by kernel_rfl
def ahead (a b:Hx):Prop:=aF a.row b.row<0∨(aF a.row b.row=0∧a.no<b.no)
instance (a b:Hx):Decidable (ahead a b):=by unfold ahead;exact inferInstance
theorem fw:Ord ahead:=by
 refine⟨fun a b h k=>?_,fun a b c h k l=>?_⟩
 ·have:=cI a.row b.row
  rcases h with h|⟨h,h2⟩<;>rcases k with k|⟨k,k2⟩<;>omega
 ·unfold ahead at h k l
  have s1:=cI a.row b.row
  have s2:=cI b.row c.row
  have s3:=cI a.row c.row
  rcases Int.lt_trichotomy (aF a.row b.row) 0 with u|u|u
  ·exact h (.inl u)
  ·rw[cG.1 u] at l s3
   rcases Int.lt_trichotomy (aF b.row c.row) 0 with v|v|v
   ·exact k (.inl v)
   ·have h2:¬a.no<b.no:=fun q=>h (.inr ⟨u,q⟩)
    have k2:¬b.no<c.no:=fun q=>k (.inr ⟨v,q⟩)
    rcases l with l|⟨_,l⟩<;>omega
   ·rcases l with l|⟨l,_⟩<;>omega
  ·have hba:aF b.row a.row<0:=by omega
   rcases Int.lt_trichotomy (aF b.row c.row) 0 with v|v|v
   ·exact k (.inl v)
   ·rw[←cG.1 v] at l
    rcases l with l|⟨l,_⟩<;>omega
   ·have hcb:aF c.row b.row<0:=by omega
    have:=eW hcb hba
    rcases l with l|⟨l,_⟩<;>omega
section
variable {H:aa}
theorem Em [Tab] {a b:Hx} {K:Bool→aa→Prop} (ha:Ints .u64 H a.sl a.row) (hb:Ints .u64 H b.sl b.row) (hl:a.row.length<1099511627776) (hK:∀H',Ext H H'→K (decide (ahead a b)) H'):C0.sp a.no a.sl a.ptr b.no b.sl b.ptr H K:=by
 refine C0.of ?_
 unfold C0.vc
 refine ak fun H1 z1 r1 e1=>?_
 refine ak fun H2 z2 r2 e2=>?_
 have e12:Ext H H2:=e1.trans e2
 have hK:=hK H2 e12
 refine ag.ld (c:=an) (i:=1) (x:=a.sl) (r1.ext e2) rfl ?_
 refine ag.ld (c:=an) (i:=1) (x:=b.sl) r2 rfl ?_
 refine iE (ha.ext e12) (hb.ext e12) hl ?_
 refine aj (fun hc=>?_) (fun hc=>?_)
 ·have h1:¬aF a.row b.row<0:=by simpa using hc
  refine aj (fun hc2=>?_) (fun hc2=>?_)
  ·have h2:aF a.row b.row=0:=by simpa using hc2
   refine ag.ld (c:=ab .i64) (i:=0) (x:=(a.no:Int)) (r1.ext e2) rfl ?_
   refine ag.ld (c:=ab .i64) (i:=0) (x:=(b.no:Int)) r2 rfl ?_
   have:decide ((a.no:Int)<(b.no:Int))=decide (ahead a b):=by
    unfold ahead
    refine decide_eq_decide.2 ⟨fun q=>.inr ⟨h2,by omega⟩,fun q=>?_⟩
    rcases q with q|⟨_,q⟩<;>omega
   rw[this];exact hK
  ·have h2:¬aF a.row b.row=0:=by simpa using hc2
   have:false=decide (ahead a b):=(decide_eq_false (fun q=>by rcases q with q|⟨q,_⟩;exact h1 q;exact h2 q)).symm
   rw[this];exact hK
 ·have h1:aF a.row b.row<0:=by simpa using hc
  have:true=decide (ahead a b):=(decide_eq_true (.inl h1)).symm
  rw[this];exact hK
set_option maxRecDepth 100000 in
theorem uT [Tab] {a b:Hx} {K:Bool→aa→Prop} (ha:Ints .u64 H a.sl a.row) (hb:Ints .u64 H b.sl b.row) (hl:a.row.length<1099511627776) (hK:∀H',Ext H H'→K (decide (ahead a b)) H'):
  ur Tryz.prog (.func (.func C0.no) #[] #[]) [(.agg #[(.int .i64 (a.no:Int)),a.sl.v,(.pointer a.ptr)]),(.agg #[(.int .i64 (b.no:Int)),b.sl.v,(.pointer b.ptr)])] H K:=
 xP #[(.agg #[(.int .i64 (a.no:Int)),a.sl.v,(.pointer a.ptr)]),(.agg #[(.int .i64 (b.no:Int)),b.sl.v,(.pointer b.ptr)])] rfl zf (Em ha hb hl hK)
def uA:Value:=.func (.func C0.no) #[] #[]
structure me (H:aa) (kh:Nat) (s:Sl) (L:List Hx):Prop where
 row:ag H kh J3 #[s.v,uA]
 els:bc JC jO H s L
 own:∀x∈L,au H 0 fx 1 x.sl (x.row.map (Value.int .u64))
 few:∀x∈L,x.row.length≤16
variable {kh:Nat} {s:Sl} {L:List Hx}
theorem me.off (h:me H kh s L):¬ai s kh:=fun q=>by
 obtain⟨cur,hc⟩:=h.els.obj kh q
 exact absurd (aR hc h.row) (by decide)
theorem me.j3 {x:Hx} (h:me H kh s L) (hx:au H 0 fx 1 x.sl (x.row.map (Value.int .u64))):∀b,ai x.sl b→b≠kh∧¬ai s b:=fun b hb=>by
 refine⟨fun q=>?_,fun q=>hx.apart h.els (by decide) b hb q⟩
 subst q
 obtain⟨cur,hc⟩:=hx.obj b hb
 exact absurd (aR hc h.row) (by decide)
theorem me.mod [Tab] {G:Nat→Prop} {H':aa} (h:me H kh s L) (m:Mod G H H') (h1:¬G kh) (h2:∀b,ai s b→¬G b) (h3:∀x∈L,∀b,ai x.sl b→¬G b):me H' kh s L:=
 ⟨h.row.mod m h1,h.els.mod m h2,fun x hx=>(h.own x hx).mod m (h3 x hx),h.few⟩
theorem me.ext [Tab] {H':aa} (h:me H kh s L) (e:Ext H H'):me H' kh s L:=h.mod e id (fun _ _=>id) fun _ _ _ _=>id
theorem me.get [Tab] (h:me H kh s L) {i:Nat} {x:Hx} (hi:L[i]?=some x):∃ad,s.a=some ad∧i<s.n∧∀{n:Nat} {K:(Int×Sl×Option Addr)→Prop},n=i*3→K ((x.no:Int),x.sl,x.ptr)→db (bq [(ab .i64),an,ar]) 3 H (ad.add n) K:=by
 obtain⟨ad,ha⟩:=h.els.rd.addr (by decide) (by have:=(List.getElem?_eq_some_iff.1 hi).1;omega)
 have hn:=bc.n h.els (by decide)
 refine⟨ad,ha,by rw[hn];exact(List.getElem?_eq_some_iff.1 hi).1,fun hn hK=>h.els.rd.db ha hi (y:=((x.no:Int),x.sl,x.ptr)) rfl hn rfl hK⟩
theorem me.put [Tab] {y:Hx} (h:me H kh s L) {i:Nat} (hi:i<L.length) (hy:au H 0 fx 1 y.sl (y.row.map (Value.int .u64))) (hy16:y.row.length≤16) {ad:Addr} (ha:s.a=some ad) {n:Nat} (hn:n=i*3) {K:aa→Prop} (hK:∀H',me H' kh s (L.set i y)→Mod (ai s) H H'→K H'):
  iI Tryz.prog (Instr.storeAt jO (.pointer (some (ad.add n))) (.agg #[(.int .i64 (y.no:Int)),y.sl.v,(.pointer y.ptr)])) H K:=by
 refine bc.Ki (y:=y) h.els ha hi rfl kW hn fun H' o m z=>hK H' ⟨h.row.mod m h.off,o,fun x hx=>?_,fun x hx=>?_⟩ m
 ·rcases List.mem_or_eq_of_mem_set hx with q|q
  ·exact(h.own x q).mod m fun b hb=>(h.j3 (h.own x q) b hb).2
  ·subst q;exact hy.mod m fun b hb=>(h.j3 hy b hb).2
 ·rcases List.mem_or_eq_of_mem_set hx with q|q
  ·exact h.few x q
  ·subst q;exact hy16
theorem me.ints {x:Hx} (h:me H kh s L) (hx:x∈L):Ints .u64 H x.sl x.row:=(h.own x hx).ints
theorem KR {k:Nat} (h0:0<k) (hk:k<1099511627776):IntKind.i64.wrap (Int.tdiv (IntKind.i64.wrap ((k:Int) - 1)) 2)=(((k - 1)/2:Nat):Int):=by
 rw[wrap64 (x:=(k:Int) - 1) (by omega) (by omega)]
 have e:(k:Int) - 1=((k - 1:Nat):Int):=by omega
 rw[e,Int.tdiv_eq_ediv_of_nonneg (by omega),wrap64 (by omega) (by omega)]
 omega
set_option maxRecDepth 100000 in
theorem EZ [Tab] {x:Hx} {K:Unit→aa→Prop} (h:me H kh s L) (hp:Hp ahead L) (hx:au H 0 fx 1 x.sl (x.row.map (Value.int .u64))) (hx16:x.row.length≤16) (hl:L.length≤1000000)
  (hK:∀s' L' H',me H' kh s' L'→Hp ahead L'→L'.Perm (L++[x])→Mod (fun b=>b=kh∨ai s b) H H'→(∀b,ai s' b→ai s b∨H.size≤b)→K () H'):Ie.sp (aI kh) (x.no:Int) x.sl x.ptr H K:=by
 refine Ie.of ?_
 unfold Ie.vc
 unfold aI
 simp only[av]
 refine ak fun H1 z1 r1 e1=>?_
 have h1:=h.ext e1
 refine⟨fun A=>ag A kh J3 #[s.v,uA],h1.row,?_⟩
 refine ag.jm (c:=an) (i:=0) (x:=s) (cs:=fun _=>_) (fun _ q=>q) (fun _ _=>rfl) ?_
 refine ag.db (x:=((x.no:Int),x.sl,x.ptr)) r1 rfl rfl ?_
 have hlen:L.length+1≤1000001:=by omega
 refine bc.JZ (E:=JC) (x:=x) KQ h1.els rfl (by omega) (by omega) (fun A=>ag A kh J3 #[s.v,uA]) (fun A _ e=>h1.row.ext e) fun s' H3 o3 g3 _=>?_
 have m3:=g3.1
 have r3:ag H3 kh J3 #[s.v,uA]:=h1.row.mod m3 h1.off
 have lt:=aL h.row
 have off':¬ai s' kh:=fun q=>by
  rcases g3.2 kh q with u|u
  ·exact h.off u
  ·omega
 refine ag.st r3 (i:=0) (by simp) rfl fun H4 r4 m4 z4=>?_
 have o4:bc JC jO H4 s' (L++[x]):=o3.mod m4 fun b hb q=>off' (q▸hb)
 have hx1:=hx.ext e1
 have h4:me H4 kh s' (L++[x]):=by
  refine⟨r4,o4,fun y hy=>?_,fun y hy=>?_⟩
  ·rcases List.mem_append.1 hy with q|q
   ·have hy1:=h1.own y q
    have hof:=h1.j3 hy1
    exact(hy1.mod m3 fun b hb=>(hof b hb).2).mod m4 fun b hb=>(hof b hb).1
   ·rw[List.mem_singleton] at q
    subst q
    have hof:=h1.j3 hx1
    exact(hx1.mod m3 fun b hb=>(hof b hb).2).mod m4 fun b hb=>(hof b hb).1
  ·rcases List.mem_append.1 hy with q|q
   ·exact h.few y q
   ·rw[List.mem_singleton] at q
    subst q;exact hx16
 have m04:Mod (fun b=>b=kh∨ai s b) H H4:=((Ext.mod e1).trans' m3 fun b _ q=>.inr q).trans' m4 fun b _ q=>.inl q
 have own':∀b,ai s' b→ai s b∨H.size≤b:=fun b hb=>(g3.2 b hb).imp_right fun q=>by omega
 refine ag.ld (c:=an) (i:=0) (x:=s') r4 rfl ?_
 have hn:s'.n=L.length+1:=by rw[bc.n o4 (by decide)];simp
 have e0:IntKind.i64.wrap ((s'.n:Int) - 1)=(L.length:Int):=by rw[hn,wrap64 (by omega) (by omega)];omega
 rw[e0]
 have hown:∀b,b<H.size→ai s' b→ai s b:=fun b hb q=>(own' b q).resolve_right (by omega)
 refine⟨Nat,fun k i A=>i=(k:Int)∧∃L',k<L'.length∧L'.length=L.length+1∧me A kh s' L'∧DP ahead L' k∧L'.Perm (L++[x])∧Mod (fun b=>b=kh∨ai s b) H A,fun k=>k,⟨L.length,rfl,L++[x],by simp,by simp,h4,Gr hp x,.refl _,m04⟩,?_⟩
 rintro k i A ⟨rfl,L',k1,k2,hA,hU,hP,mA⟩
 refine aj (fun hc=>?_) (fun hc=>?_)
 ·have k0 : 0 < k := by have : (k : Int) > 0 := by simpa using hc
                        omega
  rw[KR k0 (by omega)]
  obtain⟨a,ga⟩:∃a,L'[k]?=some a:=⟨_,List.getElem?_eq_getElem k1⟩
  obtain⟨b,gb⟩:∃b,L'[(k - 1)/2]?=some b:=⟨_,List.getElem?_eq_getElem (by omega)⟩
  have ma:=List.mem_of_getElem? ga
  have mb:=List.mem_of_getElem? gb
  obtain⟨ad,had,na,la⟩:=hA.get ga
  obtain⟨ad',had',nb,lb⟩:=hA.get gb
  rw[had] at had';cases had'
  refine ag.ld (c:=eO) (i:=1) (x:=uA) hA.row rfl ?_
  refine ag.ld (c:=an) (i:=0) (x:=s') hA.row rfl ?_
  refine bT ad had ⟨⟨by omega,by omega⟩,la (by rw[Int.toNat_natCast]) ?_⟩
  refine ag.ld (c:=an) (i:=0) (x:=s') hA.row rfl ?_
  refine bT ad had ⟨⟨by omega,by omega⟩,lb (by rw[Int.toNat_natCast]) ?_⟩
  refine uT (hA.ints ma) (hA.ints mb) (by have:=hA.few a ma;omega) fun B eB=>?_
  have hB:=hA.ext eB
  have mB:Mod (fun b=>b=kh∨ai s b) H B:=mA.trans' eB fun _ _ q=>q.elim
  refine aj (fun hc=>?_) (fun hc=>?_)
  ·have hn:¬ahead a b:=by simpa using hc
   exact hK s' L' B hB (rJ hU fun a' b' _ ha' hb'=>by rw[ga] at ha';cases ha';rw[gb] at hb';cases hb';exact hn) hP mB own'
  ·have hlt:ahead a b:=by simpa using hc
   refine ag.ld (c:=an) (i:=0) (x:=s') hB.row rfl ?_
   refine ag.ld (c:=an) (i:=0) (x:=s') hB.row rfl ?_
   refine ag.ld (c:=an) (i:=0) (x:=s') hB.row rfl ?_
   obtain⟨ad1,had1,na1,la1⟩:=hB.get ga
   obtain⟨ad2,had2,nb1,lb1⟩:=hB.get gb
   rw[had] at had1;cases had1
   rw[had] at had2;cases had2
   refine bT ad had ⟨⟨by omega,by omega⟩,lb1 (by rw[Int.toNat_natCast]) ?_⟩
   refine ag.ld (c:=an) (i:=0) (x:=s') hB.row rfl ?_
   refine bT ad had ⟨⟨by omega,by omega⟩,la1 (by rw[Int.toNat_natCast]) ?_⟩
   refine bT ad had ⟨⟨by omega,by omega⟩,?_⟩
   refine hB.put (y:=b) k1 (hB.own b mb) (hB.few b mb) had (by rw[Int.toNat_natCast]) fun C hC mC=>?_
   refine bT ad had ⟨⟨by omega,by omega⟩,?_⟩
   refine hC.put (y:=a) (i:=(k - 1)/2) (by simp;omega) ((hB.own a ma).mod mC fun q hq=>(hB.j3 (hB.own a ma) q hq).2) (hB.few a ma) had (by rw[Int.toNat_natCast]) fun D hD mD=>?_
   refine⟨(k - 1)/2,⟨rfl,_,by simp;omega,by simp;omega,hD,zX fw hU k0 ga gb hlt,(swap_perm ga gb).trans hP,?_⟩,by show (k - 1)/2<k;omega⟩
   have own2:∀q,q<H.size→ai s' q→q=kh∨ai s q:=fun q hq u=>.inr (hown q hq u)
   exact(mB.trans' mC own2).trans' mD own2
 ·have k0 : k = 0 := by have : ¬ (k : Int) > 0 := by simpa using hc
                        omega
  subst k0
  exact hK s' L' A hA (rJ hU fun _ _ q=>absurd q (Nat.lt_irrefl _)) hP mA own'
theorem AA {k c:Nat} (hk:k<1099511627776) (hc:c<3):IntKind.i64.wrap (IntKind.i64.wrap (2*(k:Int))+(c:Int))=((2*k+c:Nat):Int):=by
 rw[wrap64 (x:=2*(k:Int)) (by omega) (by omega),wrap64 (by omega) (by omega)]
 omega
set_option maxRecDepth 100000 in
theorem zv (a b:Int) (j:Nat) (hj:j<2) {K:Int→Prop} (hK:K (if j=0 then a else b)):rS (ab .i64) Tryz.prog (Instr.index KW (.agg #[(.int .i64 a),(.int .i64 b)]) (.int .i64 (j:Int))) K:=by
 refine⟨_,fun w=>?_,hK⟩
 rcases (show j=0∨j=1 by omega) with rfl|rfl<;>rfl
structure iv (L:List Hx) (n k j c:Nat):Prop where
 lt:c=k∨c<n
 at_:c=k∨((c - 1)/2=k∧0<c∧∀a x,L[k]?=some a→L[c]?=some x→ahead x a)
 least:∀d y x,(d=k∨(2*k<d∧d≤2*k+j))→L[d]?=some y→L[c]?=some x→¬ahead y x
theorem JG (x:Hx):¬ahead x x:=fun q=>fw.asym _ _ q q
theorem iv.first {n k:Nat}:iv L n k 0 k:=
 ⟨.inl rfl,.inl rfl,fun d y x hd hy hx=>by
  have:d=k:=by omega
  subst this
  rw[hy] at hx;cases hx;exact JG _⟩
theorem iv.skip [Tab] {n k j c:Nat} (h:iv L n k j c) (hs:∀y x,L[2*k+(j+1)]?=some y→L[c]?=some x→¬ahead y x):iv L n k (j+1) c:=
 ⟨h.lt,h.at_,fun d y x hd hy hx=>by
  by_cases e:d=2*k+(j+1)
  ·subst e;exact hs y x hy hx
  ·exact h.least d y x (by omega) hy hx⟩
theorem iv.take [Tab] {n k j c:Nat} {z x0 a:Hx} (h:iv L n k j c) (hj:j<2) (hn:2*k+(j+1)<n) (hz:L[2*k+(j+1)]?=some z) (hx0:L[c]?=some x0) (ha:L[k]?=some a) (hl:ahead z x0):iv L n k (j+1) (2*k+(j+1)):=by
 refine⟨.inr hn,.inr ⟨by omega,by omega,fun a' x' ha' hx'=>?_⟩,fun d y x hd hy hx=>?_⟩
 ·rw[ha] at ha';cases ha'
  rw[hz] at hx';cases hx'
  rcases h.at_ with q|⟨_,_,q⟩
  ·subst q
   rw[ha] at hx0;cases hx0;exact hl
  ·refine Classical.byContradiction fun u=>?_
   exact fw.trans _ _ _ u (fw.asym _ _ (q _ _ ha hx0)) hl
 ·rw[hz] at hx;cases hx
  by_cases e:d=2*k+(j+1)
  ·subst e
   rw[hz] at hy;cases hy;exact JG _
  ·exact fw.trans _ _ _ (h.least d y x0 (by omega) hy hx0) (fw.asym _ _ hl)
theorem EX (a:Option Addr) (c k:Nat):dM a c 0 k=a:=by
 unfold dM
 split
 ·rfl
 ·cases a<;>simp[add_zero']
theorem bc.cut [Tab] {α:Type} {E:gr α} {e:TypeId} {s:Sl} {l:List α} (h:bc E e H s l) (hs:0<E.size) {n:Nat} (hn:n≤l.length):bc E e H ⟨s.a,n,s.c⟩ (l.take n):=by
 have hsn:=bc.n h hs
 refine⟨by rw[E.dV,List.length_take];show min n l.length*E.size=n*E.size;rw[Nat.min_eq_left hn],?_⟩
 rcases h.2 with ⟨e1,e2⟩|⟨g,cap,cur,e1,hb,hg,h4,h5,h6,h7⟩
 ·refine .inl ⟨?_,?_⟩
  ·cases s;simp only[Sl.v,Value.slice.injEq] at e1 ⊢;simp only at e2 hsn;exact⟨e1.1,by omega,e1.2.2⟩
  ·show n=0;omega
 ·refine .inr ⟨g,cap,cur,?_,hb,hg,?_,h5,h6,?_⟩
  ·cases s;simp only[Sl.v,Value.slice.injEq] at e1 ⊢;exact⟨e1.1,trivial,e1.2.2⟩
  ·show n≤cap;omega
  ·show cur.toList.take (n*E.size)=_
   rw[←E.sN,←h7,List.take_take]
   congr 1
   have:n*E.size≤s.n*E.size:=Nat.mul_le_mul_right _ (by omega)
   rw[Nat.min_eq_left this]
set_option maxRecDepth 100000 in
set_option maxHeartbeats 1000000 in
theorem Gs [Tab] {top:Hx} {K:(Int×Sl×Option Addr)→aa→Prop} (h:me H kh s L) (hp:Hp ahead L) (ht:L[0]?=some top) (hl:L.length≤1000000)
  (hK:∀s' L' H',me H' kh s' L'→Hp ahead L'→L.Perm (top::L')→Mod (fun b=>b=kh∨ai s b) H H'→(∀b,ai s' b→ai s b)→K ((top.no:Int),top.sl,top.ptr) H'):Hw.sp (aI kh) H K:=by
 refine Hw.of ?_
 unfold Hw.vc
 unfold aI
 simp only[av]
 have h0:=(List.getElem?_eq_some_iff.1 ht).1
 obtain⟨n,hn⟩:∃n,L.length=n+1:=⟨L.length - 1,by omega⟩
 have hsn:s.n=n+1:=by rw[bc.n h.els (by decide)];exact hn
 have ew:IntKind.i64.wrap ((s.n:Int) - 1)=(n:Int):=by rw[hsn,wrap64 (by omega) (by omega)];omega
 have hlt:=aL h.row
 refine ak fun H1 z1 r1 e1=>?_
 have h1:=h.ext e1
 refine⟨fun A=>me A kh s L,h1,?_⟩
 refine ag.jm (c:=an) (i:=0) (x:=s) (cs:=fun _=>_) (fun _ q=>q.row) (fun _ _=>rfl) ?_
 obtain⟨ad,had,_,_⟩:=h.get ht
 refine bT ad had ⟨⟨by omega,by omega⟩,((top.no:Int),top.sl,top.ptr),fun A hA=>?_,?_⟩
 ·have:=hA.els.rd.row had ht
  exact this
 refine ag.jm (c:=an) (i:=0) (x:=s) (cs:=fun _=>_) (fun _ q=>q.row) (fun _ _=>rfl) ?_
 refine ak fun H2 z2 r2 e2=>?_
 refine⟨h1.ext e2,?_⟩
 refine ag.kM (cs:=(CK top).toArray) r2 kW vg (fun v hv=>JC.one top v (show v∈CK top by simpa using hv)) fun H3 r3 m3 z3=>?_
 have e3:Ext H H3:=⟨by have:=m3.size;omega,fun b hb _=>(m3.same b (by omega) (by intro q;have:b=H1.size:=q;omega)).trans ((e2.same b (by omega) id).trans (e1.same b hb id))⟩
 have h3:=h.ext e3
 have p3:ag H3 H.size jO (zc Tryz.prog jO):=(r1.ext e2).mod m3 (by intro q;have:H.size=H1.size:=q;omega)
 refine⟨h3,?_⟩
 refine ag.ld (c:=an) (i:=0) (x:=s) h3.row rfl ?_
 refine ag.ld (c:=an) (i:=0) (x:=s) h3.row rfl ?_
 simp only[ew,Int.toNat_natCast,Nat.sub_zero,EX]
 obtain⟨z,hz⟩:∃z,L[n]?=some z:=⟨_,List.getElem?_eq_getElem (by omega)⟩
 have mz:=List.mem_of_getElem? hz
 obtain⟨ad',had',_,lz⟩:=h3.get hz
 rw[had] at had';cases had'
 refine bT ad had ⟨⟨by omega,by omega⟩,lz rfl ?_⟩
 refine bT ad had ⟨⟨by omega,by omega⟩,?_⟩
 refine h3.put (y:=z) (i:=0) h0 (h3.own z mz) (h3.few z mz) had (by simp) fun H4 h4 m4=>?_
 refine ag.ld (c:=an) (i:=0) (x:=s) h4.row rfl ?_
 refine⟨⟨by omega,by have:=au.cap h4.els;omega⟩,?_⟩
 refine ag.st h4.row (i:=0) (by simp) rfl fun H5 r5 m5 z5=>?_
 have s2v:(.slice s.a n s.c:Value)=(Sl.mk s.a n s.c).v:=rfl
 rw[s2v] at r5
 obtain⟨s2,hs2⟩:∃s2,s2=Sl.mk s.a n s.c:=⟨_,rfl⟩
 rw[←hs2] at r5
 have own2:∀b,ai s2 b→ai s b:=fun b hb=>by rw[hs2] at hb;exact hb
 have cut4:bc JC jO H4 s2 ((L.set 0 z).take n):=by
  rw[hs2];exact bc.cut h4.els (by decide) (by simp;omega)
 have hoff:=h4.off
 have h5:me H5 kh s2 ((L.set 0 z).take n):=by
  refine⟨r5,cut4.mod m5 fun b hb q=>hoff (q▸own2 b hb),fun x hx=>?_,fun x hx=>h4.few x (List.mem_of_mem_take hx)⟩
  have hx4:=h4.own x (List.mem_of_mem_take hx)
  exact hx4.mod m5 fun b hb=>(h4.j3 hx4 b hb).1
 obtain⟨dn,pm⟩:=I8 hp hn ht hz
 have m05:Mod (fun b=>b=kh∨ai s b) H H5:=((Ext.mod e3).trans' m4 fun b _ q=>.inr q).trans' m5 fun b _ q=>.inl q
 have hp5:∀b,b=H.size∨b=H1.size→¬(b=kh∨ai s b):=fun b hb q=>by
  rcases q with q|q
  ·omega
  ·have:=h.els.lt b q;omega
 have top3:ag H3 H1.size jO (CK top).toArray:=r3
 have keep5:∀{b:Nat} {cs:Array Value},(b=H.size∨b=H1.size)→ag H3 b jO cs→ag H5 b jO cs:=fun hb r=>
  (r.mod m4 fun q=>hp5 _ hb (.inr q)).mod m5 fun q=>hp5 _ hb (.inl q)
 have p5:=keep5 (.inl rfl) p3
 have t5:=keep5 (.inr rfl) top3
 have hlen0:((L.set 0 z).take n).length=n:=by simp;omega
 refine⟨Nat,fun k i A=>i=(k:Int)∧(k=0∨k<n)∧∃L',L'.length=n∧me A kh s2 L'∧Ep ahead L' k∧L'.Perm ((L.set 0 z).take n)∧Mod (fun b=>b=kh∨ai s b) H A∧ag A H.size jO (zc Tryz.prog jO)∧ag A H1.size jO (CK top).toArray,fun k=>n+1 - k,
  ⟨0,rfl,.inl rfl,_,hlen0,h5,dn,.refl _,m05,p5,t5⟩,?_⟩
 rintro k i A ⟨rfl,hk,L',hl',hA,hD,hP,mA,pA,tA⟩
 have hsn2:s2.n=n:=by rw[hs2]
 refine⟨Nat,fun j w B=>w.2=(j:Int)∧j≤2∧∃c:Nat,w.1=(c:Int)∧iv L' n k j c∧Ext A B,fun j=>2 - j,⟨0,rfl,by omega,k,rfl,.first,.refl _ _⟩,?_⟩
 rintro j ⟨c0,j0⟩ B ⟨hj,j2,c,hc,hL,eB⟩
 simp only at hj hc
 subst hj
 subst hc
 have hB:=hA.ext eB
 simp only
 refine aj (fun hc=>?_) (fun hc=>?_)
 ·have hj2 : j < 2 := by have : (j : Int) < 2 := by simpa using hc
                         omega
  refine zv _ _ j hj2 ?_
  have ey:(if j=0 then IntKind.i64.wrap (IntKind.i64.wrap (2*(k:Int))+1) else IntKind.i64.wrap (IntKind.i64.wrap (2*(k:Int))+2))=((2*k+(j+1):Nat):Int):=by
   have h1:=AA (k:=k) (c:=1) (by omega) (by decide)
   have h2:=AA (k:=k) (c:=2) (by omega) (by decide)
   rcases (show j=0∨j=1 by omega) with rfl|rfl
   ·rw[if_pos rfl];exact h1
   ·rw[if_neg (by decide)];exact h2
  rw[ey]
  have ej:IntKind.i64.wrap ((j:Int)+1)=((j+1:Nat):Int):=aP j (by omega)
  rw[ej]
  refine aj (fun hc=>?_) (fun hc=>?_)
  ·have hy : 2 * k + (j + 1) < n := by have : ((2 * k + (j + 1) : Nat) : Int) < (n : Int) := by simpa using hc
                                       omega
   have hcn:c<n:=by rcases hL.lt with q|q<;>omega
   obtain⟨y,gy⟩:∃y,L'[2*k+(j+1)]?=some y:=⟨_,List.getElem?_eq_getElem (by omega)⟩
   obtain⟨x0,gx⟩:∃x0,L'[c]?=some x0:=⟨_,List.getElem?_eq_getElem (by omega)⟩
   obtain⟨a0,ga⟩:∃a0,L'[k]?=some a0:=⟨_,List.getElem?_eq_getElem (by omega)⟩
   have my:=List.mem_of_getElem? gy
   have mx:=List.mem_of_getElem? gx
   obtain⟨ad1,had1,_,ly⟩:=hB.get gy
   obtain⟨ad2,had2,_,lx⟩:=hB.get gx
   rw[had1] at had2;cases had2
   refine ag.ld (c:=eO) (i:=1) (x:=uA) hB.row rfl ?_
   refine ag.ld (c:=an) (i:=0) (x:=s2) hB.row rfl ?_
   refine bT ad1 had1 ⟨⟨by omega,by omega⟩,ly (by rw[Int.toNat_natCast]) ?_⟩
   refine ag.ld (c:=an) (i:=0) (x:=s2) hB.row rfl ?_
   refine bT ad1 had1 ⟨⟨by omega,by omega⟩,lx (by rw[Int.toNat_natCast]) ?_⟩
   refine uT (hB.ints my) (hB.ints mx) (by have:=hB.few y my;omega) fun C eC=>?_
   have eAC:=eB.trans eC
   refine aj (fun hc=>?_) (fun hc=>?_)
   ·have hlt:ahead y x0:=by simpa using hc
    exact⟨j+1,⟨rfl,by omega,_,rfl,hL.take hj2 hy gy gx ga hlt,eAC⟩,by omega⟩
   ·have hge:¬ahead y x0:=by simpa using hc
    exact⟨j+1,⟨rfl,by omega,c,rfl,hL.skip fun y' x' hy' hx'=>by rw[gy] at hy';cases hy';rw[gx] at hx';cases hx';exact hge,eAC⟩,by omega⟩
  ·have hy : ¬ 2 * k + (j + 1) < n := by have : ¬ ((2 * k + (j + 1) : Nat) : Int) < (n : Int) := by simpa using hc
                                         omega
   exact⟨j+1,⟨rfl,by omega,c,rfl,hL.skip fun y' x' hy' hx'=>absurd (List.getElem?_eq_some_iff.1 hy').1 (by omega),eB⟩,by omega⟩
 ·have hj2 : j = 2 := by have : ¬ (j : Int) < 2 := by simpa using hc
                         omega
  subst hj2
  have mB:Mod (fun b=>b=kh∨ai s b) H B:=mA.trans' eB fun _ _ q=>q.elim
  refine aj (fun hc=>?_) (fun hc=>?_)
  ·have ec : c = k := by have : (c : Int) = (k : Int) := by simpa using hc
                         omega
   subst ec
   refine ag.db (x:=((top.no:Int),top.sl,top.ptr)) (tA.ext eB) rfl rfl ?_
   refine ag.kM (cs:=(CK top).toArray) (pA.ext eB) kW vg (fun v hv=>JC.one top v (show v∈CK top by simpa using hv)) fun C rC mC zC=>?_
   refine ag.db (x:=((top.no:Int),top.sl,top.ptr)) rC rfl rfl ?_
   have hheap:Hp ahead L':=yO hD fun i a b i0 hi ha hb=>hL.least i a b (by omega) ha hb
   have zH:H.size≤H.size:=Nat.le_refl _
   refine hK s2 L' C (hB.mod mC (by omega) (fun b hb q=>by have:=h.els.lt b (own2 b hb);have:b=H.size:=q;omega) fun x hx b hb q=>?_) hheap (pm.trans (hP.symm.cons _)) ?_ own2
   ·have:b=H.size:=q
    subst this
    obtain⟨cur,hcur⟩:=(hB.own x hx).obj _ hb
    exact absurd (aR hcur (pA.ext eB)) (by decide)
   ·exact mB.trans' mC fun b hb q=>by have:b=H.size:=q;omega
  ·have ec:c≠k:=fun q=>by subst q;simp at hc
   have hcn:c<n:=hL.lt.resolve_left ec
   obtain⟨hc1,hc2,hc3⟩:=hL.at_.resolve_left ec
   obtain⟨x0,gx⟩:∃x0,L'[c]?=some x0:=⟨_,List.getElem?_eq_getElem (by omega)⟩
   obtain⟨a0,ga⟩:∃a0,L'[k]?=some a0:=⟨_,List.getElem?_eq_getElem (by omega)⟩
   have mx:=List.mem_of_getElem? gx
   have ma:=List.mem_of_getElem? ga
   obtain⟨ad1,had1,_,la⟩:=hB.get ga
   obtain⟨ad2,had2,_,lx⟩:=hB.get gx
   rw[had1] at had2;cases had2
   refine ag.ld (c:=an) (i:=0) (x:=s2) hB.row rfl ?_
   refine ag.ld (c:=an) (i:=0) (x:=s2) hB.row rfl ?_
   refine ag.ld (c:=an) (i:=0) (x:=s2) hB.row rfl ?_
   refine bT ad1 had1 ⟨⟨by omega,by omega⟩,lx (by rw[Int.toNat_natCast]) ?_⟩
   refine ag.ld (c:=an) (i:=0) (x:=s2) hB.row rfl ?_
   refine bT ad1 had1 ⟨⟨by omega,by omega⟩,la (by rw[Int.toNat_natCast]) ?_⟩
   refine bT ad1 had1 ⟨⟨by omega,by omega⟩,?_⟩
   refine hB.put (y:=x0) (i:=k) (by omega) (hB.own x0 mx) (hB.few x0 mx) had1 (by rw[Int.toNat_natCast]) fun C hC mC=>?_
   refine bT ad1 had1 ⟨⟨by omega,by omega⟩,?_⟩
   refine hC.put (y:=a0) (i:=c) (by simp;omega) ((hB.own a0 ma).mod mC fun q hq=>(hB.j3 (hB.own a0 ma) q hq).2) (hB.few a0 ma) had1 (by rw[Int.toNat_natCast]) fun D hD' mD=>?_
   have off2:∀b,b=H.size∨b=H1.size→¬ai s2 b:=fun b hb q=>hp5 b hb (.inr (own2 b q))
   refine⟨c,⟨rfl,.inr hcn,_,by simp;exact hl',hD',Ae fw hD hc1 hc2 ga gx (hc3 a0 x0 ga gx) fun d y d0 hd gy=>hL.least d y x0 (by omega) gy gx,(swap_perm ga gx).trans hP,?_,?_,?_⟩,by omega⟩
   ·exact(mB.trans' mC fun b _ q=>.inr (own2 b q)).trans' mD fun b _ q=>.inr (own2 b q)
   ·exact((pA.ext eB).mod mC (off2 _ (.inl rfl))).mod mD (off2 _ (.inl rfl))
   ·exact((tA.ext eB).mod mC (off2 _ (.inr rfl))).mod mD (off2 _ (.inr rfl))
end
end Go.Proofs.YtacfhncgbgijhaaGreat
namespace Go.Proofs.YtacfhncgbgijhaaGreat
def CR {α:Type} (key:α→List Int) (a:α):List α→List α
 |[]=>[]
 |b::l=>if key b=key a then CR key b l else b::CR key b l
def dd (a:List Int):List (List Int)→List (List Int)
 |[]=>[]
 |b::l=>if b=a then dd b l else b::dd b l
def ay:List (List Int)→List (List Int)
 |[]=>[]
 |a::l=>a::dd a l
theorem vW {α:Type} (key:α→List Int):∀(l:List α) (a:α),(CR key a l).map key=dd (key a) (l.map key)
 |[],a=>rfl
 |b::l,a=>by
   simp only[CR,dd,List.map_cons]
   split
   ·exact vW key l b
   ·rw[List.map_cons,vW key l b]
theorem vH {α:Type} (key:α→List Int):∀(l:List α) (a x:α),x∈CR key a l→x∈l
 |[],a,x,h=>h
 |b::l,a,x,h=>by
   simp only[CR] at h
   split at h
   ·exact List.mem_cons_of_mem _ (vH key l b x h)
   ·rcases List.mem_cons.1 h with e|e
    ·rw[e];exact List.mem_cons_self
    ·exact List.mem_cons_of_mem _ (vH key l b x e)
theorem EL {y:List Int}:∀{l:List (List Int)} {a:List Int},y∈a::dd a l↔y∈a::l
 |[],a=>Iff.rfl
 |b::l,a=>by
   simp only[dd]
   have ih:=@EL y l b
   split
   ·rename_i e
    subst e
    rw[ih]
    simp
   ·rw[List.mem_cons,ih];simp
theorem iB {y:List Int} {l:List (List Int)}:y∈ay l↔y∈l:=by
 cases l with
 |nil=>exact Iff.rfl
 |cons a l=>exact EL
theorem Ic:∀{l:List (List Int)} {a:List Int},(a::l).Pairwise (fun x y=>aF x y≤0)→(a::dd a l).Pairwise (fun x y=>aF x y<0)
 |[],a,_=>by simp[dd]
 |b::l,a,h=>by
   have hb:(b::l).Pairwise (fun x y=>aF x y≤0):=(List.pairwise_cons.1 h).2
   have hab:=(List.pairwise_cons.1 h).1 b List.mem_cons_self
   have ih:=Ic hb
   simp only[dd]
   split
   ·rename_i e
    rw[←e];exact ih
   ·rename_i hne
    have hlt:aF a b<0:=by
     have:aF a b≠0:=fun q=>hne (cG.1 q).symm
     omega
    refine List.pairwise_cons.2 ⟨fun y hy=>?_,ih⟩
    rcases List.mem_cons.1 hy with e|e
    ·rw[e];exact hlt
    ·exact eW hlt ((List.pairwise_cons.1 ih).1 y e)
theorem dW {l:List (List Int)} (h:l.Pairwise (fun x y=>aF x y≤0)):(ay l).Pairwise (fun x y=>aF x y<0):=by
 cases l with
 |nil=>exact List.Pairwise.nil
 |cons a l=>exact Ic h
theorem AG {W:Nat} {rs:List (List Int)} (h:rs.Pairwise (fun x y=>aF x y<0)) (h1:∀l∈rs,l.length=W) (h2:∀l∈rs,fQ l):fR W rs:=by
 refine⟨h1,h2,fun i hi=>?_⟩
 have:=(List.pairwise_iff_getElem.1 h) i (i+1) (by omega) hi (by omega)
 rwa [List.getD,List.getElem?_eq_getElem (show i<rs.length by omega),List.getD,List.getElem?_eq_getElem hi]
theorem rX {l r:List (List Int)} (h:l.Perm r) (hl:l.Pairwise (fun x y=>aF x y≤0)) (hr:r.Pairwise (fun x y=>aF x y≤0)):l=r:=
 List.Perm.eq_of_pairwise (le:=fun x y=>aF x y≤0) (fun a b _ _ h1 h2=>cG.1 (by have:=cI a b;omega)) hl hr h
open Go.MapKept
def Jl:ByteArray:=ByteArray.mk #[48,49,50,51,52,53,54,55,56,57,97,98,99,100,101,102,103,104,105,106,107,108,109,110,111,112,113,114,115,116,117,118,119,120,121,122]
def KD:ByteArray:=ByteArray.mk #[48,48,48,49,48,50,48,51,48,52,48,53,48,54,48,55,48,56,48,57,49,48,49,49,49,50,49,51,49,52,49,53,49,54,49,55,49,56,49,57,50,48,50,49,50,50,50,51,50,52,50,53,50,54,50,55,50,56,50,57,51,48,51,49,51,50,51,51,51,52,51,53,51,54,51,55,51,56,51,57,52,48,52,49,52,50,52,51,52,52,52,53,52,54,52,55,52,56,52,57,53,48,53,49,53,50,53,51,53,52,53,53,53,54,53,55,53,56,53,57,54,48,54,49,54,50,54,51,54,52,54,53,54,54,54,55,54,56,54,57,55,48,55,49,55,50,55,51,55,52,55,53,55,54,55,55,55,56,55,57,56,48,56,49,56,50,56,51,56,52,56,53,56,54,56,55,56,56,56,57,57,48,57,49,57,50,57,51,57,52,57,53,57,54,57,55,57,56,57,57]
def nh (n:Nat):ByteArray:=if n<10 then Jl.extract n (n+1) else KD.extract (2*n) (2*n+2)
theorem G5 {n:Nat} {H:aa} {K:ByteArray→aa→Prop} (hn:n<100) (hK:K (nh n) H):HQ.sp (n:Int) H K:=by
 refine HQ.of ?_
 unfold HQ.vc
 refine Js.of ?_
 unfold Js.vc
 refine IU.of ?_
 unfold IU.vc
 refine aZ rfl ?_
 refine aZ (by simp;omega) ?_
 refine Jt.of ?_
 unfold Jt.vc
 rw[aP n (by omega)]
 have e2:IntKind.i64.wrap ((n:Int)*2)=((2*n:Nat):Int):=by rw[wrap64 (by omega) (by omega)];omega
 rw[e2]
 have e3:IntKind.i64.wrap (((2*n:Nat):Int)+2)=((2*n+2:Nat):Int):=by rw[wrap64 (by omega) (by omega)];omega
 rw[e3]
 simp only[Int.toNat_natCast]
 unfold nh at hK
 refine aj (fun hc=>?_) (fun hc=>?_)
 ·have h1 : n < 10 := by have : (n : Int) < 10 := of_decide_eq_true hc
                         omega
  rw[if_pos h1] at hK
  have hs:Jl.size=36:=by decide
  refine⟨⟨by omega,?_⟩,⟨by omega,by omega⟩,hK⟩
  show ((n+1:Nat):Int)≤((Jl.size:Nat):Int)
  omega
 ·have h1 : ¬ n < 10 := by have : ¬ (n : Int) < 10 := of_decide_eq_false hc
                           omega
  rw[if_neg h1] at hK
  have hs:KD.size=200:=by decide+kernel
  refine⟨⟨by omega,?_⟩,⟨by omega,by omega⟩,hK⟩
  show ((2*n+2:Nat):Int)≤((KD.size:Nat):Int)
  omega
def KM (l:List UInt8):Nat:=l.foldl (fun a c=>10*a+(c.toNat - 48)) 0
theorem kF:∀n,n<100→KM (nh n).toList=n∧(nh n).size≤2:=by decide+kernel
end Go.Proofs.YtacfhncgbgijhaaGreat
namespace Go.Proofs.YtacfhncgbgijhaaGreat
instance:Inhabited RR:=⟨⟨⟨ByteArray.empty,0,0,false⟩,0,0,none,[]⟩⟩
def bp (l:List (List Int)):List (List Int):=l.mergeSort fun a b=>decide (aF a b≤0)
theorem fh (l:List (List Int)):(bp l).Perm l:=List.mergeSort_perm _ _
theorem gK {a b c:List Int} (h1:aF a b≤0) (h2:aF b c≤0):aF a c≤0:=by
 rcases Int.lt_or_eq_of_le h1 with u|u
 ·rcases Int.lt_or_eq_of_le h2 with v|v
  ·exact Int.le_of_lt (eW u v)
  ·rw[cG.1 v] at u;exact Int.le_of_lt u
 ·rw[cG.1 u];exact h2
theorem gI (l:List (List Int)):(bp l).Pairwise (fun x y=>aF x y≤0):=by
 have h:=List.pairwise_mergeSort (le:=fun a b=>decide (aF a b≤0)) (fun a b c h1 h2=>decide_eq_true (gK (of_decide_eq_true h1) (of_decide_eq_true h2))) (fun a b=>by
  have:=cI a b
  simp only[Bool.or_eq_true,decide_eq_true_eq]
  omega) l
 exact h.imp fun h=>of_decide_eq_true h
def bf [Tab] (W:Int):List ByteArray→Pl→Pl×List RR×Int
 |[],p=>(p,[],0)
 |n::ns,p=>
   match (rnOpen p n W).2.1 with
   |none=>((rnOpen p n W).1,[],(rnOpen p n W).2.2)
   |some r=>((bf W ns (rnOpen p n W).1).1,r::(bf W ns (rnOpen p n W).1).2.1,(bf W ns (rnOpen p n W).1).2.2)
def fL (l:List Int) (b:Bool):Option (List Int):=if b then some l else none
def bj [Tab]:List RR→Pl→Pl×List RR×List (Option (List Int))×Int
 |[],p=>(p,[],[],0)
 |r::rs,p=>
   if (r.next p).2.2.2.2≠0 then ((r.next p).1,[],[],(r.next p).2.2.2.2)
   else ((bj rs (r.next p).1).1,(r.next p).2.1::(bj rs (r.next p).1).2.1,fL (r.next p).2.2.1 (r.next p).2.2.2.1::(bj rs (r.next p).1).2.2.1,(bj rs (r.next p).1).2.2.2)
def eQ:List (Option (List Int))→Option (Nat×List Int)
 |[]=>none
 |none::t=>(eQ t).map fun q=>(q.1+1,q.2)
 |some a::t=>
   match eQ t with
   |none=>some (0,a)
   |some (i,x)=>if aF x a<0 then some (i+1,x) else some (0,a)
def bg [Tab] (p:Pl) (w:RW) (x:List Int):Pl×RW×Int:=if w.rows=0∨aF x w.last≠0 then w.add p x else (p,w,0)
def ib [Tab]:Nat→Pl→List RR→List (Option (List Int))→RW→Pl×Nat×Int
 |0,p,_,_,_=>(p,0,0)
 |f+1,p,rs,hs,w=>
   match eQ hs with
   |none=>((w.close p).1,(w.close p).2.2.1,(w.close p).2.2.2)
   |some (i,x)=>
     if (bg p w x).2.2≠0 then ((bg p w x).1,0,(bg p w x).2.2)
     else if ((rs.getD i default).next (bg p w x).1).2.2.2.2≠0 then (((rs.getD i default).next (bg p w x).1).1,0,((rs.getD i default).next (bg p w x).1).2.2.2.2)
     else ib f ((rs.getD i default).next (bg p w x).1).1 (rs.set i ((rs.getD i default).next (bg p w x).1).2.1)
      (hs.set i (fL ((rs.getD i default).next (bg p w x).1).2.2.1 ((rs.getD i default).next (bg p w x).1).2.2.2.1)) (bg p w x).2.1
def dg (rs:List RR):Nat:=(rs.map fun r=>r.rows - r.at_).sum
def fZ (hs:List (Option (List Int))):Nat:=(hs.map fun h=>if h.isSome then 1 else 0).sum
def yL [Tab] (r:Pl×List RR×List (Option (List Int))×Int) (w:RW):Pl×Nat×Int:=
 if r.2.2.2≠0 then (r.1,0,r.2.2.2) else ib (dg r.2.1+fZ r.2.2.1+1) r.1 r.2.1 r.2.2.1 w
def lN [Tab] (rs:List RR) (m:Pl×Option RW×Int):Pl×Nat×Int:=
 match m.2.1 with
 |none=>(m.1,0,m.2.2)
 |some w=>yL (bj rs m.1) w
def dP [Tab] (p:Pl) (names:List ByteArray) (to:ByteArray) (W:Int):Pl×Nat×Int:=
 if names=[] then (p,0,2)
 else if (bf W names p).2.2≠0 then ((bf W names p).1,0,(bf W names p).2.2)
 else lN (bf W names p).2.1 (bo (bf W names p).1 to W)
def jH [Tab]:List (List Int)→Pl→RW→Pl×RW×Int
 |[],p,w=>(p,w,0)
 |x::l,p,w=>if (w.add p x).2.2≠0 then w.add p x else jH l (w.add p x).1 (w.add p x).2.1
def ue [Tab] (a:Pl×RW×Int):Pl×Int:=if a.2.2≠0 then (a.1,a.2.2) else ((a.2.1.close a.1).1,(a.2.1.close a.1).2.2.2)
def jl [Tab] (p:Pl) (n:ByteArray) (W:Int) (L:List (List Int)):Pl×Int:=
 match (bo p n W).2.1 with
 |none=>((bo p n W).1,(bo p n W).2.2)
 |some w=>ue (jH L (bo p n W).1 w)
def kn:List ByteArray→Pl→Pl×Int
 |[],p=>(p,0)
 |n::l,p=>if (p.dt n).2≠0 then p.dt n else kn l (p.dt n).1
structure So where
 name:ByteArray
 width:Int
 af:Int
 wait:List (List Int)
 side:List ByteArray
 next:Nat
 wrong:Int
 closed:Bool
def So.ready (s:So):Int:=if s.wrong≠0 then s.wrong else if s.closed then 2 else 0
def Kc:ByteArray:=ByteArray.mk #[126]
def bN (n:ByteArray) (k:Nat):ByteArray:=n++Kc++nh k
def So.ov [Tab] (s:So):So:={s with wait:=[],side:=s.side++[bN s.name s.next],next:=s.next+1}
def So.aside [Tab] (s:So) (p:Pl):Pl×So×Int:=
 ((jl p (bN s.name s.next) s.width (ay (bp s.wait))).1,s.ov,(jl p (bN s.name s.next) s.width (ay (bp s.wait))).2)
def So.add [Tab] (s:So) (p:Pl) (l:List Int):Pl×So×Int:=
 if s.ready≠0 then (p,s,s.ready)
 else if (l.length:Int)≠s.width then (p,s,60)
 else if ((s.wait.length+1:Nat):Int)<s.af*aU s.width then (p,{s with wait:=s.wait++[l]},0)
 else (({s with wait:=s.wait++[l]}.aside p).1,{{s with wait:=s.wait++[l]}.ov with wrong:=({s with wait:=s.wait++[l]}.aside p).2.2},({s with wait:=s.wait++[l]}.aside p).2.2)
def tY (l:List ByteArray) (m:Pl×Nat×Int):Pl×Int:=if m.2.2≠0 then (m.1,m.2.2) else kn l m.1
def So.merge [Tab] (s:So) (p:Pl) (k:Nat) (to:ByteArray):Pl×So×Nat×Int:=
 ((tY (s.side.take k) (dP p (s.side.take k) to s.width)).1,{s with side:=s.side.drop k},(dP p (s.side.take k) to s.width).2.1,(tY (s.side.take k) (dP p (s.side.take k) to s.width)).2)
def So.to (s:So) (k:Nat):So:={s with next:=k}
def So.round [Tab] (s:So) (p:Pl):Pl×So×Nat×Int:=(s.to (s.next+1)).merge p (s.af - 1).toNat (bN s.name s.next)
def So.rounds [Tab]:Nat→So→Pl→Pl×So×Int
 |0,s,p=>(p,s,0)
 |f+1,s,p=>
   if s.af≤(s.side.length:Int) then
    if (s.round p).2.2.2≠0 then ((s.round p).1,(s.round p).2.1,(s.round p).2.2.2)
    else So.rounds f {(s.round p).2.1 with side:=s.side.drop (s.af - 1).toNat++[bN s.name s.next]} (s.round p).1
   else (p,s,0)
def So.last [Tab] (r:Pl×So×Int):Pl×So×Nat×Int:=
 if r.2.2≠0 then (r.1,r.2.1,0,r.2.2) else r.2.1.merge r.1 r.2.1.side.length r.2.1.name
def So.first [Tab] (s:So) (p:Pl):Pl×So×Int:=if s.wait≠[]∨s.side=[] then s.aside p else (p,s,0)
def So.tO [Tab] (r:Pl×So×Int):Pl×So×Nat×Int:=
 if r.2.2≠0 then (r.1,r.2.1,0,r.2.2) else So.last (r.2.1.rounds r.2.1.side.length r.1)
def So.ends [Tab] (r:Pl×So×Nat×Int):Pl×So×Nat×Int:=
 if r.2.2.2≠0 then (r.1,{r.2.1 with wrong:=r.2.2.2},0,r.2.2.2) else (r.1,{r.2.1 with closed:=true},r.2.2.1,0)
def So.done [Tab] (s:So) (p:Pl):Pl×So×Nat×Int:=
 if s.ready≠0 then (p,s,0,s.ready) else So.ends (So.tO (s.first p))
def FM (n:ByteArray) (W fr:Int):So:=⟨n,W,fr,[],[],0,0,false⟩
def rF (p:Pl) (n:ByteArray) (W fr:Int):Option So×Int:=
 if aU W=0 then (none,60) else if fr<3∨fr>p.most then (none,30) else (some (FM n W fr),0)
theorem yG {n room:Nat} (hr:1≤room):(n%room=0→aJ n room=n/room)∧(n%room≠0→aJ n room=n/room+1):=by
 have h1:=Nat.mod_lt n hr
 have h2:=Nat.div_add_mod n room
 unfold aJ
 refine⟨fun h=>?_,fun h=>?_⟩
 ·have e:n+room - 1=room*(n/room)+(room - 1):=by omega
  rw[e,Nat.mul_add_div hr,Nat.div_eq_of_lt (show room - 1<room by omega)];rfl
 ·have e:n+room - 1=room*(n/room+1)+(n%room - 1):=by rw[Nat.mul_add];omega
  rw[e,Nat.mul_add_div hr,Nat.div_eq_of_lt (show n%room - 1<room by omega)]
section
variable {p:Pl} {w:RW} {n:ByteArray} {W:Nat} {rs:List (List Int)} {q:Nat}
theorem xX [Tab] (h1:0≤W) (hr:fR W rs) (r3:cg W*yq W≤504) (k:Nat):(dw (df rs (cg W) k)).length≤504:=by
 rw[kg h1 (L:=df rs (cg W) k) (fun l hl=>hr.len l (List.mem_of_mem_drop (List.mem_of_mem_take (show l∈(rs.drop _).take _ from hl))))]
 have:(df rs (cg W) k).length≤cg W:=List.length_take_le _ _
 calc _≤cg W*yq W:=Nat.mul_le_mul_right _ this
  _≤504:=r3
end
open Go.MapKept
theorem Pl.Gg [Tab] {s:Pl} (h:s.WF) (x:Int):(s.get x).2.1.length≤504:=by
 unfold Pl.get
 split
 ·simp
 ·cases e:s.held x with
  |none=>simp
  |some i=>
    obtain⟨f,hf,_⟩:=Pl.kZ e
    simp only[Pl.fI hf]
    exact h.room f (List.mem_of_getElem? hf)
def bZ (p:Nat) (b:Rb):List Value:=[.pointer (aI p),.string b.name,.int .i64 b.width,.int .i64 (aU b.width),.int .i64 b.wrong,.bool b.closed]
abbrev bz (H:aa) (k:Nat) (t:TypeId) (p:Nat) (b:Rb) (rest:List Value):Prop:=ag H k t (bZ p b++rest).toArray
section
variable {H:aa} {k p dp:Nat} {t:TypeId} {b:Rb} {rest:List Value} {F:Nat→Prop} {s:Pl}
theorem bz.get [Tab] (i:Nat) (v:Value) (h:(bZ p b)[i]?=some v):(bZ p b++rest).toArray[i]?=some v:=by
 rw[List.getElem?_toArray,List.getElem?_append_left (List.getElem?_eq_some_iff.1 h).1];exact h
theorem bz.tail {j:Nat} {v:Value} (h:rest[j]?=some v):(bZ p b++rest).toArray[6+j]?=some v:=by
 rw[List.getElem?_toArray,List.getElem?_append_right (by simp[bZ])]
 simpa[bZ] using h
theorem pf [Tab] {K:Int→aa→Prop} (h:bz H k t p b rest) (hK:K b.ready H):Fx.sp (aI k) H K:=by
 refine Fx.of ?_
 unfold Fx.vc
 unfold Rb.ready at hK
 simp only[av,aI]
 refine ag.ld (c:=ab .i64) (i:=4) (x:=b.wrong) h (bz.get 4 _ rfl) ?_
 refine aj (fun hc=>?_) (fun hc=>?_)
 ·refine ag.ld (c:=ab .i64) (i:=4) (x:=b.wrong) h (bz.get 4 _ rfl) ?_
  rw[if_pos (by simpa using hc)] at hK
  exact hK
 ·rw[if_neg (by simpa using hc)] at hK
  refine ag.ld (c:=aw) (i:=5) (x:=b.closed) h (bz.get 5 _ rfl) ?_
  cases hcl:b.closed with
  |true=>rw[hcl,if_pos rfl] at hK;exact hK
  |false=>rw[hcl,if_neg (by simp)] at hK;exact hK
theorem x7 (e:Int):(bZ p b++rest).toArray.setIfInBounds 4 (.int .i64 e)=(bZ p {b with wrong:=e}++rest).toArray:=by
 simp[bZ]
theorem nr:(bZ p b++rest).toArray.setIfInBounds 5 (.bool true)=(bZ p {b with closed:=true}++rest).toArray:=by
 simp[bZ]
theorem oy [Tab] {e:Int} {K:Int→aa→Prop} (h:bz H k t p b rest) (hK:∀H',bz H' k t p (b.dE e) rest→Mod (fun q=>q=k) H H'→H'.size=H.size→K e H'):AB.sp (aI k) e H K:=by
 refine AB.of ?_
 unfold AB.vc
 unfold Rb.dE at hK
 simp only[av,aI]
 refine aj (fun hc=>?_) (fun hc=>?_)
 ·rw[if_pos (by simpa using hc)] at hK
  refine ag.st h (i:=4) (by simp[bZ]) rfl fun H' h' m hs=>?_
  rw[x7] at h'
  exact hK H' h' m hs
 ·rw[if_neg (by simpa using hc)] at hK
  exact hK H h (.refl _ _) rfl
theorem Step.size [Tab] {F F':Nat→Prop} {H H':aa} (h:Step F F' H H'):H.size≤H'.size:=h.mod.size
theorem AD [Tab] {kd:UInt8} {sl:Sl} {l:List UInt8} {K:Int→aa→Prop} (hg:Gl H) (h:bz H k t p b rest) (hp:al F H p dp s) (hk:¬F k) (hb:eF H sl l) (hsl:∀ad,sl.a=some ad→¬F ad.block)
  (hn:b.name.size≤9223372036854775807) (hlogs:s.d.aH<68719470000) (hnx:s.next<1099511627776) (h0:0≤s.next) (hfit:s.Fit)
  (hK:∀F' H',al F' H' p dp (s.more b.name kd l).1→Step F F' H H'→K (s.more b.name kd l).2 H'):FE.sp (aI k) (kd.toNat:Int) sl H K:=by
 have hkl:=aL h
 refine FE.of ?_
 unfold FE.vc
 simp only[av,aI]
 refine ag.ld (c:=ar) (i:=0) (x:=aI p) h (bz.get 0 _ rfl) ?_
 refine ag.ld (c:=bK) (i:=1) (x:=b.name) h (bz.get 1 _ rfl) ?_
 refine Fi hg hp hn (by omega) (by omega) hfit fun F1 H1 p1 S1=>?_
 have hg1:Gl H1:=hg.mod S1.mod hp.fF
 have h1:bz H1 k t p b rest:=h.mod S1.mod hk
 have hk1:¬F1 k:=fun q=>(S1.own k q).elim hk fun r=>by omega
 have hb1:eF H1 sl l:=hb.aq fun ad ha hl=>S1.mod.same _ hl (hsl ad ha)
 have hsl1:∀ad,sl.a=some ad→l≠[]→¬F1 ad.block:=fun ad ha hne q=>by
  obtain⟨ad',ha',hlt⟩:=hb.addr (List.length_pos_iff.2 hne)
  rw[ha] at ha';cases ha'
  rcases S1.own _ q with r|r
  ·exact hsl ad ha r
  ·omega
 unfold Pl.more at hK
 have hnx1:(s.fresh b.name).1.next≤s.next+1:=s.rv h0 hnx
 generalize hs1:(s.fresh b.name).1=s1 at*
 generalize hr:(s.fresh b.name).2.1=hd at*
 generalize he:(s.fresh b.name).2.2.2=e at*
 by_cases e0:e=0
 ·subst e0
  rw[if_neg (by simp)] at hK
  by_cases k0:kd=0
  ·subst k0
   rw[if_pos rfl] at hK
   refine aA (by simp) ?_
   refine aZ (by simp) ?_
   refine ag.ld (c:=ar) (i:=0) (x:=aI p) h1 (bz.get 0 _ rfl) ?_
   refine nD hg1 p1 (by omega) fun F2 H2 p2 S2=>?_
   have el:Pl.leave (s1,0) hd=s1.aQ hd:=if_pos rfl
   rw[el] at hK
   exact hK F2 H2 p2 (S1.trans S2)
  ·have hkn:((kd.toNat:Int)!=0)=true:=by
    have:kd.toNat≠0:=fun q=>k0 (UInt8.toNat_inj.1 q)
    simp;omega
   rw[if_neg k0] at hK
   refine aZ (by rw[hkn];rfl) ?_
   refine ag.ld (c:=ar) (i:=0) (x:=aI p) h1 (bz.get 0 _ rfl) ?_
   refine Ej hg1 p1 hb1 fun F2 H2 p2 S2=>?_
   have hg2:Gl H2:=hg1.mod S2.mod p1.fF
   have h2:bz H2 k t p b rest:=h1.mod S2.mod hk1
   have hn2:(s1.set hd kd l).1.next=s1.next:=s1.nz hd kd l
   generalize hs2:s1.set hd kd l=s2 at*
   refine aj (fun hc=>?_) (fun hc=>?_)
   ·have e2:s2.2=0:=by simpa using hc
    refine ag.ld (c:=ar) (i:=0) (x:=aI p) h2 (bz.get 0 _ rfl) ?_
    refine nD hg2 p2 (by omega) fun F3 H3 p3 S3=>?_
    have el:Pl.leave s2 hd=s2.1.aQ hd:=if_pos e2
    rw[el] at hK
    exact hK F3 H3 p3 ((S1.trans S2).trans S3)
   ·have e2:s2.2≠0:=by simpa using hc
    have el:Pl.leave s2 hd=s2:=if_neg e2
    rw[el] at hK
    exact hK F2 H2 p2 (S1.trans S2)
 ·rw[if_pos e0] at hK
  refine aA (by simp[e0]) ?_
  refine aA (by simpa using e0) ?_
  exact hK F1 H1 p1 S1
theorem xW [Tab] {g:Int} {K:(Int×Sl×Int)→aa→Prop} (hg:Gl H) (h:bz H k t p b rest) (hp:al F H p dp s) (hk:¬F k) (hg0:0≤g∧g≤9223372036854775807)
  (hn:b.name.size≤9223372036854775807) (hlogs:s.d.aH<68719470000) (hnx:s.next<1099511627776) (h0:0≤s.next)
  (hK:∀F' H' sl,al F' H' p dp (s.look b.name g).1→Step F F' H H'→bc EB lF H' sl (s.look b.name g).2.2.1→(∀q,ai sl q→H.size≤q∧¬F' q)→(s.look b.name g).2.2.1.length≤504→K (((s.look b.name g).2.1.toNat:Int),sl,(s.look b.name g).2.2.2) H'):Hz.sp (aI k) g H K:=by
 have hkl:=aL h
 refine Hz.of ?_
 unfold Hz.vc
 simp only[av,aI]
 refine ag.ld (c:=ar) (i:=0) (x:=aI p) h (bz.get 0 _ rfl) ?_
 refine ag.ld (c:=bK) (i:=1) (x:=b.name) h (bz.get 1 _ rfl) ?_
 refine Dv hg hp hn (by omega) hg0.2 (by omega) (by omega) fun F1 H1 p1 S1=>?_
 have hg1:Gl H1:=hg.mod S1.mod hp.fF
 have h1:bz H1 k t p b rest:=h.mod S1.mod hk
 have hnx1:(s.bn b.name g).1.next≤s.next+1:=s.sS h0 hnx
 unfold Pl.look at hK
 generalize hs1:(s.bn b.name g).1=s1 at*
 generalize hr:(s.bn b.name g).2.1=hd at*
 generalize he:(s.bn b.name g).2.2=e at*
 refine aj (fun hc=>?_) (fun hc=>?_)
 ·have e0:e≠0:=by simpa using hc
  rw[if_pos e0] at hK
  exact hK F1 H1 _ p1 S1 (bc.nil _ _ _) (fun q ⟨ad,ha,_⟩=>by cases ha) (by simp)
 ·have e0:¬e≠0:=by simpa using hc
  rw[if_neg e0] at hK
  refine ag.ld (c:=ar) (i:=0) (x:=aI p) h1 (bz.get 0 _ rfl) ?_
  refine Jv p1 fun sl H2 o2 e2 f2=>?_
  have p2:=p1.ext e2
  have hg2:Gl H2:=hg1.mod e2 id
  have h2:bz H2 k t p b rest:=h1.ext e2
  have S2:Step F F1 H H2:=S1.trans ⟨e2.mod,fun b hb=>.inl hb⟩
  have hgl:=Pl.Gg p1.wf hd
  generalize hs2:s1.get hd=r at*
  refine aj (fun hc2=>?_) (fun hc2=>?_)
  ·have e3:¬r.2.2≠0:=by simpa using hc2
   rw[if_neg e3] at hK
   refine ag.ld (c:=ar) (i:=0) (x:=aI p) h2 (bz.get 0 _ rfl) ?_
   refine nD hg2 p2 (by omega) fun F3 H3 p3 S3=>?_
   have hlt:=o2.lt
   refine hK F3 H3 sl p3 (S2.trans S3) (o2.aq fun q hq hl=>S3.mod.same q hl fun r=>by have:=p1.lt q r;have:=f2 q hq;omega) (fun q hq=>?_) hgl
   have q1:=f2 q hq
   have q2:=S1.size
   refine⟨by omega,fun r=>?_⟩
   rcases S3.own q r with r|r
   ·have:=p1.lt q r;omega
   ·have:=hlt q hq;omega
  ·have e3:r.2.2≠0:=by simpa using hc2
   rw[if_pos e3] at hK
   refine hK F1 H2 sl p2 S2 o2 (fun q hq=>?_) hgl
   have q1:=f2 q hq
   have q2:=S1.size
   exact⟨by omega,fun r=>by have:=p1.lt q r;omega⟩
end
end Go.Proofs.YtacfhncgbgijhaaGreat
