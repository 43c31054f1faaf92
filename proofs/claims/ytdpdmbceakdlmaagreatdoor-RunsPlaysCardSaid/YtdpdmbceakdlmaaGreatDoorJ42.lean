/-
 The document's pool in memory.
-/
import Derived.Test.YtdpdmbceakdlmaaGreatDoorJ33
import Derived.Test.YtdpdmbceakdlmaaGreatDoorDks
import Derived.Test.YtdpdmbceakdlmaaGreatDoorDkt
import Derived.Test.YtdpdmbceakdlmaaGreatDoorDrd
namespace Go.Proofs.YtdpdmbceakdlmaaGreatDoor
open Go.MapKept
abbrev RZ:=Fr×Sl
def lQ:eC RZ:=⟨7,fun z=>[.string z.1.name,.int .i64 (z.1.page:Int),.int .u8 (z.1.kind.toNat:Int),.string (ca z.1.b),.bool z.1.dirty,z.2.v,.int .i64 z.1.left],fun _=>rfl,fun x u hu=>by simp at hu;rcases hu with rfl|rfl|rfl|rfl|rfl|rfl|rfl<;>rfl⟩
theorem Ff:sN Tryz.prog BH sP lQ.size 88:=gW (by kernel_rfl)
structure nR (H:Heap) (ll:Sl) (zs:List RZ):Prop where
 arr:aG lQ sP H ll zs
 ent:∀z∈zs,aG EI fg H z.2 z.1.pins
 apart:∀(i j:Nat) (z z':RZ),zs[i]?=some z→zs[j]?=some z'→i≠j→∀b,aj z.2 b→¬aj z'.2 b
def xS (ll:Sl) (zs:List RZ) (b:Nat):Prop:=aj ll b∨∃z∈zs,aj z.2 b
def yT (zs:List RZ):List Fr:=zs.map (·.1)
theorem nR.lt {H:Heap} {ll:Sl} {zs:List RZ} (h:nR H ll zs):∀b,xS ll zs b→b<H.size:=by
 rintro b (q|⟨z,hz,q⟩)
 ·exact h.arr.lt b q
 ·exact(h.ent z hz).lt b q
theorem nR.keep {H H':Heap} {ll:Sl} {zs:List RZ} (h:nR H ll zs) (k:∀b,xS ll zs b→b<H.size→H'[b]?=H[b]?):nR H' ll zs:=
 ⟨h.arr.keep fun b hb=>k b (.inl hb),fun z hz=>(h.ent z hz).keep fun b hb=>k b (.inr ⟨z,hz,hb⟩),h.apart⟩
theorem nR.ty {H:Heap} {ll:Sl} {zs:List RZ} (h:nR H ll zs):∀b,xS ll zs b→∃cs t,H[b]?=some (.cells cs t (0,0))∧(t=sP∨t=fg):=by
 rintro b (q|⟨z,hz,q⟩)
 ·obtain⟨c,e⟩:=h.arr.obj b q;exact⟨c,_,e,.inl rfl⟩
 ·obtain⟨c,e⟩:=(h.ent z hz).obj b q;exact⟨c,_,e,.inr rfl⟩
theorem nR.fm {H:Heap} {ll:Sl} {zs:List RZ} (h:nR H ll zs) {z:RZ} (hz:z∈zs):∀b,aj z.2 b→¬aj ll b:=by
 intro b hb hl
 obtain⟨c,e⟩:=(h.ent z hz).obj b hb
 obtain⟨c',e'⟩:=h.arr.obj b hl
 exact absurd (aL e e') (by decide)
def dq (dp:Nat) (ll:Sl) (s:Pl):Array Value:=#[cP dp,.int .i64 (s.most:Int),ll.v,.int .i64 s.next,.int .i64 s.tick,.int .i64 (s.peak:Int),.int .i64 s.wrong]
structure bq (ll:Sl) (zs:List RZ) (H:Heap) (p dp:Nat) (s:Pl):Prop where
 head:ai H p nW (dq dp ll s)
 frames:nR H ll zs
 fs:s.fs=yT zs
 wf:s.WF
def fq (ll:Sl) (zs:List RZ) (p b:Nat):Prop:=b=p∨xS ll zs b
theorem bq.off {H:Heap} {p:Nat} {ll:Sl} {zs:List RZ} {cs:Array Value} (hd:ai H p nW cs) (h:nR H ll zs):¬xS ll zs p:=by
 intro hb
 obtain⟨c,t,e,ht⟩:=h.ty p hb
 rw[←aL hd e] at ht
 exact absurd ht (by decide)
theorem bq.lt {ll:Sl} {zs:List RZ} {H:Heap} {p dp:Nat} {s:Pl} (h:bq ll zs H p dp s):∀b,fq ll zs p b→b<H.size:=by
 rintro b (rfl|hb)
 ·exact az h.head
 ·exact h.frames.lt b hb
theorem bq.keep {ll:Sl} {zs:List RZ} {H H':Heap} {p dp:Nat} {s:Pl} (h:bq ll zs H p dp s) (k:∀b,fq ll zs p b→b<H.size→H'[b]?=H[b]?):bq ll zs H' p dp s:=
 ⟨(k p (.inl rfl) (az h.head)).trans h.head,h.frames.keep fun b hb=>k b (.inr hb),h.fs,h.wf⟩
theorem bq.aV {ll:Sl} {zs:List RZ} {H:Heap} {p dp:Nat} {s:Pl} (h:bq ll zs H p dp s) (d:Dk):bq ll zs H p dp (s.aV d):=⟨h.head,h.frames,h.fs,h.wf.aV d⟩
theorem bq.at {ll:Sl} {zs:List RZ} {H:Heap} {p dp:Nat} {s:Pl} (h:bq ll zs H p dp s) {i:Nat} {f:Fr} (hf:s.fs[i]?=some f):∃g,zs[i]?=some (f,g):=by
 rw[h.fs] at hf
 unfold yT at hf
 rw[List.getElem?_map,Option.map_eq_some_iff] at hf
 obtain⟨⟨f',g⟩,h1,rfl⟩:=hf
 exact⟨g,h1⟩
theorem bq.len {ll:Sl} {zs:List RZ} {H:Heap} {p dp:Nat} {s:Pl} (h:bq ll zs H p dp s):s.fs.length=zs.length:=by rw[h.fs];simp[yT]
theorem bq.n {ll:Sl} {zs:List RZ} {H:Heap} {p dp:Nat} {s:Pl} (h:bq ll zs H p dp s):ll.n=s.fs.length:=by rw[h.frames.arr.n (by decide),h.len]
structure bk (ll:Sl) (zs:List RZ) (D:Nat→Prop) (H:Heap) (p dp:Nat) (s:Pl):Prop where
 ae:bq ll zs H p dp s
 bc:bY D H dp s.d
 apart:∀b,D b→¬fq ll zs p b
def aI (F:Nat→Prop) (H:Heap) (p dp:Nat) (s:Pl):Prop:=∃ll zs D,bk ll zs D H p dp s∧∀b,F b↔D b∨fq ll zs p b
theorem bk.lt {ll:Sl} {zs:List RZ} {D:Nat→Prop} {H:Heap} {p dp:Nat} {s:Pl} (h:bk ll zs D H p dp s):∀b,D b∨fq ll zs p b→b<H.size:=by
 rintro b (hb|hb)
 ·exact h.bc.lt b hb
 ·exact h.ae.lt b hb
theorem bk.keep {ll:Sl} {zs:List RZ} {D:Nat→Prop} {H H':Heap} {p dp:Nat} {s:Pl} (h:bk ll zs D H p dp s) (k:∀b,D b∨fq ll zs p b→b<H.size→H'[b]?=H[b]?):bk ll zs D H' p dp s:=
 ⟨h.ae.keep fun b hb=>k b (.inr hb),h.bc.keep fun b hb=>k b (.inl hb),h.apart⟩
theorem bk.ext {ll:Sl} {zs:List RZ} {D:Nat→Prop} {H H':Heap} {p dp:Nat} {s:Pl} (h:bk ll zs D H p dp s) (e:Ext H H'):bk ll zs D H' p dp s:=h.keep fun b _ hl=>e.same b hl id
theorem aI.lt {F:Nat→Prop} {H:Heap} {p dp:Nat} {s:Pl} (h:aI F H p dp s):∀b,F b→b<H.size:=by
 obtain⟨ll,zs,D,g,hF⟩:=h
 exact fun b hb=>g.lt b ((hF b).1 hb)
theorem aI.keep {F:Nat→Prop} {H H':Heap} {p dp:Nat} {s:Pl} (h:aI F H p dp s) (k:∀b,F b→b<H.size→H'[b]?=H[b]?):aI F H' p dp s:=by
 obtain⟨ll,zs,D,g,hF⟩:=h
 exact⟨ll,zs,D,g.keep fun b hb=>k b ((hF b).2 hb),hF⟩
theorem aI.ext {F:Nat→Prop} {H H':Heap} {p dp:Nat} {s:Pl} (h:aI F H p dp s) (e:Ext H H'):aI F H' p dp s:=h.keep fun b _ hl=>e.same b hl id
theorem bk.jC {ll:Sl} {zs:List RZ} {D D':Nat→Prop} {H H':Heap} {p dp:Nat} {s:Pl} {d:Dk} (h:bk ll zs D H p dp s) (hd:bY D' H' dp d) (hs:Step D D' H H'):
  bk ll zs D' H' p dp (s.aV d)∧Step (fun b=>D b∨fq ll zs p b) (fun b=>D' b∨fq ll zs p b) H H':=by
 obtain⟨q1,q2⟩:=hs.side h.apart h.ae.lt
 exact⟨⟨(h.ae.keep fun b hb hl=>hs.mod.same b hl fun q=>h.apart b q hb).aV d,hd,q1⟩,q2⟩
theorem bk.il {ll ll':Sl} {zs zs':List RZ} {D:Nat→Prop} {H H':Heap} {p dp:Nat} {s s':Pl} (h:bk ll zs D H p dp s) (hp:bq ll' zs' H' p dp s') (hd:s'.d=s.d) (hm:Mod (fq ll zs p) H H') (ho:∀b,xS ll' zs' b→xS ll zs b∨H.size≤b):
  bk ll' zs' D H' p dp s'∧Step (fun b=>D b∨fq ll zs p b) (fun b=>D b∨fq ll' zs' p b) H H':=by
 have hl:=h.bc.lt
 refine⟨⟨hp,by rw[hd];exact h.bc.keep fun b hb hbl=>hm.same b hbl (h.apart b hb),?_⟩,hm.mono fun b _ q=>.inr q,?_⟩
 ·rintro b hb (q|q)
  ·exact h.apart b hb (.inl q)
  ·rcases ho b q with r|r
   ·exact h.apart b hb (.inr r)
   ·have:=hl b hb;omega
 ·rintro b (q|q|q)
  ·exact .inl (.inl q)
  ·exact .inl (.inr (.inl q))
  ·exact(ho b q).imp (fun r=>.inr (.inr r)) id
theorem bk.out {ll ll':Sl} {zs zs':List RZ} {D D':Nat→Prop} {F:Nat→Prop} {H H':Heap} {p dp:Nat} {s:Pl} (h:bk ll' zs' D' H' p dp s) (hF:∀b,F b↔D b∨fq ll zs p b) (hs:Step (fun b=>D b∨fq ll zs p b) (fun b=>D' b∨fq ll' zs' p b) H H'):
  ∃F',aI F' H' p dp s∧Step F F' H H':=
 ⟨fun b=>D' b∨fq ll' zs' p b,⟨ll',zs',D',h,fun _=>Iff.rfl⟩,hs.mod.mono fun b _ q=>(hF b).2 q,fun b hb=>(hs.own b hb).imp (hF b).2 id⟩
theorem bq.pO {ll:Sl} {zs:List RZ} {H H':Heap} {p dp:Nat} {s s':Pl} (h:bq ll zs H p dp s) (hr:ai H' p nW (dq dp ll s')) (hm:Mod (fun b=>b=p) H H') (hf:s'.fs=s.fs) (hw:s'.WF):bq ll zs H' p dp s':=
 ⟨hr,h.frames.keep fun b hb hl=>hm.same b hl fun e=>bq.off h.head h.frames (e▸hb),hf.trans h.fs,hw⟩
theorem nR.ld {H:Heap} {ll:Sl} {zs:List RZ} (h:nR H ll zs) {i j:Nat} {z:RZ} (hz:zs[i]?=some z) {c:dN} {y:c.α} (hj:(lQ.enc z)[j]?=some (c.enc y)) {K:c.α→Prop} (hK:K y):
  ab ll.a fun a=>(0≤(i:Int)∧(i:Int)<(ll.n:Int))∧Go.Proofs.YtdpdmbceakdlmaaGreatDoor.ld c H ((a.add ((i:Int).toNat*7)).add j) K:=by
 have hi:=(List.getElem?_eq_some_iff.1 hz).1
 obtain⟨ad,ha⟩:=cL.addr h.arr.rd (by decide) (by omega)
 rw[ha]
 refine⟨⟨by omega,by rw[h.arr.n (by decide)];omega⟩,?_⟩
 exact cL.ld (E:=lQ) (c:=c) h.arr.rd ha hz hj (by simp[lQ]) hK
theorem nR.set {H H':Heap} {ll:Sl} {zs:List RZ} (h:nR H ll zs) {i:Nat} {z z':RZ} (hz:zs[i]?=some z) (harr:aG lQ sP H' ll (zs.set i z')) (he:aG EI fg H' z'.2 z'.1.pins)
  (hm:∀u∈zs,∀b,aj u.2 b→¬aj z.2 b→b<H.size→H'[b]?=H[b]?) (ho:∀b,aj z'.2 b→aj z.2 b∨H.size≤b):
  nR H' ll (zs.set i z')∧∀b,xS ll (zs.set i z') b→xS ll zs b∨H.size≤b:=by
 have hil:=(List.getElem?_eq_some_iff.1 hz).1
 refine⟨⟨harr,fun u hu=>?_,?_⟩,?_⟩
 ·rcases fF hu with ⟨j,hji,hj⟩|rfl
  ·have hum:=List.mem_of_getElem? hj
   exact(h.ent u hum).keep fun b hb hl=>hm u hum b hb (fun q=>h.apart j i u z hj hz hji b hb q) hl
  ·exact he
 ·intro a c u v h1 h2 hac b hb1 hb2
  rw[List.getElem?_set] at h1 h2
  by_cases hia:i=a
  ·subst hia
   rw[if_neg hac] at h2
   rw[if_pos rfl,if_pos hil] at h1
   cases h1
   rcases ho b hb1 with q|q
   ·exact h.apart i c z v hz h2 hac b q hb2
   ·have:=(h.ent v (List.mem_of_getElem? h2)).lt b hb2;omega
  ·rw[if_neg hia] at h1
   by_cases hic:i=c
   ·subst hic
    rw[if_pos rfl,if_pos hil] at h2
    cases h2
    rcases ho b hb2 with q|q
    ·exact h.apart a i u z h1 hz hac b hb1 q
    ·have:=(h.ent u (List.mem_of_getElem? h1)).lt b hb1;omega
   ·rw[if_neg hic] at h2
    exact h.apart a c u v h1 h2 hac b hb1 hb2
 ·rintro b (q|⟨u,hu,q⟩)
  ·exact .inl (.inl q)
  ·rcases fF hu with ⟨j,_,hj⟩|rfl
   ·exact .inl (.inr ⟨u,List.mem_of_getElem? hj,q⟩)
   ·exact(ho b q).imp (fun r=>.inr ⟨z,List.mem_of_getElem? hz,r⟩) id
end Go.Proofs.YtdpdmbceakdlmaaGreatDoor
namespace Go.Proofs.YtdpdmbceakdlmaaGreatDoor
theorem sx {s:Sl} {l:List (List UInt8)} {H:Heap} {K:Unit→Heap→Prop} (h:aG EN gu H s l) (hl:l.length<4611686018427387904)
  (hK:∀H',aG EN gu H' s (l.mergeSort fun x y=>decide (x≤y))→Mod (aj s) H H'→K () H'):GR.sp s H K:=by
 intro w hw
 subst hw
 rcases id h.2 with ⟨e1,e2⟩|⟨g,cap,cur,e1,hb,hg,h4,h5,h6,h7⟩
 ·have hn:=h.n (by decide)
  have hl0:l=[]:=List.eq_nil_of_length_eq_zero (by omega)
  have hc:=AnyM.slices_Sort_string_none sortStr none 0 w
  rw[e1]
  refine hc.mono fun e w' ⟨he,hw'⟩=>?_
  subst hw'
  subst hl0
  exact⟨_,he,⟨(),rfl,hK _ (by simpa using h) (.refl _ _)⟩,.refl _⟩
 ·have hn:=h.n (by decide)
  have hall:=vY l
  have hs1:EN.size=1:=rfl
  have henc:∀x:List UInt8,encStr x=.string ⟨x.toArray⟩:=fun _=>rfl
  have hH:Sort.Holds encStr w g 0 l.toArray:=by
   intro j hj
   have hj':j<l.length:=by simpa using hj
   have hv:(EN.all l)[j]?=some (.string ⟨l[j].toArray⟩):=by rw[hall];simp[hj']
   rw[←h7,List.getElem?_take,if_pos (by rw[hs1];omega)] at hv
   refine⟨?_,?_⟩
   ·rw[Nat.zero_add]
    have:=cK (o:=j) hg (by simpa using hv)
    simp[hj',henc]
    exact this
   ·rw[Nat.zero_add];exact dv hg
  have hc:=AnyM.slices_Sort_string sortStr g 0 cap l w hH (az hg) hl
  rw[e1,hn]
  refine hc.mono fun e w' ⟨he,n,os,hw'⟩=>?_
  have hm:=List.mergeSort_perm l (fun x y=>decide (x≤y))
  have hsz:(l.mergeSort fun x y=>decide (x≤y)).length=l.length:=hm.length_eq
  obtain⟨q1,q2,q3,q4⟩:=ni (enc:=encStr) (n:=n) (d:=(l.mergeSort fun x y=>decide (x≤y)).toArray) (os:=os) hg (by rw[h6,hs1];simp[hsz];omega)
  subst hw'
  refine⟨_,he,⟨(),rfl,hK _ ⟨?_,.inr ⟨g,cap,_,e1,hb,q1,h4,h5,by rw[q3];exact h6,?_⟩⟩ (q2.mono fun b _ e=>⟨⟨g,0,none⟩,?_,e.symm⟩)⟩,(.of_le rfl (Nat.le_add_right _ _))⟩
  ·rw[vY,hs1];simp[hsz,hn]
  ·rw[vY,hs1,Nat.mul_one,hn]
   have:(l.mergeSort fun x y=>decide (x≤y)).toArray.size=l.length:=by simp[hsz]
   rw[this] at q4
   rw[q4]
  ·cases s;simp only[Sl.v,Value.slice.injEq] at e1;exact e1.1
open Go.MapKept
def Dk.list (s:Dk):List (List UInt8):=if s.down then [] else (s.files.map fun f=>f.name.toList).mergeSort fun x y=>decide (x≤y)
theorem sh:sN Tryz.prog gE gu EN.size 16:=gW (by kernel_rfl)
def nameOf (e:MapEntry):List UInt8:=match eP e.key with|some n=>n.toList|none=>[]
theorem nE (n:ByteArray):ca n.toList=n:=by
 unfold ca
 apply ByteArray.ext
 simp[ByteArray.toList_eq]
theorem jf {l r:List (List UInt8)} (h:l.Perm r):(l.mergeSort fun x y=>decide (x≤y))=r.mergeSort fun x y=>decide (x≤y):=by
 have tr:∀a b c:List UInt8,decide (a≤b)=true→decide (b≤c)=true→decide (a≤c)=true:=fun a b c h1 h2=>by simp only[decide_eq_true_eq] at*;exact List.le_trans h1 h2
 have to:∀a b:List UInt8,(decide (a≤b)||decide (b≤a))=true:=fun a b=>by simp only[Bool.or_eq_true,decide_eq_true_eq];exact List.le_total a b
 refine List.Perm.eq_of_pairwise (le:=fun a b=>decide (a≤b)=true) (fun a b _ _ h1 h2=>?_) (List.pairwise_mergeSort tr to l) (List.pairwise_mergeSort tr to r) (((List.mergeSort_perm l _).trans h).trans (List.mergeSort_perm r _).symm)
 simp only[decide_eq_true_eq] at h1 h2
 exact List.le_antisymm h1 h2
theorem uA {l m cap:Nat} {es:Array MapEntry} {clk:Nat} {H:Heap} {K:Unit→Heap→Prop} (I:List MapEntry→Heap→Prop) (hm:bR .string H m es clk) (hcap:ai H cap wT #[.map (some m)])
  (hkeys:∀e∈es.toList,∃n,e.key=.string n) (h0:∀A,Mod (fun _=>False) H A→I [] A) (hfr:∀l A A',I l A→Mod (fun b=>b=H.size) A A'→A'.size=A.size→I l A')
  (hs:∀ls e n A,I ls A→e∈es.toList→e.key=.string n→(∀y∈ls,y∈es.toList)→ls.Nodup→e∉ls→A[m]?=some (.map es clk)→H.size<A.size→bU Tryz.prog l #[.string n] A fun b A'=>b=true∧I (ls++[e]) A'∧A'[m]?=A[m]?∧A'[H.size]?=A[H.size]?)
  (hfin:∀ls A,I ls A→ls.Perm es.toList→K () A):Ac.sp l ⟨cap,0,none⟩ H K:=by
 refine Ac.of ?_
 unfold Ac.vc
 have:=hcap.ld (c:=bX) (i:=0) (x:=some m) rfl (K:=fun x=>bu al Tryz.prog (Instr.range wT (.map x)) H fun(it:Option Addr) H1=>aC Unit () H1 fun next _ H2=>bu eS Tryz.prog (Instr.next (.pointer it) false yK) H2 fun(nx:Bool×List Value) H3=>br nx.1 (bu lL Tryz.prog (Instr.entry (.pointer it)) H3 fun(en:Value×Value) H4=>Cy aR en.1 fun(k:ByteArray)=>bU Tryz.prog l #[(.string k)] H4 fun(b:Bool) H5=>br (!b) (K () H5) (next () H5)) (K () H3))
 refine this ?_
 obtain⟨et,inf,hu,_,_,_⟩:=mc
 refine mJ hu hm fun H1 hit e1=>?_
 have hit1:H.size<H1.size:=az hit
 refine mO (it:=H.size) (fun ls _ A=>I ls A∧H.size<A.size) (hm.keep (e1.same _ hm.lt id)) hit ⟨h0 H1 e1,hit1⟩ (fun l x A A' h m s=>⟨hfr l A A' h.1 m s,by omega⟩) ?_ (fun ls x A h hp _=>hfin ls A h.1 hp)
 rintro ls e ⟨⟩ A next ⟨hI,hlt⟩ he hel hsub hnd hr hito hnext
 obtain⟨n,hn⟩:=hkeys e he
 refine⟨n,by rw[hn],?_⟩
 refine(hs ls e n A hI he hn hsub hnd hel hr hlt).mono fun b A' hb=>?_
 obtain⟨rfl,h1,h2,h3⟩:=hb
 refine ar rfl (hnext () A' ⟨h1,?_⟩ h2 h3)
 obtain⟨o,ho⟩:=hito
 rw[←h3] at ho
 exact az ho
theorem qk {m cap:Nat} {es:Array MapEntry} {clk:Nat} {H:Heap} {K:Sl→Heap→Prop} (hm:bR .string H m es clk) (hcap:ai H cap wT #[.map (some m)])
  (hkeys:∀e∈es.toList,∃n,e.key=.string n) (hlen:es.size≤1048576)
  (hK:∀(s:Sl) (ls:List MapEntry) (H':Heap),aG EN gu H' s (ls.map nameOf)→ls.Perm es.toList→Mod (fun _=>False) H H'→(∀b,aj s b→H.size≤b)→K s H'):
  Eh.sp (Sl.mk none 0 0) (.func (.func Ac.no) #[] #[(.pointer (some ⟨cap,0,none⟩))]) H K:=by
 refine Eh.of ?_
 unfold Eh.vc
 refine au fun H1 s1 r1 m1=>?_
 have hcallable:c7 Tryz.prog Ac.no=true:=by kernel_rfl
 refine⟨_,_,rfl,hcallable,fun rec hround=>?_⟩
 obtain⟨r,hr⟩:∃r,r=H1.size:=⟨_,rfl⟩
 obtain⟨l,hl⟩:∃l,l=H1.size+1:=⟨_,rfl⟩
 obtain⟨p,hp⟩:∃p,p=H.size:=⟨_,rfl⟩
 rw[←hl] at hround ⊢
 rw[←hr]
 rw[←hp] at r1
 rw[←hp] at hround
 rw[←hp]
 obtain⟨HB,hHB⟩:∃HB:Heap,HB=(H1.push (.deferred (some []))).push (.loop (rec .ready none)):=⟨_,rfl⟩
 rw[←hHB]
 have eB:Mod (fun _=>False) H1 HB:=by rw[hHB];exact(Mod.push _ _ _).trans (Mod.push _ _ _)
 have sB:HB.size=H1.size+2:=by rw[hHB];simp
 have lB:HB[l]?=some (.loop (rec .ready none)):=by rw[hHB,hl,Array.getElem?_push,if_pos (by simp)]
 have rB:HB[r]?=some (.deferred (some [])):=by rw[hHB,hr];simp[Array.getElem?_push]
 have pB:ai HB p gE #[(Sl.mk none 0 0).v]:=r1.ext eB
 have mB:bR .string HB m es clk:=(hm.keep (m1.same _ hm.lt id)).keep (eB.same _ (by have:=hm.lt;omega) id)
 have cB:ai HB cap wT #[.map (some m)]:=(hcap.ext m1).ext eB
 have hml:=hm.lt
 have hcl:cap<H.size:=az hcap
 let I:List MapEntry→Heap→Prop:=fun ls A=>A[l]?=some (.loop (rec .ready none))∧A[r]?=some (.deferred (some []))∧(∃s,ai A p gE #[s.v]∧aG EN gu A s (ls.map nameOf)∧(∀b,aj s b→HB.size<b))∧Mod (fun b=>b=p∨b=l∨b=HB.size) HB A
 refine Spec.mono (R:=fun v H'=>∃x:Unit,v=(bd []).enc x∧lf l rec H' _ _ _) (uA (l:=l) (m:=m) (cap:=cap) (H:=HB) (K:=fun _ H'=>lf l rec H' _ _ _) I mB cB hkeys ?_ ?_ ?_ ?_) (fun v H' ⟨x,_,h⟩=>h)
 ·intro A hA
  exact⟨hA.at lB id,hA.at rB id,⟨_,pB.ext hA,aG.nil _ _ _,by rintro b ⟨ad,q,_⟩;cases q⟩,Ext.mod hA⟩
 ·rintro ls A A' ⟨i1,i2,⟨s,i3,i4,i5⟩,i6⟩ hA hs
  refine⟨hA.at i1 (by omega),hA.at i2 (by omega),⟨s,i3.mod hA (by omega),i4.keep fun b hb hbl=>hA.same b hbl (by have:=i5 b hb;omega),i5⟩,i6.trans (hA.mono fun b _ e=>.inr (.inr e))⟩
 ·rintro ls e n A ⟨i1,i2,⟨s,i3,i4,i5⟩,i6⟩ he hn hsub hnd hel hmA hAl
  refine hround [.string n] A _ i1 ?_
  show gm (some n) _
  refine⟨i1,?_⟩
  obtain⟨Ab,hAb⟩:∃Ab:Heap,Ab=A.setIfInBounds l (.loop (rec .busy none)):=⟨_,rfl⟩
  rw[←hAb]
  have mAb:Mod (fun b=>b=l) A Ab:=by rw[hAb];exact Mod.setObj rfl
  have sAb:Ab.size=A.size:=by rw[hAb];simp
  have lAb:Ab[l]?=some (.loop (rec .busy none)):=by rw[hAb];exact fi i1
  have hpl:p≠l:=by omega
  have p1:=i3.mod mAb hpl
  refine p1.ld (c:=aq) (i:=0) (x:=s) rfl ?_
  have tl:∀b,aj s b→b≠l:=fun b hb=>by have:=i5 b hb;omega
  have o1:aG EN gu Ab s (ls.map nameOf):=i4.keep fun b hb hbl=>mAb.same b hbl (tl b hb)
  have hln:(ls.map nameOf).length≤1048576:=by
   have:=List.Nodup.length_le_of_subset hnd (l₂:=es.toList) (fun y hy=>hsub y hy)
   simp at this ⊢;omega
  have hne:nameOf e=n.toList:=by unfold nameOf;rw[hn];rfl
  refine aG.push (E:=EN) sh (x:=n.toList) o1 (by have:=nE n;unfold ca at this;simp[EN,this]) (by omega) (by omega) fun s2 A2 o2 g2 _=>?_
  have lp:p<Ab.size:=az p1
  have tp:∀b,aj s b→b≠p:=fun b hb=>by have:=i5 b hb;omega
  have p2:ai A2 p gE #[s.v]:=p1.mod g2.1 (fun hb=>tp _ hb rfl)
  have i6s:=i6.size
  have t2:∀b,aj s2 b→HB.size<b:=fun b hb=>by
   rcases g2.2 b hb with q|q
   ·exact i5 b q
   ·omega
  have p2st:=p2.st (i:=0) (v:=s2.v) (by simp) rfl (K:=fun H5=>H5[l]?=some (.loop (rec .busy none))∧(fun b A'=>b=true∧I (ls++[e]) A'∧A'[m]?=A[m]?∧A'[HB.size]?=A[HB.size]?) true (H5.setIfInBounds l (.loop (rec .ready none))))
  rw[show (Addr.add ⟨p,0,none⟩ 0)=⟨p,0,none⟩ from rfl] at p2st
  refine p2st fun A3 p3 m3 s3=>?_
  have l2:A2[l]?=some (.loop (rec .busy none)):=g2.1.at lAb (fun hb=>tl _ hb rfl)
  have l3:A3[l]?=some (.loop (rec .busy none)):=m3.at l2 (by omega)
  refine⟨l3,rfl,⟨fi l3,?_,⟨s2,?_,?_,t2⟩,?_⟩,?_,?_⟩
  ·have m4:Mod (fun b=>b=l) A3 (A3.setIfInBounds l (.loop (rec .ready none))):=Mod.setObj rfl
   exact m4.at (m3.at (g2.1.at (mAb.at i2 (by omega)) (fun hb=>by have:=i5 _ hb;omega)) (by omega)) (by omega)
  ·have m4:Mod (fun b=>b=l) A3 (A3.setIfInBounds l (.loop (rec .ready none))):=Mod.setObj rfl
   exact ai.mod (show ai A3 p gE #[s2.v] from p3) m4 hpl
  ·have m4:Mod (fun b=>b=l) A3 (A3.setIfInBounds l (.loop (rec .ready none))):=Mod.setObj rfl
   rw[List.map_append,List.map_cons,List.map_nil,hne]
   refine o2.keep fun b hb hbl=>?_
   have:=t2 b hb
   exact(m4.same b (by omega) (by omega)).trans (m3.same b hbl (by omega))
  ·have m4:Mod (fun b=>b=l) A3 (A3.setIfInBounds l (.loop (rec .ready none))):=Mod.setObj rfl
   have z2:=g2.1.size
   refine i6.trans' (G:=fun b=>(b=l∨aj s b)∨b=p) ?_ ?_
   ·exact(((mAb.mono fun b _ e=>.inl (.inl e)).trans (g2.1.mono fun b _ e=>.inl (.inr e))).trans (m3.mono fun b _ e=>.inr e)).trans (m4.mono fun b _ e=>.inl (.inl e))
   ·rintro b hb ((e|e)|e)
    ·exact .inr (.inl e)
    ·have:=i5 b e;omega
    ·exact .inl e
  ·have m4:Mod (fun b=>b=l) A3 (A3.setIfInBounds l (.loop (rec .ready none))):=Mod.setObj rfl
   have z2:=g2.1.size
   have hmAl:=az hmA
   exact(m4.same _ (by omega) (by omega)).trans ((m3.same _ (by omega) (by omega)).trans ((g2.1.same _ (by omega) (fun hb=>by have:=i5 _ hb;omega)).trans (mAb.same _ hmAl (by omega))))
  ·have m4:Mod (fun b=>b=l) A3 (A3.setIfInBounds l (.loop (rec .ready none))):=Mod.setObj rfl
   have z2:=g2.1.size
   exact(m4.same _ (by omega) (by omega)).trans ((m3.same _ (by omega) (by omega)).trans ((g2.1.same _ (by omega) (fun hb=>by have:=i5 _ hb;omega)).trans (mAb.same _ (by omega) (by omega))))
 ·rintro ls A ⟨i1,i2,⟨s,i3,i4,i5⟩,i6⟩ hperm
  refine⟨.ready,none,i1,rfl,?_⟩
  show ld aq _ _ _
  have m4:Mod (fun b=>b=l) A (A.setIfInBounds l (.loop (rec .exhausted none))):=Mod.setObj rfl
  have p4:=i3.mod m4 (by omega)
  refine p4.ld (c:=aq) (i:=0) (x:=s) rfl ?_
  have r4:=m4.at i2 (by omega)
  refine⟨r4,?_⟩
  have m5:Mod (fun b=>b=r) (A.setIfInBounds l (.loop (rec .exhausted none))) ((A.setIfInBounds l (.loop (rec .exhausted none))).setIfInBounds r (.deferred none)):=Mod.setObj rfl
  have z6:=i6.size
  have z4:=m4.size
  refine hK s ls _ ?_ hperm ?_ (fun b hb=>by have:=i5 b hb;omega)
  ·refine i4.keep fun b hb hbl=>?_
   have:=i5 b hb
   exact(m5.same b (by omega) (by omega)).trans (m4.same b hbl (by omega))
  ·have z5:=m5.size
   refine⟨by omega,fun b hb _=>(m5.same b (by omega) (by omega)).trans ((m4.same b (by omega) (by omega)).trans ((i6.same b (by omega) (by omega)).trans ((eB.same b (by omega) id).trans (m1.same b hb id))))⟩
theorem Dx {F:Nat→Prop} {d:Nat} {s:Dk} {H:Heap} {K:Sl→Heap→Prop} (h:bf F H d s) (hK:∀l H',aG EN gu H' l s.list→Mod (fun _=>False) H H'→(∀b,aj l b→H.size≤b)→K l H'):Ev.sp (ay d) H K:=by
 obtain⟨x,cin,kp,g,hF⟩:=h
 refine Ev.of ?_
 unfold Ev.vc
 refine jA g.head (down:=s.down) rfl ?_
 cases hd:s.down with
 |true=>
   refine aU rfl (hK _ H ?_ (.refl _ _) (by rintro b ⟨ad,q,_⟩;cases q))
   unfold Dk.list;rw[hd];exact aG.nil _ _ _
 |false=>
   refine ar rfl ?_
   refine g.head.ld (c:=bX) (i:=0) (x:=some x.m) rfl ?_
   refine Ft.of ?_
   unfold Ft.vc
   refine au fun H1 s1 r1 m1=>?_
   refine Fi.of ?_
   unfold Fi.vc
   refine Fk.of ?_
   unfold Fk.vc
   have hm1:bR .string H1 x.m x.es x.clk:=g.files.map.keep (m1.same _ g.files.map.lt id)
   have hfl:=g.wf.files
   have hsz:=g.files.size
   refine qk hm1 r1 (fun e he=>?_) (by omega) fun sl ls H2 o2 hp m2 f2=>?_
   ·obtain⟨i,f,gf,_,_,h3,_⟩:=g.files.ent' e.key e.val ⟨e,he,rfl,rfl⟩
    exact⟨_,h3⟩
   have hpn:(ls.map nameOf).Perm (s.files.map fun f=>f.name.toList):=by
    have h1:=((hp.map (·.key)).trans (g.files.perm g.wf)).map fun k=>match eP k with|some n=>n.toList|none=>[]
    rw[List.map_map,List.map_map] at h1
    exact h1
   have hln:(ls.map nameOf).length≤4096:=by rw[hpn.length_eq];simpa using hfl
   refine sx o2 (by omega) fun H3 o3 m3=>?_
   rw[jf hpn] at o3
   have z1:=m1.size;have z2:=m2.size;have z3:=m3.size
   refine hK sl H3 ?_ ⟨by omega,fun b hb _=>(m3.same b (by omega) fun hh=>by have:=f2 b hh;omega).trans ((m2.same b (by omega) id).trans (m1.same b hb id))⟩ (fun b hb=>by have:=f2 b hb;omega)
   unfold Dk.list;rw[hd];exact o3
theorem mS (l:List UInt8):(ca l).toList=l:=by
 rw[ByteArray.toList_eq];rfl
theorem oq {H:Heap} {z:Sl} {L:List (List UInt8)} (h:aG EN gu H z L) {i:Nat} (hi:i<L.length) {K:ByteArray→Prop} (hK:K (ca L[i])):ab z.a fun a=>(0≤(i:Int)∧(i:Int)<(z.n:Int))∧ld aR H (a.add ((i:Int).toNat*1)) K:=by
 have hn:=h.n (by decide)
 obtain⟨ad,ha⟩:=cL.addr h.rd (by decide) (by omega)
 rw[ha]
 refine⟨⟨by omega,by omega⟩,?_⟩
 simp only[Int.toNat_natCast]
 exact aG.one (c:=aR) (y:=ca L[i]) h (List.getElem?_eq_getElem hi) rfl rfl ha hK
theorem qi {L:List (List UInt8)} {x:List UInt8} {a:Nat} (hL:L.Pairwise (·≤·)) (ha:a≤L.length) (h1:∀j (hj:j<L.length),j<a→L[j]<x) (h2:∀j (hj:j<L.length),a≤j→x≤L[j]):(L.take a++[x]++L.drop a).Pairwise (·≤·):=by
 rw[List.append_assoc,List.pairwise_append]
 refine⟨hL.sublist (List.take_sublist _ _),?_,?_⟩
 ·rw[List.singleton_append,List.pairwise_cons]
  refine⟨fun y hy=>?_,hL.sublist (List.drop_sublist _ _)⟩
  obtain⟨k,hk,rfl⟩:=List.getElem_of_mem hy
  simp at hk ⊢
  exact h2 (a+k) (by omega) (by omega)
 ·intro y hy z hz
  obtain⟨k,hk,rfl⟩:=List.getElem_of_mem hy
  simp at hk
  have hyx:L[k]<x:=h1 k (by omega) (by omega)
  simp only[List.getElem_take]
  rcases List.mem_append.1 hz with q|q
  ·simp at q;subst q;exact List.le_of_lt hyx
  ·obtain⟨m,hm,rfl⟩:=List.getElem_of_mem q
   simp at hm ⊢
   exact List.le_trans (List.le_of_lt hyx) (h2 (a+m) (by omega) (by omega))
theorem zI {F:Nat→Prop} {d:Nat} {s:Dk} {H:Heap} {K:Sl→Heap→Prop} (h:bY F H d s) (hK:∀l H',aG EN gu H' l s.list→Mod (fun _=>False) H H'→(∀b,aj l b→H.size≤b)→K l H'):Et.sp (ay d) H K:=by
 obtain⟨fl,gs,cin,kp,g,_⟩:=h
 refine Et.of ?_
 unfold Et.vc
 simp only[ak]
 have hfl:=g.wf.files
 have hn:=g.files.n
 have fin:∀(L:List (List UInt8)) (l:Sl) (A:Heap),s.down=false→aG EN gu A l L→L.Pairwise (·≤·)→L.Perm (s.files.map fun f=>f.name.toList)→Mod (fun _=>False) H A→(∀b,aj l b→H.size≤b)→K l A:=by
  intro L l A hd o hs hp m f
  refine hK l A ?_ m f
  have e:s.list=L:=by
   unfold Dk.list;rw[hd]
   simp only[Bool.false_eq_true,if_false]
   rw[←jf hp]
   have tr:∀a b c:List UInt8,decide (a≤b)=true→decide (b≤c)=true→decide (a≤c)=true:=fun a b c h1 h2=>by simp only[decide_eq_true_eq] at*;exact List.le_trans h1 h2
   have to:∀a b:List UInt8,(decide (a≤b)||decide (b≤a))=true:=fun a b=>by simp only[Bool.or_eq_true,decide_eq_true_eq];exact List.le_total a b
   refine List.Perm.eq_of_pairwise (le:=fun a b=>decide (a≤b)=true) (fun a b _ _ h1 h2=>?_) (List.pairwise_mergeSort tr to L) (hs.imp fun h=>by simpa using h) (List.mergeSort_perm L _)
   simp only[decide_eq_true_eq] at h1 h2
   exact List.le_antisymm h1 h2
  rw[e];exact o
 refine aw s.files.length (fun k x H1=>x.2=(k:Int)∧Mod (fun _=>False) H H1∧(∀b,aj x.1 b→H.size≤b)∧(s.down=true→k=0∧x.1=Sl.mk none 0 0)∧∃L,aG EN gu H1 x.1 L∧L.Pairwise (·≤·)∧L.Perm ((s.files.take k).map fun f=>f.name.toList)) ⟨rfl,.refl _ _,(by rintro b ⟨ad,q,_⟩;cases q),fun _=>⟨rfl,rfl⟩,[],aG.nil _ _ _,List.Pairwise.nil,by simp⟩ ?_
 rintro k ⟨l,i⟩ H1 next hk ⟨hi,m1,f1,hdn,L,o1,hs,hp⟩ hnext
 simp only at hi
 subst hi
 simp only at f1 hdn o1 hnext ⊢
 have d1:=g.head.ext m1
 have F1:aJ H1 fl gs s.files:=g.files.keep fun b hb hl=>m1.same b hl id
 have downK:s.down=true→K l H1:=by
  intro hd
  obtain⟨_,e⟩:=hdn hd
  rw[e]
  refine hK _ H1 ?_ m1 (by rintro b ⟨ad,q,_⟩;cases q)
  unfold Dk.list;rw[hd];exact aG.nil _ _ _
 refine d1.ld (c:=aq) (i:=0) (x:=fl) rfl ?_
 refine ag (fun hc=>?_) (fun hc=>?_)
 ·have hlt:k<s.files.length:=by rw[hn] at hc;simpa using hc
  refine d1.ld (c:=ax) (i:=8) (x:=s.down) rfl ?_
  cases hd:s.down with
  |true=>exact ar rfl (downK hd)
  |false=>
    refine aU rfl ?_
    have hf:s.files[k]?=some s.files[k]:=List.getElem?_eq_getElem hlt
    obtain⟨f,hfe⟩:∃f,f=s.files[k]:=⟨_,rfl⟩
    rw[←hfe] at hf
    obtain⟨gg,hg,_,_⟩:=F1.yc hf
    have hLl:L.length=k:=by rw[hp.length_eq];simp;omega
    have hln:=o1.n (by decide)
    have hcap:=o1.cap
    have hx:=nE f.name
    have ins:∀a:Nat,a≤L.length→(∀j (hj:j<L.length),j<a→L[j]<f.name.toList)→(∀j (hj:j<L.length),a≤j→f.name.toList≤L[j])→
      ((0≤(a:Int)∧(a:Int)≤(l.c:Int))∧bu aq Tryz.prog (Builtin.append_ #[gE,gE] gE #[(.slice none 0 0),(.slice (eQ l.a l.c 0 1) ((a:Int).toNat - 0) (l.c - 0))]) H1 fun(s_3:Sl) H7=>ld aq H7 (Addr.add ⟨d,0,none⟩ 0) fun(x_7:Sl)=>ab x_7.a fun a_8=>(0≤(k:Int)∧(k:Int)<(x_7.n:Int))∧ld aR H7 ((a_8.add ((k:Int).toNat*3)).add 0) fun(x_8:ByteArray)=>aP H7 #[(.string x_8)] gu fun p_2 H8=>bu aq Tryz.prog (Builtin.append_ #[gE,gE] gE #[s_3.v,(.slice (some p_2) 1 1)]) H8 fun(s_4:Sl) H9=>(0≤(a:Int)∧(a:Int)≤(l.n:Int))∧bu aq Tryz.prog (Builtin.append_ #[gE,gE] gE #[s_4.v,(.slice (eQ l.a l.c (a:Int).toNat 1) (l.n - (a:Int).toNat) (l.c - (a:Int).toNat))]) H9 fun(s_5:Sl) H10=>next (s_5,IntKind.i64.wrap ((k:Int)+(1:Int))) H10):=by
     intro a ha h1 h2
     refine⟨⟨by omega,by omega⟩,?_⟩
     have t1:cL EN H1 (eQ l.a l.c 0 1) (L.take a):=by rw[qO];exact o1.rd.take
     refine aG.append (E:=EN) sh (s:=Sl.mk none 0 0) (x:=⟨eQ l.a l.c 0 1,(a:Int).toNat - 0,l.c - 0⟩) (l:=[]) (aG.nil _ _ _) t1 (by simp;omega) (by simp;omega) (by simp;omega) fun l2 H2 o2 g2 _=>?_
     have f2:∀b,aj l2 b→H1.size≤b:=fun b hb=>(g2.2 b hb).resolve_left (by rintro⟨ad,q,_⟩;cases q)
     have m2:Mod (fun _=>False) H1 H2:=g2.1.mono fun b _ hb=>by obtain⟨ad,q,_⟩:=hb;cases q
     refine(d1.ext m2).ld (c:=aq) (i:=0) (x:=fl) rfl ?_
     have F2:aJ H2 fl gs s.files:=F1.keep fun b hb hl=>m2.same b hl id
     refine F2.ld1 hf hg (j:=0) (c:=aR) (y:=f.name) rfl ?_
     refine aG.push (E:=EN) sh (x:=f.name.toList) o2 (by unfold ca at hx;simp[EN,hx]) (by simp;omega) (by simp;omega) fun l3 H3 o3 g3 _=>?_
     have z2:=m2.size;have z3:=g3.1.size
     have f3:∀b,aj l3 b→H1.size≤b:=fun b hb=>by
      rcases g3.2 b hb with q|q
      ·exact f2 b q
      ·omega
     have m13:Mod (fun _=>False) H1 H3:=⟨by omega,fun b hb _=>(g3.1.same b (by omega) fun hh=>by have:=f2 b hh;omega).trans (m2.same b hb id)⟩
     refine⟨⟨by omega,by omega⟩,?_⟩
     have o13:aG EN gu H3 l L:=o1.ext m13
     have t3:cL EN H3 (eQ l.a l.c a 1) (L.drop a):=cL.drop o13.rd (by omega)
     simp only[Int.toNat_natCast]
     refine aG.append (E:=EN) sh (s:=l3) (x:=⟨eQ l.a l.c a 1,l.n - a,l.c - a⟩) o3 t3 (by simp;omega) (by simp;omega) (by simp;omega) fun l4 H4 o4 g4 _=>?_
     have z4:=g4.1.size;have z1:=m1.size
     refine hnext hlt _ _ ⟨aK k (by omega),⟨by omega,fun b hb _=>(g4.1.same b (by omega) fun hh=>by have:=f3 b hh;omega).trans ((m13.same b (by omega) id).trans (m1.same b hb id))⟩,?_,(fun h=>by rw[hd] at h;cases h),_,o4,?_,?_⟩
     ·intro b hb
      rcases g4.2 b hb with q|q
      ·have:=f3 b q;omega
      ·omega
     ·simp only[List.nil_append]
      exact qi hs ha h1 h2
     ·simp only[List.nil_append]
      rw[List.take_succ_eq_append_getElem hlt,←hfe,List.map_append,List.map_cons,List.map_nil]
      refine List.Perm.trans ?_ (hp.append_right _)
      have e:=List.take_append_drop a L
      conv=>rhs;rw[←e]
      rw[List.append_assoc,List.append_assoc]
      exact List.Perm.append_left _ (List.perm_append_comm)
    refine aw L.length (fun a x H2=>x=(a:Int)∧H2=H1∧∀j (hj:j<L.length),j<a→L[j]<f.name.toList) ⟨rfl,rfl,fun j _ h=>by omega⟩ ?_
    rintro a _ H2 next1 ha ⟨rfl,rfl,hlo⟩ hnext1
    refine ag (fun hc1=>?_) (fun hc1=>?_)
    ·have ha':a<L.length:=by rw[hln] at hc1;simpa using hc1
     refine oq o1 ha' ?_
     refine d1.ld (c:=aq) (i:=0) (x:=fl) rfl ?_
     refine F1.ld1 hf hg (j:=0) (c:=aR) (y:=f.name) rfl ?_
     rw[mS,bytesLess_eq]
     refine ag (fun hb=>?_) (fun hb=>?_)
     ·have hb':L[a]<f.name.toList:=by simpa using hb
      refine hnext1 ha' _ _ ⟨aK a (by omega),rfl,fun j hj hja=>?_⟩
      rcases Nat.lt_or_ge j a with q|q
      ·exact hlo j hj q
      ·have:j=a:=by omega
       subst this;exact hb'
     ·have hb':¬L[a]<f.name.toList:=by simpa using hb
      refine ins a (by omega) hlo fun j hj haj=>?_
      refine List.le_trans (List.not_lt.1 hb') ?_
      rcases Nat.lt_or_ge a j with q|q
      ·exact(List.pairwise_iff_getElem.1 hs) a j ha' hj q
      ·have:a=j:=by omega
       subst this;exact List.le_refl _
    ·have hge:a=L.length:=by rw[hln] at hc1;simp at hc1;omega
     exact ins a (by omega) hlo fun j hj haj=>by omega
 ·have hge:k=s.files.length:=by rw[hn] at hc;simp at hc;omega
  rw[hge,List.take_of_length_le (Nat.le_refl _)] at hp
  cases hd:s.down with
  |true=>exact downK hd
  |false=>exact fin L l H1 hd o1 hs hp m1 f1
end Go.Proofs.YtdpdmbceakdlmaaGreatDoor
