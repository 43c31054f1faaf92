/-
 The document's disk in memory; its files' pages; what it looks up.
-/
import Derived.Test.YtdpdmbceakdlmaaGreatDoorDku
namespace Go.Proofs.YtdpdmbceakdlmaaGreatDoor
open Go.MapKept
def gZ:eC Pg:=⟨1,fun p=>[.string (ca p.1)],fun _=>rfl,fun x u hu=>by simp at hu;subst hu;rfl⟩
def sW:eC Wr:=⟨3,fun w=>[.int .i64 w.no,.int .i64 w.page,.string (ca w.b.1)],fun _=>rfl,fun x u hu=>by simp at hu;rcases hu with rfl|rfl|rfl<;>rfl⟩
def qj:eC (ByteArray×Sl×Sl):=⟨3,fun f=>[.string f.1,f.2.1.v,f.2.2.v],fun _=>rfl,fun x u hu=>by simp at hu;rcases hu with rfl|rfl|rfl<;>rfl⟩
theorem AQ:sN Tryz.prog gE gu gZ.size 16:=gW (by kernel_rfl)
theorem Gw:sN Tryz.prog Gt uO sW.size 32:=gW (by kernel_rfl)
theorem FF:sN Tryz.prog E4 sj qj.size 64:=gW (by kernel_rfl)
def sf:List Fl→List (Sl×Sl)→List (ByteArray×Sl×Sl)
 |f::fs,g::gs=>(f.name,g.1,g.2)::sf fs gs
 |_,_=>[]
theorem j3:∀(fs:List Fl) (gs:List (Sl×Sl)) (i:Nat) (f:Fl) (g:Sl×Sl),fs[i]?=some f→gs[i]?=some g→(sf fs gs)[i]?=some (f.name,g.1,g.2)
 |[],_,_,_,_,h,_=>by simp at h
 |_::_,[],_,_,_,_,h=>by simp at h
 |f::fs,g::gs,0,_,_,h1,h2=>by simp at h1 h2;subst h1;subst h2;rfl
 |f::fs,g::gs,i+1,f',g',h1,h2=>by simpa[sf] using j3 fs gs i f' g' (by simpa using h1) (by simpa using h2)
theorem ft:∀(fs:List Fl) (gs:List (Sl×Sl)),gs.length=fs.length→(sf fs gs).length=fs.length
 |[],_,_=>by cases ‹List (Sl×Sl)›<;>rfl
 |_::_,[],h=>by simp at h
 |f::fs,g::gs,h=>by simp[sf,ft fs gs (by simpa using h)]
structure aJ (H:Heap) (fl:Sl) (gs:List (Sl×Sl)) (fs:List Fl):Prop where
 arr:aG qj sj H fl (sf fs gs)
 len:gs.length=fs.length
 ent:∀(i:Nat) (f:Fl) (g:Sl×Sl),fs[i]?=some f→gs[i]?=some g→aG gZ gu H g.1 f.synced∧aG sW uO H g.2 f.log
 apart:∀(i j:Nat) (g g':Sl×Sl),gs[i]?=some g→gs[j]?=some g'→i≠j→∀b,aj g.2 b→¬aj g'.2 b
def wR (fl:Sl) (gs:List (Sl×Sl)) (b:Nat):Prop:=aj fl b∨∃g∈gs,aj g.1 b∨aj g.2 b
theorem aJ.yc {H:Heap} {fl:Sl} {gs:List (Sl×Sl)} {fs:List Fl} (h:aJ H fl gs fs) {i:Nat} {f:Fl} (hi:fs[i]?=some f):∃g,gs[i]?=some g∧aG gZ gu H g.1 f.synced∧aG sW uO H g.2 f.log:=by
 have hlt:=(List.getElem?_eq_some_iff.1 hi).1
 have hg:gs[i]?=some (gs[i]'(by rw[h.len];exact hlt)):=List.getElem?_eq_getElem _
 exact⟨_,hg,h.ent i f _ hi hg⟩
theorem aJ.tM {H:Heap} {fl:Sl} {gs:List (Sl×Sl)} {fs:List Fl} (h:aJ H fl gs fs) {i:Nat} {g:Sl×Sl} (hi:gs[i]?=some g):∃f,fs[i]?=some f∧aG gZ gu H g.1 f.synced∧aG sW uO H g.2 f.log:=by
 have hlt:=(List.getElem?_eq_some_iff.1 hi).1
 have hg:fs[i]?=some (fs[i]'(by rw[←h.len];exact hlt)):=List.getElem?_eq_getElem _
 exact⟨_,hg,h.ent i _ g hg hi⟩
theorem aJ.lt {H:Heap} {fl:Sl} {gs:List (Sl×Sl)} {fs:List Fl} (h:aJ H fl gs fs):∀b,wR fl gs b→b<H.size:=by
 rintro b (q|⟨g,hg,q⟩)
 ·exact h.arr.lt b q
 ·obtain⟨i,hi⟩:=List.mem_iff_getElem?.1 hg
  obtain⟨f,_,q1,q2⟩:=h.tM hi
  rcases q with q|q
  ·exact q1.lt b q
  ·exact q2.lt b q
theorem aJ.keep {H H':Heap} {fl:Sl} {gs:List (Sl×Sl)} {fs:List Fl} (h:aJ H fl gs fs) (k:∀b,wR fl gs b→b<H.size→H'[b]?=H[b]?):aJ H' fl gs fs:=
 ⟨h.arr.keep fun b hb=>k b (.inl hb),h.len,fun i f g hf hg=>⟨(h.ent i f g hf hg).1.keep fun b hb=>k b (.inr ⟨g,List.mem_of_getElem? hg,.inl hb⟩),(h.ent i f g hf hg).2.keep fun b hb=>k b (.inr ⟨g,List.mem_of_getElem? hg,.inr hb⟩)⟩,h.apart⟩
theorem aJ.ty {H:Heap} {fl:Sl} {gs:List (Sl×Sl)} {fs:List Fl} (h:aJ H fl gs fs):∀b,wR fl gs b→∃cs t,H[b]?=some (.cells cs t (0,0))∧(t=sj∨t=gu∨t=uO):=by
 rintro b (q|⟨g,hg,q⟩)
 ·obtain⟨c,e⟩:=h.arr.obj b q;exact⟨c,_,e,.inl rfl⟩
 ·obtain⟨i,hi⟩:=List.mem_iff_getElem?.1 hg
  obtain⟨f,_,q1,q2⟩:=h.tM hi
  rcases q with q|q
  ·obtain⟨c,e⟩:=q1.obj b q;exact⟨c,_,e,.inr (.inl rfl)⟩
  ·obtain⟨c,e⟩:=q2.obj b q;exact⟨c,_,e,.inr (.inr rfl)⟩
def cZ (fl:Sl) (most quota ops next:Int) (laid:Bool) (cin kp:Int) (down:Bool):Array Value:=
 #[fl.v,.int .i64 most,.int .i64 quota,.int .i64 ops,.int .i64 next,.bool laid,.int .i64 cin,.int .u64 kp,.bool down]
structure gY (fl:Sl) (gs:List (Sl×Sl)) (cin kp:Int) (H:Heap) (d:Nat) (s:Dk):Prop where
 head:ai H d sK (cZ fl s.most s.quota s.ops s.next s.crash.isSome cin kp s.down)
 crash:iP s cin kp
 files:aJ H fl gs s.files
 wf:s.WF
def bY (F:Nat→Prop) (H:Heap) (d:Nat) (s:Dk):Prop:=∃fl gs cin kp,gY fl gs cin kp H d s∧∀b,F b↔b=d∨wR fl gs b
theorem gY.off {H:Heap} {d:Nat} {fl:Sl} {gs:List (Sl×Sl)} {fs:List Fl} {cs:Array Value} (hd:ai H d sK cs) (h:aJ H fl gs fs):¬wR fl gs d:=by
 intro hb
 obtain⟨c,t,e,ht⟩:=h.ty d hb
 rw[←aL hd e] at ht
 exact absurd ht (by decide)
theorem bY.lt {F:Nat→Prop} {H:Heap} {d:Nat} {s:Dk} (h:bY F H d s):∀b,F b→b<H.size:=by
 obtain⟨fl,gs,cin,kp,g,hF⟩:=h
 intro b hb
 rcases (hF b).1 hb with rfl|q
 ·exact az g.head
 ·exact g.files.lt b q
theorem bY.keep {F:Nat→Prop} {H H':Heap} {d:Nat} {s:Dk} (h:bY F H d s) (k:∀b,F b→b<H.size→H'[b]?=H[b]?):bY F H' d s:=by
 obtain⟨fl,gs,cin,kp,g,hF⟩:=h
 exact⟨fl,gs,cin,kp,⟨(k d ((hF d).2 (.inl rfl)) (az g.head)).trans g.head,g.crash,g.files.keep fun b hb=>k b ((hF b).2 (.inr hb)),g.wf⟩,hF⟩
theorem bY.wf {F:Nat→Prop} {H:Heap} {d:Nat} {s:Dk} (h:bY F H d s):s.WF:=by
 obtain⟨fl,gs,cin,kp,g,hF⟩:=h;exact g.wf
theorem gY.out {fl fl':Sl} {gs gs':List (Sl×Sl)} {cin kp:Int} {F:Nat→Prop} {H H':Heap} {d:Nat} {s:Dk} (h:gY fl' gs' cin kp H' d s) (hF:∀b,F b↔b=d∨wR fl gs b) (hm:Mod F H H') (ho:∀b,wR fl' gs' b→wR fl gs b∨H.size≤b):
  ∃F',bY F' H' d s∧Step F F' H H':=
 ⟨fun b=>b=d∨wR fl' gs' b,⟨fl',gs',cin,kp,h,fun _=>Iff.rfl⟩,hm,by
  rintro b (e|q)
  ·exact .inl ((hF b).2 (.inl e))
  ·exact(ho b q).imp (fun q=>(hF b).2 (.inr q)) id⟩
theorem aG.one {α:Type} {E:eC α} {e:TypeId} {H:Heap} {s:Sl} {l:List α} (h:aG E e H s l) {i:Nat} {x:α} {c:dN} {y:c.α} (hi:l[i]?=some x) (hs:E.size=1) (hy:E.enc x=[c.enc y]) {ad:Addr} (ha:s.a=some ad) {K:c.α→Prop} (hK:K y):ld c H (ad.add (i*1)) K:=by
 have:=cL.ld (c:=c) (K:=K) h.rd ha (i:=i) (j:=0) hi (by rw[hy];rfl) (n:=i*1) (by rw[hs]) hK
 rw[add_add] at this
 exact this
theorem w7 {l:Sl} {ps:List Pg} {w:Wr} {H:Heap} {K:Sl→Heap→Prop} (h:aG gZ gu H l ps) (hlen:ps.length≤2097152) (hpage:w.page<2097152)
  (hK:∀l' H',aG gZ gu H' l' (cY ps w)→Mod (fun _=>False) H H'→(∀b,aj l' b→H.size≤b)→K l' H'):Cx.sp l w.no w.page (ca w.b.1) H K:=by
 refine Cx.of ?_
 unfold Cx.vc
 refine au fun H1 s1 r1 m1=>?_
 have hl1:aG gZ gu H1 l ps:=h.ext m1
 refine aG.append (E:=gZ) AQ (s:=Sl.mk none 0 0) (x:=l) (l:=[]) (aG.nil _ _ _) hl1.rd (hl1.n (by decide)) (by simp;omega) (by simp;omega) fun out H2 o2 g2 _=>?_
 have f2:∀b,aj out b→H1.size≤b:=fun b hb=>(g2.2 b hb).resolve_left (by rintro⟨ad,q,_⟩;cases q)
 have m12:Mod (fun _=>False) H1 H2:=g2.1.mono fun b _ hb=>by obtain⟨ad,q,_⟩:=hb;cases q
 refine⟨Nat,fun k l1 H3=>aG gZ gu H3 l1 (ps++List.replicate k Bz)∧k≤w.page+1 - ps.length∧Mod (fun _=>False) H1 H3∧(∀b,aj l1 b→H1.size≤b),fun k=>w.page+1 - ps.length - k,⟨0,by simpa using o2,Nat.zero_le _,m12,f2⟩,?_⟩
 rintro k l1 H3 ⟨o3,hk,m3,f3⟩
 have hn:l1.n=ps.length+k:=by rw[aG.n o3 (by decide)];simp
 have r3:=r1.ext m3
 refine r3.ld (c:=aa .i64) (i:=1) (x:=(w.page:Int)) rfl ?_
 refine ag (fun hc=>?_) (fun hc=>?_)
 ·have hc':l1.n≤w.page:=by simpa using hc
  refine BU.make (base:=0) (by omega) (Int.le_refl _) (by omega) (by omega) (Nat.zero_le _) fun b4 H4 hn4 o4 e4 f4 _=>?_
  have o4':aG EB eA H4 b4 Bz.1:=by
   refine Fc ?_
   have:Bz.1=List.replicate 512 0:=rfl
   rw[this,Ck]
   exact o4
  refine iJ (bM o4') ?_
  refine aG.push (E:=gZ) AQ (x:=Bz) (o3.ext e4) rfl (by simp;omega) (by simp;omega) fun s5 H5 o5 g5 _=>?_
  have z3:=m3.size;have z4:=e4.size;have z5:=g5.1.size
  refine⟨k+1,⟨?_,by omega,?_,?_⟩,by show _ - _<_ - _;omega⟩
  ·rw[List.append_assoc,←List.replicate_succ'] at o5;exact o5
  ·refine⟨by omega,fun b hb _=>(g5.1.same b (by omega) fun hh=>by have:=f3 b hh;omega).trans ((e4.same b (by omega) id).trans (m3.same b hb id))⟩
  ·intro b hb
   rcases g5.2 b hb with q|q
   ·exact f3 b q
   ·omega
 ·have hc':w.page<l1.n:=by simpa using hc
  refine r3.ld (c:=aa .i64) (i:=1) (x:=(w.page:Int)) rfl ?_
  refine r3.ld (c:=aR) (i:=2) (x:=ca w.b.1) rfl ?_
  obtain⟨ad,ha⟩:=cL.addr o3.rd (by decide) (by simp;omega)
  rw[ha]
  refine⟨⟨by omega,by omega⟩,?_⟩
  have hx:(ps++List.replicate k Bz)[w.page]?=some ((ps++List.replicate k Bz)[w.page]'(by simp;omega)):=List.getElem?_eq_getElem _
  have:=aG.st (E:=gZ) o3 ha (i:=w.page) (j:=0) (y:=w.b) (v:=.string (ca w.b.1)) (K:=fun H7=>K l1 H7) hx (by decide) rfl rfl (n:=w.page*1) rfl fun H4 o4 m4 s4=>by
   have hkk:k=w.page+1 - ps.length:=by omega
   have z3:=m3.size
   refine hK l1 H4 (by unfold cY;rw[←hkk];exact o4) ⟨by omega,fun b hb _=>(m4.same b (by omega) fun hh=>by have:=f3 b hh;omega).trans ((m3.same b (by omega) id).trans (m1.same b hb id))⟩ (fun b hb=>by have:=f3 b hb;omega)
  rw[add_add] at this
  simp only[Int.toNat_natCast]
  exact this
theorem jB {f:Fl} {g:Sl×Sl} {nm:ByteArray} {H:Heap} {K:Sl→Heap→Prop} (h1:aG gZ gu H g.1 f.synced) (h2:aG sW uO H g.2 f.log) (hp:f.ao.length≤2097152) (hl:f.log.length<68719476736)
  (hK:∀l H',aG gZ gu H' l f.ao→Mod (fun _=>False) H H'→(∀b,aj l b→H.size≤b)→K l H'):yV.sp nm g.1 g.2 H K:=by
 refine yV.of ?_
 unfold yV.vc
 refine au fun H1 s1 r1 m1=>?_
 refine r1.ld (c:=aq) (i:=1) (x:=g.1) rfl ?_
 have hsl:=f.qy
 have a1:aG gZ gu H1 g.1 f.synced:=h1.ext m1
 have b1:aG sW uO H1 g.2 f.log:=h2.ext m1
 refine aG.append (E:=gZ) AQ (s:=Sl.mk none 0 0) (x:=g.1) (l:=[]) (aG.nil _ _ _) a1.rd (a1.n (by decide)) (by simp;omega) (by simp;omega) fun out H2 o2 g2 _=>?_
 have f2:∀b,aj out b→H1.size≤b:=fun b hb=>(g2.2 b hb).resolve_left (by rintro⟨ad,q,_⟩;cases q)
 have m12:Mod (fun _=>False) H1 H2:=g2.1.mono fun b _ hb=>by obtain⟨ad,q,_⟩:=hb;cases q
 have hn:=b1.n (by decide)
 refine aw f.log.length (fun k x H3=>x.2=(k:Int)∧aG gZ gu H3 x.1 ((f.log.take k).foldl cY f.synced)∧Mod (fun _=>False) H1 H3∧(∀b,aj x.1 b→H1.size≤b)) ⟨rfl,by simpa using o2,m12,f2⟩ ?_
 rintro k ⟨l1,i⟩ H3 next hk ⟨hi,o3,m3,f3⟩ hnext
 simp only at hi
 subst hi
 simp only at o3 f3 hnext ⊢
 have r3:=r1.ext m3
 refine r3.ld (c:=aq) (i:=2) (x:=g.2) rfl ?_
 refine ag (fun hc=>?_) (fun hc=>?_)
 ·have hlt:k<f.log.length:=by rw[hn] at hc;simpa using hc
  refine r3.ld (c:=aq) (i:=2) (x:=g.2) rfl ?_
  have b3:=b1.ext m3
  obtain⟨ad,ha⟩:=cL.addr (aG.rd b3) (by decide) (by omega)
  rw[ha]
  refine⟨⟨by omega,by omega⟩,?_⟩
  have hw:f.log[k]?=some f.log[k]:=List.getElem?_eq_getElem hlt
  obtain⟨w,hwe⟩:∃w,w=f.log[k]:=⟨_,rfl⟩
  rw[←hwe] at hw
  refine cL.dE (E:=sW) (c:=cX [(aa .i64),(aa .i64),aR]) (y:=(w.no,(w.page:Int),ca w.b.1)) (aG.rd b3) ha hw rfl (by simp[sW]) rfl ?_
  have hle:((f.log.take k).foldl cY f.synced).length≤f.ao.length:=by
   have:=j8 f.log (fun _=>true) k f.synced
   rw[List.filter_eq_self.2 (fun _ _=>rfl)] at this
   exact this
  have hpg:=j5 f.log f.synced w (List.mem_of_getElem? hw)
  have hpe:(f.log.foldl cY f.synced).length=f.ao.length:=rfl
  refine w7 (w:=w) o3 (by omega) (by omega) fun l4 H4 o4 m4 f4=>?_
  have z3:=m3.size
  refine hnext hlt _ _ ⟨aK k (by omega),?_,m3.trans m4,fun b hb=>by have:=f4 b hb;omega⟩
  rw[List.take_succ_eq_append_getElem hlt,←hwe,List.foldl_append]
  exact o4
 ·have hge:k=f.log.length:=by rw[hn] at hc;simp at hc;omega
  rw[hge,List.take_of_length_le (Nat.le_refl _)] at o3
  exact hK l1 H3 o3 (m1.trans m3) (fun b hb=>by have:=f3 b hb;omega)
end Go.Proofs.YtdpdmbceakdlmaaGreatDoor
