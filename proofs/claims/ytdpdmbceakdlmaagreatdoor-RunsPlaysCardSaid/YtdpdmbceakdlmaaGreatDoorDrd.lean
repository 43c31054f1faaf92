/-
 The document's disk: Remove, Rename, Len, Read, Sync, Write.
-/
import Derived.Test.YtdpdmbceakdlmaaGreatDoorDrc
namespace Go.Proofs.YtdpdmbceakdlmaaGreatDoor
open Go.MapKept
theorem vA {H:Heap} {fl:Sl} {l:List (ByteArray×Sl×Sl)} (h:aG qj sj H fl l) {i j:Nat} {x y:ByteArray×Sl×Sl} {v:Value} (hi:l[i]?=some x) (hj:j<3) (hp:iI v=true) (hy:qj.enc y=(qj.enc x).set j v) {K:Heap→Prop}
  (hK:∀H',aG qj sj H' fl (l.set i y)→Mod (aj fl) H H'→H'.size=H.size→K H'):ab fl.a fun a=>(0≤(i:Int)∧(i:Int)<(fl.n:Int))∧st H ((a.add ((i:Int).toNat*3)).add j) v K:=by
 have hil:=(List.getElem?_eq_some_iff.1 hi).1
 have hn:=h.n (by decide)
 obtain⟨ad,ha⟩:=cL.addr h.rd (by decide) (by omega)
 rw[ha]
 refine⟨⟨by omega,by omega⟩,?_⟩
 exact aG.st (E:=qj) h ha hi hj hp hy (by simp[qj]) hK
theorem aJ.fm {H:Heap} {fl:Sl} {gs:List (Sl×Sl)} {fs:List Fl} (h:aJ H fl gs fs) {i:Nat} {g:Sl×Sl} (hg:gs[i]?=some g):∀b,(aj g.1 b∨aj g.2 b)→¬aj fl b:=by
 intro b hb hfb
 obtain⟨_,_,q1,q2⟩:=h.tM hg
 rcases hb with hb|hb
 ·exact(q1.apart h.arr (by decide)) b hb hfb
 ·exact(q2.apart h.arr (by decide)) b hb hfb
theorem lJ {F:Nat→Prop} {d:Nat} {s:Dk} {H:Heap} {n:ByteArray} {K:(Int×Int)→Heap→Prop} (h:bY F H d s) (hlogs:s.logs<68719476736) (hK:∀H',Mod (fun _=>False) H H'→K ((s.len n).1,(s.len n).2) H'):yH.sp (ay d) n H K:=by
 obtain⟨fl,gs,cin,kp,g,_⟩:=h
 refine yH.of ?_
 unfold yH.vc
 simp only[ak]
 refine lY g.head rfl g.files g.wf.files ?_
 refine g.head.ld (c:=ax) (i:=8) (x:=s.down) rfl ?_
 refine ag (fun hd=>?_) (fun hd=>?_)
 ·have e:s.len n=(0,4):=by unfold Dk.len Dk.open;rw[hd];rfl
  rw[e] at hK;exact hK H (.refl _ _)
 ·rw[lS]
  cases hi:s.idx n with
  |none=>
    have e:s.len n=(0,11):=by unfold Dk.len Dk.open;rw[hd,hi];rfl
    rw[e] at hK;exact hK H (.refl _ _)
  |some i=>
    refine ar rfl ?_
    obtain⟨f,hf,_⟩:=Dk.cG hi
    obtain⟨gg,hg,q1,q2⟩:=g.files.yc hf
    have hx:kZ s n=(i:Int):=by unfold kZ;rw[hi]
    rw[hx]
    refine g.head.ld (c:=aq) (i:=0) (x:=fl) rfl ?_
    refine g.files.Ga hf hg ?_
    have hpl:=Dk.dH hf;have hll:=Dk.iY hf
    have w1:=g.wf.used;have w2:=g.wf.most;have w3:=g.wf.quota
    refine jB q1 q2 (by omega) (by omega) fun l H2 o2 m2 _=>?_
    have e:s.len n=(f.ao.length,0):=by unfold Dk.len Dk.open;rw[hd,hi];simp[Dk.cQ hf]
    rw[e] at hK
    rw[o2.n (by decide)]
    exact hK H2 m2
theorem js {b:List UInt8} {H:Heap} {K:Sl→Heap→Prop} (hK:∀s' H',bI H' s' b→Mod (fun _=>False) H H'→(∀q,aj s' q→H.size≤q)→s'.n≤s'.c→K s' H'):
  bu aq Tryz.prog (convert gu dw (.string (ca b))) H K:=by
 intro w hw
 subst hw
 have hr:=run_bytes_of_string (P:=Tryz.prog) w gu dw eA (ca b) (by kernel_rfl) (by kernel_rfl) (by kernel_rfl)
 have hsz:(ca b).size=b.length:=by simp[ca,ByteArray.size]
 refine⟨_,_,hr,⟨⟨some ⟨w.heap.size,0,none⟩,(ca b).size,grownCap w (ca b).size 0 eA⟩,rfl,hK _ _ ⟨by simp[di,hsz],?_⟩ (Mod.push _ _ _) ?_ (grownCap_ge _ _ _ _)⟩,(.of_le rfl (Nat.le_succ _))⟩
 ·intro i v hv
  rw[fx] at hv
  refine⟨_,rfl,?_⟩
  rw[aW]
  have hi:i<b.length:=by have:=(List.getElem?_eq_some_iff.1 hv).1;simpa[eX] using this
  have hb:(bytesRow (ca b) (grownCap w (ca b).size 0 eA))[i]?=some v:=by
   unfold bytesRow
   rw[Array.getElem?_append_left (by simp[ca];exact hi)]
   rw[←hv]
   simp[ca,eX]
  exact cK (t:=eA) (fz:=((bytesRow (ca b) (grownCap w (ca b).size 0 eA)).size,(bytesRow (ca b) (grownCap w (ca b).size 0 eA)).size+1)) (by show (w.heap.push _)[w.heap.size]?=_;simp) hb
 ·rintro q ⟨ad,e1,e2⟩;cases e1;have:w.heap.size=q:=e2;omega
theorem vB {b:List UInt8} {H:Heap} {K:Sl→Heap→Prop} (hK:∀s' H',bI H' s' b→Mod (fun _=>False) H H'→(∀q,aj s' q→H.size≤q)→K s' H'):
  bu aq Tryz.prog (convert gu dw (.string (ca b))) H K:=js fun s' H' h1 h2 h3 _=>hK s' H' h1 h2 h3
theorem bI.nil (H:Heap):bI H (Sl.mk none 0 0) []:=⟨rfl,Reads.nil _ _⟩
theorem q7 {F:Nat→Prop} {d:Nat} {s:Dk} {H:Heap} {n:ByteArray} {page:Int} {K:(Sl×Int)→Heap→Prop} (h:bY F H d s) (hlogs:s.logs<68719476736)
  (hK:∀r H',bI H' r (s.read n page).1→Mod (fun _=>False) H H'→(∀b,aj r b→H.size≤b)→r.n≤r.c→K (r,(s.read n page).2) H'):xM.sp (ay d) n page H K:=by
 obtain⟨fl,gs,cin,kp,g,_⟩:=h
 refine xM.of ?_
 unfold xM.vc
 simp only[ak]
 have err:∀(e:Int) (A:Heap),Mod (fun _=>False) H A→s.read n page=([],e)→K (Sl.mk none 0 0,e) A:=by
  intro e A hA he
  have:=hK (Sl.mk none 0 0) A (by rw[he];exact bI.nil _) hA (by rintro b ⟨ad,q,_⟩;cases q) (Nat.le_refl _)
  rw[he] at this;exact this
 refine lY g.head rfl g.files g.wf.files ?_
 refine g.head.ld (c:=ax) (i:=8) (x:=s.down) rfl ?_
 refine ag (fun hd=>?_) (fun hd=>?_)
 ·exact err 4 H (.refl _ _) (by unfold Dk.read Dk.open;rw[hd];rfl)
 rw[lS]
 cases hi:s.idx n with
 |none=>exact err 11 H (.refl _ _) (by unfold Dk.read Dk.open;rw[hd,hi];rfl)
 |some i=>
   refine ar rfl ?_
   obtain⟨f,hf,_⟩:=Dk.cG hi
   obtain⟨gg,hg,q1,q2⟩:=g.files.yc hf
   have hfile:s.file i=f:=Dk.cQ hf
   have e0:s.read n page=if page<0 then ([],(12:Int)) else match f.ao[page.toNat]? with|some p=>(p.1,(0:Int))|none=>([],(12:Int)):=by
    unfold Dk.read Dk.open;rw[hd,hi];simp[hfile];rfl
   have hx:kZ s n=(i:Int):=by unfold kZ;rw[hi]
   rw[hx]
   refine g.head.ld (c:=aq) (i:=0) (x:=fl) rfl ?_
   refine g.files.Ga hf hg ?_
   have hpl:=Dk.dH hf;have hll:=Dk.iY hf
   have w1:=g.wf.used;have w2:=g.wf.most;have w3:=g.wf.quota
   refine jB q1 q2 (by omega) (by omega) fun l H2 o2 m2 f2=>?_
   have hln:=o2.n (by decide)
   refine ag (fun hp=>?_) (fun hp=>?_)
   ·refine err 12 H2 m2 ?_
    simp only[Bool.or_eq_true,decide_eq_true_eq] at hp
    rw[e0]
    rcases hp with hp|hp
    ·rw[if_pos hp]
    ·by_cases hp0:page<0
     ·rw[if_pos hp0]
     ·rw[if_neg hp0,List.getElem?_eq_none (by omega)]
   ·simp only[Bool.or_eq_false_iff,decide_eq_false_iff_not] at hp
    obtain⟨pg,rfl⟩:∃k:Nat,page=k:=⟨page.toNat,by omega⟩
    have hlt:pg<f.ao.length:=by omega
    obtain⟨ad,ha⟩:=cL.addr o2.rd (by decide) (by omega)
    rw[ha]
    refine⟨⟨by omega,by omega⟩,?_⟩
    have hp2:f.ao[pg]?=some f.ao[pg]:=List.getElem?_eq_getElem hlt
    simp only[Int.toNat_natCast]
    refine aG.one (c:=aR) (y:=ca f.ao[pg].1) o2 hp2 rfl rfl ha ?_
    refine js fun r H3 o3 m3 f3 c3=>?_
    have er:s.read n pg=(f.ao[pg].1,0):=by
     rw[e0,if_neg (by omega)];simp[hp2]
    rw[er] at hK
    exact hK r H3 o3 (m2.trans m3) (fun b hb=>by have:=f3 b hb;have:=m2.size;omega) c3
theorem Bc {F:Nat→Prop} {d:Nat} {s:Dk} {H:Heap} {n:ByteArray} {page:Int} {K:(Sl×Int)→Heap→Prop} (h:bY F H d s) (hlogs:s.logs<68719476736)
  (hK:∀r H',bI H' r (s.read n page).1→Mod (fun _=>False) H H'→(∀b,aj r b→H.size≤b)→K (r,(s.read n page).2) H'):xM.sp (ay d) n page H K:=
 q7 h hlogs fun r H' h1 h2 h3 _=>hK r H' h1 h2 h3
theorem Bl {F:Nat→Prop} {d:Nat} {s:Dk} {H:Heap} {n:ByteArray} {K:Int→Heap→Prop} (h:bY F H d s) (hlogs:s.logs<68719476736)
  (hK:∀F' H',bY F' H' d (s.sync n).1→Step F F' H H'→K (s.sync n).2 H'):Ee.sp (ay d) n H K:=by
 have h0:=h
 obtain⟨fl,gs,cin,kp,g,hF⟩:=h
 refine Ee.of ?_
 unfold Ee.vc
 simp only[ak]
 have stay:∀e:Int,s.sync n=(s,e)→K e H:=by
  intro e he
  have:=hK F H (by rw[he];exact h0) (.refl _ _)
  rw[he] at this;exact this
 refine lY g.head rfl g.files g.wf.files ?_
 refine g.head.ld (c:=ax) (i:=8) (x:=s.down) rfl ?_
 refine ag (fun hd=>stay 4 (by unfold Dk.sync;rw[hd];rfl)) (fun hd=>?_)
 rw[lS]
 cases hi:s.idx n with
 |none=>exact stay 11 (by unfold Dk.sync;rw[hd,hi];rfl)
 |some i=>
   refine ar rfl ?_
   have hr:s.sync n=s.step fun t=>t.wu i fun f=>{f with synced:=f.ao,log:=[]}:=by unfold Dk.sync;rw[hd,hi];rfl
   rw[hr] at hK
   unfold Dk.step at hK
   refine kH g fun cin' H3 g3 m3 s3=>?_
   have hfs:=s.aX
   obtain⟨k1,k2,k3,k4⟩:=s.jF
   obtain⟨f,hf,_⟩:=Dk.cG hi
   have hf3:s.change.1.files[i]?=some f:=by rw[hfs];exact hf
   refine ag (fun hz=>?_) (fun hz=>?_)
   ·have hz':s.change.2=0:=by simpa using hz
    rw[if_pos hz'] at hK
    rw[hz']
    generalize s.change.1=t at*
    obtain⟨gg,hg,q1,q2⟩:=g3.files.yc hf3
    have hx:kZ s n=(i:Int):=by unfold kZ;rw[hi]
    rw[hx]
    refine⟨fun A=>ai A d sK (cZ fl t.most t.quota t.ops t.next t.crash.isSome cin' kp t.down),g3.head,?_⟩
    refine⟨fl,fun A hA=>by rw[aW];exact hA.cell rfl,?_⟩
    refine g3.head.ld (c:=aq) (i:=0) (x:=fl) rfl ?_
    refine g3.files.Ga hf3 hg ?_
    have hpl:=Dk.dH hf;have hll:=Dk.iY hf
    have w1:=g.wf.used;have w2:=g.wf.most;have w3:=g.wf.quota
    refine jB q1 q2 (by omega) (by omega) fun l H4 o4 m4 f4=>⟨g3.head.ext m4,?_⟩
    have a4:aG qj sj H4 fl (sf t.files gs):=g3.files.arr.ext m4
    have hrow:=j3 _ _ i f gg hf3 hg
    refine vA a4 hrow (j:=1) (v:=l.v) (by omega) rfl (y:=(f.name,l,gg.2)) rfl fun H5 a5 m5 s5=>?_
    have off3:=gY.off g3.head g3.files
    have d5:=(g3.head.ext m4).mod m5 (fun hb=>off3 (.inl hb))
    refine d5.ld (c:=aq) (i:=0) (x:=fl) rfl ?_
    have hil:=(List.getElem?_eq_some_iff.1 hrow).1
    refine vA a5 (i:=i) (j:=2) (x:=(f.name,l,gg.2)) (v:=.slice none 0 0) (by simp[hil]) (by omega) rfl (y:=(f.name,l,Sl.mk none 0 0)) rfl fun H6 a6 m6 s6=>?_
    rw[List.set_set] at a6
    have z4:=m4.size
    have m36:Mod (aj fl) H3 H6:=(((Ext.mod m4).trans m5).trans m6)
    have d6:=d5.mod m6 (fun hb=>off3 (.inl hb))
    have lty:∀b,aj l b→¬aj fl b:=o4.apart a4 (by decide)
    have fB:=g3.files.set (H':=H6) hf3 hg (f':={f with synced:=f.ao,log:=[]}) (g':=(l,Sl.mk none 0 0)) a6 (o4.keep fun b hb hl=>(m6.same b (by omega) (lty b hb)).trans (m5.same b hl (lty b hb))) (aG.nil _ _ _)
     (fun j gj _ hgj b hb hl=>m36.same b hl (g3.files.fm hgj b hb)) (by rintro b ⟨ad,q,_⟩;cases q)
    have hu:=Dk.gK (s:=t) (g:=fun f=>{f with synced:=f.ao,log:=[]}) hf3
    have hu':(t.wu i fun f=>{f with synced:=f.ao,log:=[]}).used=t.used:=by
     have e:({f with synced:=f.ao,log:=[]}:Fl).ao.length=f.ao.length:=rfl
     omega
    have gG:gY fl (gs.set i (l,Sl.mk none 0 0)) cin' kp H6 d (t.wu i fun f=>{f with synced:=f.ao,log:=[]}):=by
     refine⟨d6,g3.crash,?_,g3.wf.modify (g:=fun f=>{f with synced:=f.ao,log:=[]}) hf3 rfl rfl (by rw[hu'];exact g3.wf.used) g3.wf.most rfl rfl rfl⟩
     show aJ H6 fl _ (t.files.modify i fun f=>{f with synced:=f.ao,log:=[]})
     rw[aM hf3];exact fB
    obtain⟨F',r1,r2⟩:=gG.out (fl:=fl) (gs:=gs) (F:=F) (H:=H) hF ((m3.mono fun b _ e=>(hF b).2 (.inl e)).trans (m36.mono fun b _ e=>(hF b).2 (.inr (.inl e)))) (fun b hb=>(wg (H:=H3) hg (fun b hb=>.inr (f4 b hb)) (by rintro b ⟨ad,q,_⟩;cases q) b hb).imp id (fun q=>by omega))
    exact hK F' H6 r1 r2
   ·have hz':s.change.2≠0:=by simpa using hz
    rw[if_neg hz'] at hK
    obtain⟨F',q1,q2⟩:=g3.out (fl:=fl) (gs:=gs) (F:=F) (H:=H) hF (m3.mono fun b _ e=>(hF b).2 (.inl e)) (fun b q=>.inl q)
    exact hK F' H3 q1 q2
set_option maxHeartbeats 1000000 in
theorem qX {F:Nat→Prop} {d:Nat} {s:Dk} {H:Heap} {n:ByteArray} {page:Int} {p3:Sl} {b:List UInt8} {K:Int→Heap→Prop} (h:bY F H d s) (hb:bI H p3 b) (hpb:∀ad,p3.a=some ad→¬F ad.block) (hlogs:s.logs+1<68719476736)
  (hK:∀F' H',bY F' H' d (s.write n page b).1→Step F F' H H'→K (s.write n page b).2 H'):BA.sp (ay d) n page p3 H K:=by
 have h0:=h
 have h0lt:=h.lt
 obtain⟨fl,gs,cin,kp,g,hF⟩:=h
 refine BA.of ?_
 unfold BA.vc
 simp only[ak]
 have stay:∀(e:Int) (A:Heap),Mod (fun _=>False) H A→s.write n page b=(s,e)→K e A:=by
  intro e A hA he
  have:=hK F A (by rw[he];exact h0.keep fun b hb hl=>hA.same b hl id) ⟨Ext.mod hA,fun b hb=>.inl hb⟩
  rw[he] at this;exact this
 have hbn:=hb.n
 refine lY g.head rfl g.files g.wf.files ?_
 refine g.head.ld (c:=ax) (i:=8) (x:=s.down) rfl ?_
 refine ag (fun hd=>stay 4 H (.refl _ _) (by unfold Dk.write;rw[hd];rfl)) (fun hd=>?_)
 refine ag (fun hne=>stay 2 H (.refl _ _) ?_) (fun hne=>?_)
 ·have:b.length≠512:=by simp at hne;omega
  unfold Dk.write;rw[hd];simp[this]
 have hb512:b.length=512:=by simp at hne;omega
 rw[lS]
 cases hi:s.idx n with
 |none=>
   refine aU rfl (stay 11 H (.refl _ _) ?_)
   unfold Dk.write;rw[hd];simp[hb512,hi]
 |some i=>
   refine ar rfl ?_
   obtain⟨f,hf,hfn⟩:=Dk.cG hi
   obtain⟨gg,hg,q1,q2⟩:=g.files.yc hf
   have hfile:s.file i=f:=Dk.cQ hf
   have hx:kZ s n=(i:Int):=by unfold kZ;rw[hi]
   simp only[hx]
   have hpl:=Dk.dH hf;have hll:=Dk.iY hf
   have w1:=g.wf.used;have w2:=g.wf.most;have w3:=g.wf.quota
   have e12:page<0∨page>f.ao.length→s.write n page b=(s,12):=by
    intro hp
    unfold Dk.write;rw[hd];simp only[Bool.false_eq_true,if_false,hb512,dif_pos,hi,hfile]
    rw[if_pos hp]
   have e5:¬(page<0∨page>f.ao.length)→page=f.ao.length→s.used≥s.quota→s.write n page b=(s,5):=by
    intro hp h1 h2
    unfold Dk.write;rw[hd];simp only[Bool.false_eq_true,if_false,hb512,dif_pos,hi,hfile]
    rw[if_neg hp,if_pos ⟨h1,h2⟩]
   refine g.head.ld (c:=aq) (i:=0) (x:=fl) rfl ?_
   refine g.files.Ga hf hg ?_
   refine jB q1 q2 (by omega) (by omega) fun l H2 o2 m2 f2=>?_
   have hln:=o2.n (by decide)
   refine⟨fun _ A=>Mod (fun _=>False) H A∧¬(page<0∨page>f.ao.length)∧¬(page=f.ao.length∧s.used≥s.quota),?_,?_⟩
   ·refine ag (fun hp=>stay 12 H2 m2 (e12 ?_)) (fun hp=>?_)
    ·simp only[Bool.or_eq_true,decide_eq_true_eq] at hp;omega
    have hp1:¬(page<0∨page>f.ao.length):=by simp only[Bool.or_eq_false_iff,decide_eq_false_iff_not] at hp;omega
    refine⟨fun A=>ai A d sK (cZ fl s.most s.quota s.ops s.next s.crash.isSome cin kp s.down),g.head.ext m2,?_⟩
    refine ag (fun he=>?_) (fun he=>⟨m2,hp1,fun hh=>by simp at he;omega⟩)
    have he':page=f.ao.length:=by simp at he;omega
    have f22:aJ H2 fl gs s.files:=g.files.keep fun b hb hl=>m2.same b hl id
    refine q9 (g.head.ext m2) rfl f22 (by omega) g.wf.files (by omega) fun H4 m4=>⟨(g.head.ext m2).ext m4,?_⟩
    refine⟨(s.quota:Int),fun A hA=>by rw[aW];exact hA.cell rfl,?_⟩
    refine ag (fun hq=>stay 5 H4 (m2.trans m4) (e5 hp1 he' (by simp at hq;omega))) (fun hq=>⟨m2.trans m4,hp1,fun hh=>by simp at hq;omega⟩)
   ·rintro _ H0 ⟨m0,hp1,hp2⟩
    obtain⟨pg,rfl⟩:∃k:Nat,page=k:=⟨page.toNat,by omega⟩
    have hpg:pg≤f.ao.length:=by omega
    obtain⟨wr,hwr⟩:∃wr:Dk→Wr,wr=fun t=>⟨t.next,pg,⟨b,hb512⟩⟩:=⟨_,rfl⟩
    have hr:s.write n pg b=s.step fun t=>(t.dZ i (wr t)).fw (max t.most (t.dZ i (wr t)).used):=by
     unfold Dk.write;rw[hd];simp only[Bool.false_eq_true,if_false,hb512,dif_pos,hi,hfile]
     rw[if_neg hp1,if_neg hp2,hwr]
     rfl
    rw[hr] at hK
    unfold Dk.step at hK
    have g0:gY fl gs cin kp H0 d s:=⟨g.head.ext m0,g.crash,g.files.keep fun b hb hl=>m0.same b hl id,g.wf⟩
    refine kH g0 fun cin' H4 g4 m4 s4=>?_
    have mH4:Mod F H H4:=(Ext.mod m0).trans (m4.mono fun b _ e=>(hF b).2 (.inl e))
    have z0:=m0.size
    refine ag (fun hz=>?_) (fun hz=>?_)
    ·have hz':s.change.2≠0:=by simpa using hz
     rw[if_neg hz'] at hK
     obtain⟨F',r1,r2⟩:=g4.out (fl:=fl) (gs:=gs) (F:=F) (H:=H) hF mH4 (fun b q=>.inl q)
     exact hK F' H4 r1 r2
    have hz':s.change.2=0:=by simpa using hz
    rw[if_pos hz'] at hK
    dsimp only at hK
    obtain⟨k1,k2,k3,k4⟩:=s.jF
    have hfs:=s.aX
    generalize ht:s.change.1=t at*
    have hf4:t.files[i]?=some f:=by rw[hfs];exact hf
    obtain⟨q14,q24⟩:=g4.files.ent i f gg hf4 hg
    have off4:=gY.off g4.head g4.files
    have hb4:bI H4 p3 b:=hb.keep fun ad ha hl=>mH4.same _ hl (hpb ad ha)
    have hgm:=List.mem_of_getElem? hg
    have hrow:=j3 _ _ i f gg hf4 hg
    have hpA:∀ad,p3.a=some ad→¬aj gg.2 ad.block:=fun ad ha hh=>hpb ad ha ((hF _).2 (.inr (.inr ⟨gg,hgm,.inr hh⟩)))
    have arrLog:∀b,aj gg.2 b→¬aj fl b:=fun b hb=>g4.files.fm hg b (.inr hb)
    have dLog:¬aj gg.2 d:=fun hh=>off4 (.inr ⟨gg,hgm,.inr hh⟩)
    refine⟨fun A=>ai A d sK (cZ fl t.most t.quota t.ops t.next t.crash.isSome cin' kp t.down)∧aG qj sj A fl (sf t.files gs)∧bI A p3 b,⟨g4.head,g4.files.arr,hb4⟩,?_⟩
    refine⟨fl,fun A hA=>by rw[aW];exact hA.1.cell rfl,?_⟩
    refine⟨fl,fun A hA=>by rw[aW];exact hA.1.cell rfl,?_⟩
    obtain⟨ad,ha⟩:=cL.addr g4.files.arr.rd (by decide) (by have:=(List.getElem?_eq_some_iff.1 hrow).1;omega)
    have hn4:=g4.files.n
    have hil:=(List.getElem?_eq_some_iff.1 hf4).1
    rw[ha]
    refine⟨⟨by omega,by omega⟩,?_⟩
    refine⟨gg.2,fun A hA=>?_,?_⟩
    ·obtain⟨ad',e1,hc⟩:=cL.cell hA.2.1.rd hrow (j:=2) (v:=gg.2.v) rfl
     rw[ha] at e1;cases e1
     rw[add_add]
     exact hc
    refine g4.head.ld (c:=aa .i64) (i:=4) (x:=t.next) rfl ?_
    refine⟨ca b,fun A hA=>hA.2.2.DC,?_⟩
    have hwt:wr t=⟨t.next,pg,⟨b,hb512⟩⟩:=by rw[hwr]
    refine aG.zM (E:=sW) Gw (x:=wr t) q24 (by rw[hwt];rfl) (by omega) (by omega) _ (fun H6 s6 m6=>⟨g4.head.ext m6,g4.files.arr.ext m6,hb4.keep fun ad ha hl=>m6.same _ hl id⟩) fun s7 H7 o7 g7 _=>?_
    refine⟨⟨g4.head.mod g7.1 dLog,g4.files.arr.keep fun b hb hl=>g7.1.same b hl fun hh=>arrLog b hh hb,hb4.keep fun ad ha hl=>g7.1.same _ hl (hpA ad ha)⟩,?_⟩
    rw[←ha]
    have a7:aG qj sj H7 fl (sf t.files gs):=g4.files.arr.keep fun b hb hl=>g7.1.same b hl fun hh=>arrLog b hh hb
    refine vA a7 hrow (j:=2) (v:=s7.v) (by omega) rfl (y:=(f.name,gg.1,s7)) rfl fun H8 a8 m8 s8=>?_
    have d7:=g4.head.mod g7.1 dLog
    have d8:ai H8 d sK (cZ fl t.most t.quota t.ops t.next t.crash.isSome cin' kp t.down):=d7.mod m8 (fun hb=>off4 (.inl hb))
    refine d8.ld (c:=aa .i64) (i:=4) (x:=t.next) rfl ?_
    refine d8.st (i:=4) (by simp[cZ]) (by rfl) fun H9 d9 m9 s9=>?_
    have d9':ai H9 d sK (cZ fl t.most t.quota t.ops (cR (t.next+1)) t.crash.isSome cin' kp t.down):=d9
    have z7:=g7.1.size
    have s7fl:∀b,aj s7 b→¬aj fl b:=o7.apart a7 (by decide)
    have s7d:∀b,aj s7 b→b≠d:=fun b hb e=>by
     obtain⟨c,q⟩:=o7.obj b hb
     rw[e] at q
     exact absurd (aL d7 q) (by decide)
    have fB:=g4.files.set (H':=H9) hf4 hg (f':={f with log:=f.log++[wr t]}) (g':=(gg.1,s7)) (a8.keep fun b hb hl=>m9.same b hl fun e=>off4 (.inl (e▸hb)))
     (q14.keep fun b hb hl=>(m9.same b (by omega) fun e=>off4 (.inr ⟨gg,hgm,.inl (e▸hb)⟩)).trans ((m8.same b (by omega) (g4.files.fm hg b (.inl hb))).trans (g7.1.same b hl ((q14.apart q24 (by decide)) b hb))))
     (o7.keep fun b hb hl=>(m9.same b (by omega) (s7d b hb)).trans (m8.same b hl (s7fl b hb)))
     (fun j gj hj hgj b hb hl=>(m9.same b (by omega) fun e=>off4 (.inr ⟨gj,List.mem_of_getElem? hgj,e▸hb⟩)).trans ((m8.same b (by omega) (g4.files.fm hgj b hb)).trans (g7.1.same b hl fun hh=>by
      rcases hb with hb|hb
      ·obtain⟨_,_,t1,_⟩:=g4.files.tM hgj
       exact(t1.apart q24 (by decide)) b hb hh
      ·exact g4.files.apart j i gj gg hgj hg hj b hb hh)))
     (fun b hb=>g7.2 b hb)
    have hused:(t.dZ i (wr t)).used=if pg=f.ao.length then t.used+1 else t.used:=by
     have h1:=Dk.gK (s:=t) (g:=fun f=>{f with log:=f.log++[wr t]}) hf4
     have h2:({f with log:=f.log++[wr t]}:Fl).ao.length=max f.ao.length (pg+1):=by
      have e:({f with log:=f.log++[wr t]}:Fl).ao=cY f.ao (wr t):=by simp[Fl.ao]
      rw[e,bZ,hwt]
     have h3:(t.dZ i (wr t)).used=(t.wu i (fun f=>{f with log:=f.log++[wr t]})).used:=rfl
     rw[h3]
     split<;>omega
    have fB':aJ H9 fl (gs.set i (gg.1,s7)) (t.dZ i (wr t)).files:=by
     show aJ H9 fl _ (t.files.modify i fun f=>{f with log:=f.log++[wr t]})
     rw[aM hf4];exact fB
    have hlg:(t.dZ i (wr t)).logs<68719476736:=by
     have h1:=dL (fun f:Fl=>f.log.length) (fun f=>{f with log:=f.log++[wr t]}) t.files i f hf4
     have h2:(t.dZ i (wr t)).logs=((t.files.modify i fun f=>{f with log:=f.log++[wr t]}).map fun f=>f.log.length).sum:=rfl
     have h3:(t.files.map fun f=>f.log.length).sum=s.logs:=by rw[hfs];rfl
     simp only[List.length_append,List.length_cons,List.length_nil] at h1
     rw[h2]
     omega
    refine⟨fun A=>ai A d sK (cZ fl t.most t.quota t.ops (cR (t.next+1)) t.crash.isSome cin' kp t.down),d9',?_⟩
    refine⟨(t.most:Int),fun A hA=>by rw[aW];exact hA.cell rfl,?_⟩
    have hlf:(t.dZ i (wr t)).files.length≤4096:=by
     show (t.files.modify i _).length≤4096
     simp;exact g4.wf.files
    refine q9 (s:=t.dZ i (wr t)) d9' rfl fB' (by rw[hused];split<;>omega) hlf hlg fun H10 m10=>⟨d9'.ext m10,?_⟩
    refine(d9'.ext m10).st (i:=1) (by simp[cZ]) (by rfl) fun H11 d11 m11 s11=>?_
    have em:(if (((t.dZ i (wr t)).used:Nat):Int)>(t.most:Int) then (((t.dZ i (wr t)).used:Nat):Int) else (t.most:Int))=((max t.most (t.dZ i (wr t)).used:Nat):Int):=by split<;>omega
    rw[em] at d11
    have z10:=m10.size
    have offB:=gY.off d9' fB'
    have gG:gY fl (gs.set i (gg.1,s7)) cin' kp H11 d ((t.dZ i (wr t)).fw (max t.most (t.dZ i (wr t)).used)):=by
     refine⟨d11,g4.crash,?_,?_⟩
     ·exact fB'.keep fun b hb hl=>(m11.same b (by omega) fun e=>offB (e▸hb)).trans (m10.same b hl id)
     ·refine g4.wf.modify (g:=fun f=>{f with log:=f.log++[wr t]}) hf4 rfl rfl (Nat.le_max_right _ _) ?_ rfl rfl rfl
      show max t.most (t.dZ i (wr t)).used≤t.quota
      rw[hused]
      split<;>omega
    have hmm:Mod F H H11:=by
     have t1:Mod F H4 H9:=((g7.1.mono fun b _ e=>(hF b).2 (.inr (.inr ⟨gg,hgm,.inr e⟩))).trans (m8.mono fun b _ e=>(hF b).2 (.inr (.inl e)))).trans (m9.mono fun b _ e=>(hF b).2 (.inl e))
     exact((mH4.trans t1).trans (Ext.mod m10)).trans (m11.mono fun b _ e=>(hF b).2 (.inl e))
    obtain⟨F',r1,r2⟩:=gG.out (fl:=fl) (gs:=gs) (F:=F) (H:=H) hF hmm (fun b hb=>(wg (H:=H4) (g':=(gg.1,s7)) hg (fun b hb=>.inl hb) (fun b hb=>g7.2 b hb) b hb).imp id (fun q=>by omega))
    exact hK F' H11 r1 r2
end Go.Proofs.YtdpdmbceakdlmaaGreatDoor
