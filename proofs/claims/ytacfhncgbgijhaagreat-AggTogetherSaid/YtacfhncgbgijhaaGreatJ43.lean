/-
 The sorter over several files, in plain words: the run holds the rows that were added, rising, each once.
-/
import Derived.Test.YtacfhncgbgijhaaGreatJ33
import Derived.Test.YtacfhncgbgijhaaGreatJ34
import Derived.Test.YtacfhncgbgijhaaGreatJ37
import Derived.Test.YtacfhncgbgijhaaGreatJ39
import Derived.Test.YtacfhncgbgijhaaGreatFxw
import Derived.Test.YtacfhncgbgijhaaGreatJ42
namespace Go.Proofs.YtacfhncgbgijhaaGreat
theorem qW:∀{l r:List (List Int)},l.Pairwise (fun x y=>aF x y<0)→r.Pairwise (fun x y=>aF x y<0)→(∀y,y∈l↔y∈r)→l=r
 |[],[],_,_,_=>rfl
 |[],b::r,_,_,h=>absurd ((h b).2 List.mem_cons_self) (by simp)
 |a::l,[],_,_,h=>absurd ((h a).1 List.mem_cons_self) (by simp)
 |a::l,b::r,hl,hr,h=>by
   obtain⟨l1,l2⟩:=List.pairwise_cons.1 hl
   obtain⟨r1,r2⟩:=List.pairwise_cons.1 hr
   have JG:∀x:List Int,¬aF x x<0:=fun x=>by rw[cE];omega
   have e:a=b:=by
    rcases List.mem_cons.1 ((h a).1 List.mem_cons_self) with q|q
    ·exact q
    ·rcases List.mem_cons.1 ((h b).2 List.mem_cons_self) with u|u
     ·exact u.symm
     ·exact absurd (eW (l1 b u) (r1 a q)) (JG a)
   subst e
   congr 1
   refine qW l2 r2 fun y=>⟨fun q=>?_,fun q=>?_⟩
   ·rcases List.mem_cons.1 ((h y).1 (List.mem_cons_of_mem _ q)) with u|u
    ·subst u;exact absurd (l1 _ q) (JG _)
    ·exact u
   ·rcases List.mem_cons.1 ((h y).2 (List.mem_cons_of_mem _ q)) with u|u
    ·subst u;exact absurd (r1 _ q) (JG _)
    ·exact u
theorem eR [Tab] {y:List Int} {l:List (List Int)}:y∈ay (bp l)↔y∈l:=iB.trans (fh _).mem_iff
theorem Gc [Tab] {l r:List (List Int)} (h:∀y,y∈l↔y∈r):ay (bp l)=ay (bp r):=
 qW (dW (gI _)) (dW (gI _)) fun y=>by rw[eR,eR];exact h y
theorem pz [Tab] {W:Nat} {l:List (List Int)} (h:∀y∈l,y.length=W∧fQ y):fR W (ay (bp l)):=
 AG (dW (gI _)) (fun y hy=>(h y (eR.1 hy)).1) (fun y hy=>(h y (eR.1 hy)).2)
structure cw [Tab] (s:So) (p:Pl) (M:bI) (Q U:Nat) (n:ByteArray) (W fr:Nat) (all:List (List Int)) (fs:List (ByteArray×List (List Int))) (k m most:Nat):Prop where
 calm:aO p M Q U
 room:cA M
 name:s.name=n
 width:s.width=W
 af:s.af=fr
 wrong:s.wrong=0
 closed:s.closed=false
 side:s.side=fs.map (·.1)
 good:∀a∈fs,mT M W a
 nodup:(fs.map (·.1)).Nodup
 names:∀x∈fs.map (·.1),∃i,i<s.next∧x=bN n i
 only:∀a y,M a=some y→a∈fs.map (·.1)
 mem:∀y,y∈all↔y∈s.wait∨y∈fs.flatMap (·.2)
 fit:∀y∈all,y.length=W∧fQ y
 used:U=dY W fs
 count:s.wait.length+(fs.flatMap (·.2)).length≤all.length
 next:s.next+fs.length≤k
 lo:0≤p.next
 hi:p.next≤m
 most:p.most=most
section
variable {s:So} {p:Pl} {M:bI} {Q U:Nat} {n:ByteArray} {W fr:Nat} {all:List (List Int)} {fs:List (ByteArray×List (List Int))} {k m most cap:Nat}
structure jf (n:ByteArray) (W fr Q cap:Nat) (all:List (List Int)):Prop where
 width:W≤16
 quota:Q≤1048576
 many:2*all.length+cap+2<Q
 cap:cap≤100
 big:all.length≤300000
 name:1≤n.size∧n.size≤90
 af:3≤fr∧fr≤4096
theorem jf.size [Tab] (h:jf n W fr Q cap all):n.size≤9223372036854775807∧∀i,i<100→(bN n i).size≤9223372036854775807:=by
 have:=h.name
 refine⟨by omega,fun i hi=>?_⟩
 have:=(kF i hi).2
 rw[ff];omega
theorem jf.named [Tab] (h:jf n W fr Q cap all):named n=true∧∀i,i<100→Go.Proofs.YtacfhncgbgijhaaGreat.named (bN n i)=true:=by
 have:=h.name
 refine⟨?_,fun i hi=>xq hi (by omega)⟩
 unfold Go.Proofs.YtacfhncgbgijhaaGreat.named
 simp only[Bool.and_eq_true,decide_eq_true_eq]
 omega
theorem cw.free [Tab] (h:cw s p M Q U n W fr all fs k m most) (hi:s.next<100):M (bN n s.next)=none:=by
 cases e:M (bN n s.next) with
 |none=>rfl
 |some y=>
   obtain⟨i,h1,h2⟩:=h.names _ (h.only _ _ e)
   have:=ua hi (by omega) h2
   omega
theorem cw.JR [Tab] (h:cw s p M Q U n W fr all fs k m most):M n=none:=by
 cases e:M n with
 |none=>rfl
 |some y=>
   obtain⟨i,h1,h2⟩:=h.names _ (h.only _ _ e)
   exact absurd h2.symm (E8 _ _)
theorem cw.le [Tab] (h:cw s p M Q U n W fr all fs k m most) (b:jf n W fr Q cap all):U≤fs.length+(fs.flatMap (·.2)).length:=by
 rw[h.used];exact ug b.width fs
theorem cw.aside [Tab] (h:cw s p M Q U n W fr all fs k m most) (b:jf n W fr Q cap all) (hk:k+2≤cap) (hm:m<1000000000000):
  (s.aside p).2.2=0∧∃M' U' L,cw (s.aside p).2.1 (s.aside p).1 M' Q U' n W fr all (fs++[(bN n s.next,L)]) (k+2) (m+(3*all.length+300)) most:=by
 have hcp0:=b.cap
 have hx:s.next<100:=by have:=h.next;omega
 have hle:=h.le b
 have hlo:=h.lo
 have hhi:=h.hi
 have hct:=h.count
 have hol:=dz s.wait
 have hfl:fs.length≤cap:=by have:=h.next;omega
 have hmany:=b.many
 have hcp:=b.cap
 have hbig:=b.big
 have hrise:fR W (ay (bp s.wait)):=pz fun y hy=>h.fit y ((h.mem y).2 (.inl hy))
 obtain⟨a1,M',U',w1,w2,w3⟩:=Dm (to:=bN n s.next) b.width b.quota h.calm h.room hrise (h.free hx) (b.named.2 _ hx) (b.size.2 _ hx) (ns:=fs.map (·.1)) h.only (by simp;omega) (by omega) (by omega) h.lo (by omega)
 have hne:∀a∈fs,a.1≠bN n s.next:=fun a ha q=>by
  obtain⟨i,h1,h2⟩:=h.names a.1 (List.mem_map.2 ⟨a,ha,rfl⟩)
  rw[q] at h2
  have:=ua hx (by omega) h2
  omega
 unfold So.aside
 rw[h.name,h.width]
 refine⟨a1,M',U',ay (bp s.wait),?_⟩
 have q:=w1.next
 refine⟨w1.calm,w1.room,h.name,h.width,h.af,h.wrong,h.closed,?_,?_,?_,?_,?_,?_,h.fit,?_,?_,?_,by show 0≤(jl _ _ _ _).1.next;omega,by show (jl _ _ _ _).1.next≤_;omega,w1.most.trans h.most⟩
 ·show s.side++[bN s.name s.next]=_
  rw[h.side,h.name];simp
 ·intro a ha
  rcases List.mem_append.1 ha with q|q
  ·exact(h.good a q).aq (w1.other _ (hne a q))
  ·rw[List.mem_singleton] at q
   subst q
   exact⟨w2,hrise,b.size.2 _ hx,by show (ay (bp s.wait)).length≤_;omega⟩
 ·rw[List.map_append,List.nodup_append]
  refine⟨h.nodup,by simp,fun a ha c hc=>?_⟩
  simp at hc
  obtain⟨z,z1,z2⟩:=List.mem_map.1 ha
  rw[←z2,hc];exact hne z z1
 ·intro x hx'
  rw[List.map_append] at hx'
  rcases List.mem_append.1 hx' with q|q
  ·obtain⟨i,h1,h2⟩:=h.names x q
   exact⟨i,by show i<s.next+1;omega,h2⟩
  ·simp at q
   exact⟨s.next,Nat.lt_succ_self _,q⟩
 ·intro a y ha
  rw[List.map_append]
  by_cases e:a=bN n s.next
  ·exact List.mem_append.2 (.inr (by simp[e]))
  ·rw[w1.other a e] at ha
   exact List.mem_append.2 (.inl (h.only a y ha))
 ·intro y
  rw[h.mem,List.flatMap_append,List.mem_append]
  show _↔y∈([]:List (List Int))∨_
  simp[eR]
  constructor
  ·rintro(u|u)
   ·exact .inr u
   ·exact .inl u
  ·rintro(u|u)
   ·exact .inr u
   ·exact .inl u
 ·rw[w3,h.used,jw]
  unfold dY
  simp;omega
 ·rw[List.flatMap_append,List.length_append]
  show ([]:List (List Int)).length+_≤_
  simp only[List.flatMap_cons,List.flatMap_nil,List.append_nil,List.length_nil]
  omega
 ·have:=h.next
  rw[List.length_append]
  show s.next+1+(fs.length+1)≤_
  omega
theorem cw.push [Tab] (h:cw s p M Q U n W fr all fs k m most) {l:List Int} (h1:l.length=W) (h2:fQ l):cw {s with wait:=s.wait++[l]} p M Q U n W fr (all++[l]) fs k m most:=by
 refine⟨h.calm,h.room,h.name,h.width,h.af,h.wrong,h.closed,h.side,h.good,h.nodup,h.names,h.only,fun y=>?_,fun y hy=>?_,h.used,?_,h.next,h.lo,h.hi,h.most⟩
 ·show _↔y∈s.wait++[l]∨_
  rw[List.mem_append,List.mem_append,h.mem]
  constructor
  ·rintro((u|u)|u)
   ·exact .inl (.inl u)
   ·exact .inr u
   ·exact .inl (.inr u)
  ·rintro((u|u)|u)
   ·exact .inl (.inl u)
   ·exact .inr u
   ·exact .inl (.inr u)
 ·rcases List.mem_append.1 hy with q|q
  ·exact h.fit y q
  ·rw[List.mem_singleton] at q;subst q;exact⟨h1,h2⟩
 ·have:=h.count
  show (s.wait++[l]).length+_≤_
  simp only[List.length_append,List.length_cons,List.length_nil];omega
theorem cw.again [Tab] (h:cw s p M Q U n W fr all fs k m most):cw {s with wrong:=0} p M Q U n W fr all fs k m most:=
 ⟨h.calm,h.room,h.name,h.width,h.af,rfl,h.closed,h.side,h.good,h.nodup,h.names,h.only,h.mem,h.fit,h.used,h.count,h.next,h.lo,h.hi,h.most⟩
theorem cw.ready [Tab] (h:cw s p M Q U n W fr all fs k m most):s.ready=0:=by
 unfold So.ready
 rw[if_neg (by rw[h.wrong];simp),if_neg (by rw[h.closed];simp)]
theorem cw.add [Tab] (h:cw s p M Q U n W fr all fs (2*fs.length) m most) {l:List Int} (h1:l.length=W) (h2:fQ l) (b:jf n W fr Q cap (all++[l])) (hj:fs.length*(fr*cg W)+s.wait.length=all.length) (hw:s.wait.length<fr*cg W) (h100:2*fs.length+2≤cap) (hm:m<1000000000000):
  (s.add p l).2.2=0∧∃M' U' fs',cw (s.add p l).2.1 (s.add p l).1 M' Q U' n W fr (all++[l]) fs' (2*fs'.length) (m+(3*(all.length+1)+300)) most∧fs'.length*(fr*cg W)+(s.add p l).2.1.wait.length=(all++[l]).length∧(s.add p l).2.1.wait.length<fr*cg W:=by
 have hp:=h.push h1 h2
 have r1:=(bR (Nat.zero_le W) b.width).1
 have e1:s.af*aU s.width=((fr*cg W:Nat):Int):=by rw[h.af,h.width,r1,Int.natCast_mul]
 have e2:¬(l.length:Int)≠s.width:=by rw[h.width,h1];simp
 unfold So.add
 rw[if_neg (by rw[h.ready];simp),if_neg e2,e1]
 by_cases hc:s.wait.length+1<fr*cg W
 ·rw[if_pos (by omega)]
  refine⟨rfl,M,U,fs,⟨hp.calm,hp.room,hp.name,hp.width,hp.af,hp.wrong,hp.closed,hp.side,hp.good,hp.nodup,hp.names,hp.only,hp.mem,hp.fit,hp.used,hp.count,hp.next,hp.lo,by have:=hp.hi;show p.next≤_;omega,hp.most⟩,?_,?_⟩
  ·show _+(s.wait++[l]).length=_
   simp;omega
  ·show (s.wait++[l]).length<_
   simpa using hc
 ·rw[if_neg (by omega)]
  obtain⟨a1,M',U',L,a2⟩:=hp.aside b h100 hm
  simp only
  rw[a1]
  rw[List.length_append] at a2
  have hw2:({s with wait:=s.wait++[l]}.aside p).2.1={s with wait:=s.wait++[l]}.ov:=rfl
  rw[hw2] at a2
  refine⟨rfl,M',U',fs++[(bN n s.next,L)],?_,?_,?_⟩
  ·have:=a2.again
   rw[List.length_append]
   exact this
  ·show _+([]:List (List Int)).length=_
   simp only[List.length_append,List.length_cons,List.length_nil,Nat.add_mul]
   omega
  ·show ([]:List (List Int)).length<_
   simp only[List.length_nil];omega
end
section
variable {s:So} {p:Pl} {M:bI} {Q U:Nat} {n:ByteArray} {W fr:Nat} {all:List (List Int)} {fs:List (ByteArray×List (List Int))} {k m most cap:Nat}
theorem oZ [Tab] (fs:List (ByteArray×List (List Int))) (c:Nat):((fs.take c).flatMap (·.2)).length+((fs.drop c).flatMap (·.2)).length=(fs.flatMap (·.2)).length:=by
 rw[←List.length_append,←List.flatMap_append,List.take_append_drop]
theorem xB [Tab] (fs:List (ByteArray×List (List Int))) (c:Nat) (y:List Int):y∈fs.flatMap (·.2)↔y∈(fs.take c).flatMap (·.2)∨y∈(fs.drop c).flatMap (·.2):=by
 rw[←List.mem_append,←List.flatMap_append,List.take_append_drop]
theorem cw.merge [Tab] (h:cw s p M Q U n W fr all fs k m most) (b:jf n W fr Q cap all) {c:Nat} (hc:1≤c) (hne:fs≠[]) {to:ByteArray} (hM:M to=none) (hto:named to=true) (hts:to.size≤9223372036854775807) (hk:k≤cap) (hm:m<1000000000000) (nx:Nat):
  ((s.to nx).merge p c to).2.2=((ay (bp ((fs.take c).flatMap (·.2)))).length,0)∧((s.to nx).merge p c to).2.1={s with next:=nx,side:=s.side.drop c}∧∃M' U',aO ((s.to nx).merge p c to).1 M' Q U'∧cA M'∧(∀a,a∉(fs.take c).map (·.1)→a≠to→M' a=M a)∧(∀a∈(fs.take c).map (·.1),M' a=none)∧
    jh M' to W (cg W) (ay (bp ((fs.take c).flatMap (·.2))))∧U'=dY W (fs.drop c)+(1+aJ (ay (bp ((fs.take c).flatMap (·.2)))).length (cg W))∧0≤((s.to nx).merge p c to).1.next∧((s.to nx).merge p c to).1.next≤((m+(3*all.length+300):Nat):Int)∧((s.to nx).merge p c to).1.most=most:=by
 have hle:=h.le b
 have hlo:=h.lo
 have hhi:=h.hi
 have hct:=h.count
 have hcp0:=b.cap
 have hfl:fs.length≤cap:=by have:=h.next;omega
 have hmany:=b.many
 have hcp:=b.cap
 have hbig:=b.big
 have hfk:=oZ fs c
 have hol:=dz ((fs.take c).flatMap (·.2))
 have hg:∀a∈fs.take c,mT M W a:=fun a ha=>h.good a (List.mem_of_mem_take ha)
 have hn1:fs.take c≠[]:=by
  intro q
  rcases List.take_eq_nil_iff.1 q with q|q
  ·omega
  ·exact hne q
 have htl:(fs.take c).length≤100:=by rw[List.length_take];omega
 obtain⟨a1,M1,U1,w1,w2,_,w4⟩:=CA (to:=to) (out:=ay (bp ((fs.take c).flatMap (·.2)))) b.width b.quota h.calm h.room hg hn1 hM hto hts (ns:=fs.map (·.1)) h.only (by simp;omega) rfl (by omega) (by omega) (by omega) h.lo (by omega)
 have hto2:∀a∈fs,a.1≠to:=fun a ha q=>by
  obtain⟨T,q1,_⟩:=(h.good a ha).run.file
  rw[q,hM] at q1;cases q1
 have hnd:((fs.take c).map (·.1)).Nodup:=h.nodup.sublist ((List.take_sublist _ _).map _)
 obtain⟨d1,M2,d2,d3,d4,d5,d6,d7⟩:=xt (fs:=fs.take c) w1.calm w1.room (fun a ha=>(hg a ha).aq (w1.other _ (hto2 a (List.mem_of_mem_take ha)))) hnd
 have es:(s.to nx).side.take c=(fs.take c).map (·.1):=by show s.side.take c=_;rw[h.side,List.map_take]
 have ew:(s.to nx).width=W:=h.width
 have q:=w1.next
 have htn:to∉(fs.take c).map (·.1):=fun u=>by
  obtain⟨a,ha,e⟩:=List.mem_map.1 u
  exact hto2 a (List.mem_of_mem_take ha) e
 have em:tY ((fs.take c).map (·.1)) (dP p ((fs.take c).map (·.1)) to W)=kn ((fs.take c).map (·.1)) (dP p ((fs.take c).map (·.1)) to W).1:=by
  unfold tY
  rw[if_neg (by rw[a1];simp)]
 unfold So.merge
 rw[es,ew,em,a1,d1]
 refine⟨rfl,by rw[←h.width];rfl,M2,_,d2,d3,fun a ha hb=>(d4 a ha).trans (w1.other a hb),d5,w2.aq (d4 to htn),?_,by show 0≤(kn _ _).1.next;omega,by show (kn _ _).1.next≤_;omega,(d7.trans w1.most).trans h.most⟩
 have:dY W fs=dY W (fs.take c)+dY W (fs.drop c):=by rw[←jw,List.take_append_drop]
 have:=h.used
 omega
set_option maxRecDepth 10000 in
theorem cw.round [Tab] (h:cw s p M Q U n W fr all fs cap m most) (b:jf n W fr Q cap all) (hne:fs≠[]) (hc:fr≤fs.length) (hm:m<1000000000000):
  (s.round p).2.2.2=0∧∃M1 U1 fs1,cw {(s.round p).2.1 with side:=s.side.drop (s.af - 1).toNat++[bN s.name s.next]} (s.round p).1 M1 Q U1 n W fr all fs1 cap (m+(3*all.length+300)) most∧fs1≠[]∧fs1.length+1≤fs.length∧(s.round p).2.1.wait=s.wait:=by
 have hfr:=b.af
 have hcp0:=b.cap
 have hnx:s.next+fs.length≤cap:=h.next
 have hx:s.next<100:=by omega
 have hcc:(s.af - 1).toNat=fr - 1:=by rw[h.af];omega
 obtain⟨a1,a2,M1,U1,c1,c2,c3,c4,c5,c6,c7,c8,c9⟩:=h.merge b (c:=fr - 1) (by omega) hne (h.free hx) (b.named.2 _ hx) (b.size.2 _ hx) (Nat.le_refl _) (by omega) (s.next+1)
 have hol:=dz ((fs.take (fr - 1)).flatMap (·.2))
 have hfk:=oZ fs (fr - 1)
 have hct:=h.count
 have hbig:=b.big
 have er:s.round p=(s.to (s.next+1)).merge p (fr - 1) (bN n s.next):=by unfold So.round;rw[hcc,h.name]
 have hnot:∀a∈fs.drop (fr - 1),a.1∉(fs.take (fr - 1)).map (·.1):=fun a ha u=>by
  have hd:=h.nodup
  rw[←List.take_append_drop (fr - 1) fs,List.map_append,List.nodup_append] at hd
  exact hd.2.2 _ u _ (List.mem_map.2 ⟨a,ha,rfl⟩) rfl
 have hto2:∀a∈fs,a.1≠bN n s.next:=fun a ha q=>by
  obtain⟨T,q1,_⟩:=(h.good a ha).run.file
  rw[q,h.free hx] at q1;cases q1
 have g:cw {((s.to (s.next+1)).merge p (fr - 1) (bN n s.next)).2.1 with side:=s.side.drop (fr - 1)++[bN n s.next]} ((s.to (s.next+1)).merge p (fr - 1) (bN n s.next)).1 M1 Q U1 n W fr all (fs.drop (fr - 1)++[(bN n s.next,ay (bp ((fs.take (fr - 1)).flatMap (·.2))))]) cap (m+(3*all.length+300)) most:=by
  rw[a2]
  refine⟨c1,c2,h.name,h.width,h.af,h.wrong,h.closed,?_,?_,?_,?_,?_,?_,h.fit,?_,?_,?_,c7,c8,c9⟩
  ·show s.side.drop (fr - 1)++_=_
   rw[h.side,List.map_append,List.map_drop];rfl
  ·intro a ha
   rcases List.mem_append.1 ha with q|q
   ·exact(h.good a (List.mem_of_mem_drop q)).aq (c3 _ (hnot a q) (hto2 a (List.mem_of_mem_drop q)))
   ·rw[List.mem_singleton] at q
    subst q
    exact⟨c5,pz fun y hy=>h.fit y ((h.mem y).2 (.inr ((xB fs (fr - 1) y).2 (.inl hy)))),b.size.2 _ hx,by show (ay _).length≤_;omega⟩
  ·rw[List.map_append,List.nodup_append]
   refine⟨h.nodup.sublist ((List.drop_sublist _ _).map _),by simp,fun a ha c hc=>?_⟩
   simp at hc
   obtain⟨z,z1,z2⟩:=List.mem_map.1 ha
   rw[←z2,hc];exact hto2 z (List.mem_of_mem_drop z1)
  ·intro x hx'
   rw[List.map_append] at hx'
   rcases List.mem_append.1 hx' with q|q
   ·obtain⟨z,z1,z2⟩:=List.mem_map.1 q
    obtain⟨i,i1,i2⟩:=h.names x (List.mem_map.2 ⟨z,List.mem_of_mem_drop z1,z2⟩)
    exact⟨i,by show i<s.next+1;omega,i2⟩
   ·simp at q
    exact⟨s.next,Nat.lt_succ_self _,q⟩
  ·intro a y ha
   rw[List.map_append]
   by_cases e:a=bN n s.next
   ·exact List.mem_append.2 (.inr (by simp[e]))
   ·by_cases q:a∈(fs.take (fr - 1)).map (·.1)
    ·rw[c4 a q] at ha;cases ha
    ·rw[c3 a q e] at ha
     have:=h.only a y ha
     rw[←List.take_append_drop (fr - 1) fs,List.map_append,List.mem_append] at this
     exact List.mem_append.2 (.inl (this.resolve_left q))
  ·intro y
   rw[h.mem,List.flatMap_append,List.mem_append,xB fs (fr - 1)]
   show _↔y∈s.wait∨_
   simp only[List.flatMap_cons,List.flatMap_nil,List.append_nil,eR]
   constructor
   ·rintro(u|u|u)
    ·exact .inl u
    ·exact .inr (.inr u)
    ·exact .inr (.inl u)
   ·rintro(u|u|u)
    ·exact .inl u
    ·exact .inr (.inr u)
    ·exact .inr (.inl u)
  ·rw[c6,jw]
   unfold dY
   simp
  ·rw[List.flatMap_append,List.length_append]
   show s.wait.length+_≤_
   simp only[List.flatMap_cons,List.flatMap_nil,List.append_nil]
   omega
  ·rw[List.length_append,List.length_drop]
   show s.next+1+(fs.length - (fr - 1)+1)≤cap
   omega
 rw[hcc,h.name,er]
 refine⟨by rw[a1],M1,U1,_,g,by simp,?_,by rw[a2]⟩
 rw[List.length_append,List.length_drop]
 show fs.length - (fr - 1)+1+1≤fs.length
 omega
set_option maxRecDepth 10000 in
theorem cw.rounds [Tab] (b:jf n W fr Q cap all):∀(f:Nat) {s:So} {p:Pl} {M:bI} {U:Nat} {fs:List (ByteArray×List (List Int))} {m:Nat},cw s p M Q U n W fr all fs cap m most→s.wait=[]→fs≠[]→fs.length≤f→m+f*(3*all.length+300)<1000000000000→
  (s.rounds f p).2.2=0∧∃M' U' fs',cw (s.rounds f p).2.1 (s.rounds f p).1 M' Q U' n W fr all fs' cap (m+f*(3*all.length+300)) most∧(s.rounds f p).2.1.wait=[]∧fs'≠[]∧fs'.length<fr
 |0,s,p,M,U,fs,m,h,hw,hne,hf,hm=>absurd (List.eq_nil_of_length_eq_zero (by omega)) hne
 |f+1,s,p,M,U,fs,m,h,hw,hne,hf,hm=>by
   rw[Nat.succ_mul] at hm
   have hsl:s.side.length=fs.length:=by rw[h.side,List.length_map]
   by_cases hc:fr≤fs.length
   ·obtain⟨a1,M1,U1,fs1,g,g1,g2,g3⟩:=h.round b hne hc (by omega)
    have e:s.rounds (f+1) p=So.rounds f {(s.round p).2.1 with side:=s.side.drop (s.af - 1).toNat++[bN s.name s.next]} (s.round p).1:=by
     show (if s.af≤(s.side.length:Int) then _ else _)=_
     rw[if_pos (by rw[h.af,hsl];omega),if_neg (by rw[a1];simp)]
    rw[e]
    obtain⟨r1,M',U',fs',r2,r3,r4,r5⟩:=cw.rounds b f g (g3.trans hw) g1 (by omega) (by omega)
    refine⟨r1,M',U',fs',?_,r3,r4,r5⟩
    rw[Nat.succ_mul,show m+(f*(3*all.length+300)+(3*all.length+300))=m+(3*all.length+300)+f*(3*all.length+300) by omega]
    exact r2
   ·have e:s.rounds (f+1) p=(p,s,0):=by
     show (if s.af≤(s.side.length:Int) then _ else _)=_
     rw[if_neg (by rw[h.af,hsl];omega)]
    rw[e]
    refine⟨rfl,M,U,fs,⟨h.calm,h.room,h.name,h.width,h.af,h.wrong,h.closed,h.side,h.good,h.nodup,h.names,h.only,h.mem,h.fit,h.used,h.count,h.next,h.lo,?_,h.most⟩,hw,hne,by omega⟩
    have:=h.hi
    generalize (f+1)*(3*all.length+300)=z
    show p.next≤_
    omega
theorem cw.done [Tab] (h:cw s p M Q U n W fr all fs (2*fs.length) m most) (b:jf n W fr Q cap all) (h100:2*fs.length+2≤cap) (hm:m+200*(3*all.length+300)<1000000000000):
  (s.done p).2.2=((ay (bp all)).length,0)∧(s.done p).2.1.wrong=0∧(s.done p).2.1.closed=true∧∃M',aO (s.done p).1 M' Q (1+aJ (ay (bp all)).length (cg W))∧cA M'∧jh M' n W (cg W) (ay (bp all))∧fR W (ay (bp all))∧(∀a,a≠n→M' a=none)∧0≤(s.done p).1.next∧(s.done p).1.next≤m+200*(3*all.length+300)∧(s.done p).1.most=most:=by
 have hne0:fs=[]↔s.side=[]:=by rw[h.side];simp
 have first:(s.first p).2.2=0∧∃M' U' fs',cw (s.first p).2.1 (s.first p).1 M' Q U' n W fr all fs' cap (m+(3*all.length+300)) most∧(s.first p).2.1.wait=[]∧fs'≠[]:=by
  unfold So.first
  by_cases hc:s.wait≠[]∨s.side=[]
  ·rw[if_pos hc]
   obtain⟨a1,M',U',L,a2⟩:=h.aside b h100 (by omega)
   exact⟨a1,M',U',_,⟨a2.calm,a2.room,a2.name,a2.width,a2.af,a2.wrong,a2.closed,a2.side,a2.good,a2.nodup,a2.names,a2.only,a2.mem,a2.fit,a2.used,a2.count,Nat.le_trans a2.next (by omega),a2.lo,a2.hi,a2.most⟩,rfl,by simp⟩
  ·rw[if_neg hc]
   rw[not_or] at hc
   exact⟨rfl,M,U,fs,⟨h.calm,h.room,h.name,h.width,h.af,h.wrong,h.closed,h.side,h.good,h.nodup,h.names,h.only,h.mem,h.fit,h.used,h.count,Nat.le_trans h.next (by omega),h.lo,by have:=h.hi;show p.next≤_;omega,h.most⟩,Classical.not_not.1 hc.1,fun q=>hc.2 (hne0.1 q)⟩
 obtain⟨f1,M1,U1,fs1,f2,f3,f4⟩:=first
 have hl1:fs1.length≤100:=by have:=f2.next;have:=b.cap;omega
 have hs1:(s.first p).2.1.side.length=fs1.length:=by rw[f2.side,List.length_map]
 have hz:fs1.length*(3*all.length+300)≤100*(3*all.length+300):=Nat.mul_le_mul_right _ hl1
 have h198:200*(3*all.length+300)=100*(3*all.length+300)+100*(3*all.length+300):=by omega
 obtain⟨r1,M2,U2,fs2,r2,r3,r4,r5⟩:=cw.rounds b fs1.length f2 f3 f4 (Nat.le_refl _) (by omega)
 have ho:ay (bp (fs2.flatMap (·.2)))=ay (bp all):=Gc fun y=>by rw[r2.mem,r3];simp
 have hs2:((s.first p).2.1.rounds fs1.length (s.first p).1).2.1.side.length=fs2.length:=by rw[r2.side,List.length_map]
 obtain⟨a1,a2,M3,U3,c1,c2,c3,c4,c5,c6,c7,c8,c9⟩:=r2.merge b (c:=fs2.length) (List.length_pos_iff.2 r4) r4 r2.JR b.named.1 b.size.1 (Nat.le_refl _) (by omega) ((s.first p).2.1.rounds fs1.length (s.first p).1).2.1.next
 have e:s.done p=So.ends (((s.first p).2.1.rounds fs1.length (s.first p).1).2.1.merge ((s.first p).2.1.rounds fs1.length (s.first p).1).1 fs2.length n):=by
  unfold So.done So.tO So.last
  rw[if_neg (by rw[h.ready];simp),if_neg (by rw[f1];simp),hs1,if_neg (by rw[r1];simp),hs2,r2.name]
 rw[List.take_length] at a1 c3 c4 c5 c6
 rw[ho] at a1 c5 c6
 have eta:∀x:So,x.to x.next=x:=fun x=>rfl
 rw[eta] at a1 a2 c1 c7 c8 c9
 rw[e]
 unfold So.ends
 rw[if_neg (by rw[a1];simp),a1]
 have hrise:fR W (ay (bp all)):=pz h.fit
 refine⟨rfl,?_,rfl,M3,?_,c2,c5,hrise,fun a ha=>?_,c7,?_,c9⟩
 ·exact(congrArg So.wrong a2).trans r2.wrong
 ·have eu:U3=1+aJ (ay (bp all)).length (cg W):=by
   rw[c6,List.drop_length]
   show 0+_=_
   omega
  rw[←eu];exact c1
 ·by_cases q:a∈fs2.map (·.1)
  ·exact c4 a q
  ·rw[c3 a q ha]
   cases u:M2 a with
   |none=>rfl
   |some y=>exact absurd (r2.only a y u) q
 ·exact Int.le_trans c8 (by omega)
end
open Go.MapKept
structure cO [Tab] (H0 A:aa) (F:Nat→Prop) (p dp:Nat) (s:Pl) (M:bI) (Q U most m:Nat):Prop where
 ext:Ext H0 A
 pool:al F A p dp s
 old:∀b,F b→H0.size≤b
 calm:aO s M Q U
 lo:0≤s.next
 hi:s.next≤m
 aH:s.d.aH≤2*m
 le:U≤Q
 room:∀n x,M n=some x→∀k,(x.T k).2.length≤504
 most:s.most=most
section
variable {H0 A B:aa} {F F':Nat→Prop} {p dp Q U most m:Nat} {s s':Pl} {M M':bI} {n:ByteArray} {x x':St}
theorem cO.gl [Tab] (h:cO H0 A F p dp s M Q U most m) (hg:Gl H0):Gl A:=hg.mod h.ext id
theorem cO.xl [Tab] {m':Nat} (h:cO H0 A F p dp s M Q U most m) (hm:m≤m'):cO H0 A F p dp s M Q U most m':=
 ⟨h.ext,h.pool,h.old,h.calm,h.lo,by have:=h.hi;omega,by have:=h.aH;omega,h.le,h.room,h.most⟩
theorem cO.aside [Tab] (h:cO H0 A F p dp s M Q U most m) (e:Ext H0 B) (hs:∀b,F b→B[b]?=A[b]?):cO H0 B F p dp s M Q U most m:=
 ⟨e,h.pool.aq fun b hb _=>hs b hb,h.old,h.calm,h.lo,h.hi,h.aH,h.le,h.room,h.most⟩
end
section
variable {H0 A B:aa} {F F':Nat→Prop} {p dp Q U U' most m m':Nat} {s s':Pl} {M M':bI} {n:ByteArray} {x x':St}
set_option maxRecDepth 10000 in
theorem cO.sQ [Tab] {Y Y':Nat→Prop} (h:cO H0 A F p dp s M Q U most m) (hC:aO s' M' Q U') (hR:cA M') (hp:al F' B p dp s') (S:Step Y Y' A B) (h1:∀b,Y b→H0.size≤b) (h2:∀b,F' b→Y' b)
  (n1:s.next≤s'.next) (n2:s'.next≤s.next+2100) (lg:s'.d.aH≤s.d.aH+4200) (hU:U'≤Q) (hm:s'.most=s.most):cO H0 B F' p dp s' M' Q U' most (m+2100):=by
 have hz:=h.ext.size
 have lo:=h.lo
 have hi:=h.hi
 have hl:=h.aH
 refine⟨⟨Nat.le_trans hz S.mod.size,fun b hb _=>(S.mod.same b (by omega) fun u=>by have:=h1 b u;omega).trans (h.ext.same b hb id)⟩,hp,fun b hb=>?_,hC,by omega,by omega,by omega,hU,hR,hm.trans h.most⟩
 rcases S.own b (h2 b hb) with u|u
 ·exact h1 b u
 ·omega
variable {k W i:Nat} {w:RW} {sw sl l:Sl} {rs:List (List Int)}
theorem cO.FQ [Tab] {K:(Option Addr×Int)→aa→Prop} (h:cO H0 A F p dp s M Q U most m) (hg:Gl H0) (hrun:jh M n W (cg W) rs) (hbig:rs.length≤1000000) (hs:n.size≤9223372036854775807) (hQ:Q≤1048576) (h1:0≤W) (h2:W≤16) (hm:m≤30000000000)
  (hK:∀F' s' k B,cO H0 B F' p dp s' M Q U most (m+2100)→ux B k p (EH n W rs.length) dr []→kE (EH n W rs.length) n W (cg W) rs→Step F F' A B→A.size≤k→¬F' k→K (aI k,0) B):Fw.sp (aI p) n W A K:=by
 have lo:=h.lo
 have hnx:=h.hi
 have hlg:=h.aH
 obtain⟨a1,c1,c2,c3,c4,c5,c6⟩:=hrun.opened h.calm h1 h2 hs hQ h.le hbig h.lo (by omega)
 have ol:=xV s n (W:Int)
 refine wW (h.gl hg) h.pool hs (by omega) (by omega) h.lo (fun F' B q1 S q2=>?_) (fun F' B k r q1 S q2 q3 q4 q5=>?_)
 ·rw[a1] at q2;cases q2
 ·have q2':r=EH n W rs.length:=by rw[a1] at q2;exact(Option.some.inj q2).symm
  subst q2'
  rw[a1]
  exact hK F' _ k B (h.sQ c1 h.room q1 S h.old (fun b hb=>hb) (by omega) (by omega) (by omega) h.le c4) q3 c2 S q4 q5
variable {r:RR} {si:Sl} {srs:List Sl}
theorem cO.DY [Tab] {K:(Sl×Bool×Int)→aa→Prop} (h:cO H0 A F p dp s M Q U most m) (hg:Gl H0) (hrd:ux A k p r si srs) (hd:∀b,F b→¬nu k si srs b) (hrun:jh M n W (cg W) rs) (hon:kE r n W (cg W) rs) (hr:fR W rs) (hbig:rs.length≤1000000) (hs:n.size≤9223372036854775807) (hQ:Q≤1048576) (h1:0≤W) (h2:W≤16) (hm:m≤30000000000) (hk:H0.size≤k)
  (hK1:r.at_<rs.length→∀F' s' si' srs' r' l B,cO H0 B F' p dp s' M Q U most (m+2100)→ux B k p r' si' srs'→(∀b,F' b→¬nu k si' srs' b)→kE r' n W (cg W) rs→r'.at_=r.at_+1→au B 0 fx 1 l ((rs.getD r.at_ []).map (Value.int .u64))→(∀b,ai l b→A.size≤b∧¬F' b∧¬nu k si' srs' b)→Mod (fun b=>F b∨b=k) A B→(∀b,F' b→F b∨A.size≤b)→(∀b,nu k si' srs' b→nu k si srs b∨A.size≤b)→K (l,true,0) B)
  (hK0:r.at_=rs.length→∀F' s' si' srs' r' B,cO H0 B F' p dp s' M Q U most (m+2100)→ux B k p r' si' srs'→(∀b,F' b→¬nu k si' srs' b)→kE r' n W (cg W) rs→r'.at_=r.at_→Mod (fun b=>F b∨b=k) A B→(∀b,F' b→F b∨A.size≤b)→(∀b,nu k si' srs' b→nu k si srs b∨A.size≤b)→K (Sl.mk none 0 0,false,0) B):CO.sp (aI k) A K:=by
 have lo:=h.lo
 have hnx:=h.hi
 have hlg:=h.aH
 have hgl:=hg.lt
 obtain⟨n1,n2⟩:=hrun.next h.calm hon h1 h2 hr hs hQ h.le h.lo (by omega)
 have nl:=RR.Cz r s
 refine tX (h.gl hg) (fun u=>by have:=h.old _ u;omega) (by omega) (⟨h.pool,hrd,hd,.refl _ _,fun _ q=>.inl q,fun _ q=>.inl q⟩:iR A F (nu k si srs) k p dp si srs F A s r) (hon.KP h1 h2 hbig) (by rw[hon.b];exact hs) (by omega) (by omega) h.lo fun F' si' srs' B l g o f nl0=>?_
 have old':∀b,F b∨b=k→H0.size≤b:=fun b u=>u.elim (h.old b) fun e=>by omega
 by_cases hc:r.at_<rs.length
 ·obtain⟨a1,a2,a3,a4,a5,a6,a7⟩:=n1 hc
  rw[a1] at o ⊢
  exact hK1 hc F' _ si' srs' _ l B (h.sQ a2 h.room g.pool (⟨g.mod,fun b u=>(g.own b u).imp .inl id⟩:Step (fun b=>F b∨b=k) F' A B) old' (fun b hb=>hb) a5 (by omega) (by omega) h.le a7) g.rd g.dis a3 a4 o f g.mod g.own g.own2
 ·have he:r.at_=rs.length:=by have:=hon.at_;omega
  have a1:=n2 he
  rw[a1] at g o nl0 ⊢
  rw[nl0 rfl]
  exact hK0 he F' s si' srs' r B (h.sQ h.calm h.room g.pool (⟨g.mod,fun b u=>(g.own b u).imp .inl id⟩:Step (fun b=>F b∨b=k) F' A B) old' (fun b hb=>hb) (Int.le_refl _) (by omega) (by omega) h.le rfl) g.rd g.dis hon rfl g.mod g.own g.own2
theorem cO.FO [Tab] {K:Int→aa→Prop} (h:cO H0 A F p dp s M Q U most m) (hg:Gl H0) (hM:M n=some x)
  (hK:∀F' s' B,cO H0 B F' p dp s' (jz M n none) Q (U - x.N) most (m+2100)→Step F F' A B→K 0 B):Fj.sp (aI p) n A K:=by
 obtain⟨d1,d2,d3,d4⟩:=h.calm.dt hM
 have dl:=s.rO n
 refine AN (h.gl hg) h.pool fun F' B q1 S=>?_
 rw[d1]
 exact hK F' _ B (h.sQ d2 (cA.less h.room) q1 S h.old (fun b hb=>hb) (by omega) (by omega) (by omega) (by have:=h.le;omega) d3) S
end
section
variable {s:So} {p:Pl} {M:bI} {Q U:Nat} {n:ByteArray} {W fr:Nat} {all:List (List Int)} {fs:List (ByteArray×List (List Int))} {k m most cap:Nat}
theorem xk (W:Nat):∀fs:List (ByteArray×List (List Int)),dg (fs.map (fS W))=(fs.flatMap (·.2)).length
 |[]=>rfl
 |a::fs=>by
   have:=xk W fs
   unfold dg at this ⊢
   rw[List.map_cons,List.map_cons,List.sum_cons,List.flatMap_cons,List.length_append,this]
   rfl
theorem cw.Ec [Tab] (h:cw s p M Q U n W fr all fs k m most) (b:jf n W fr Q cap all) (hk:k≤cap) (hm:m<1000000000000) (c:Nat):dg (bf s.width (s.side.take c) p).2.1≤all.length:=by
 have hle:=h.le b
 have hct:=h.count
 have hmany:=b.many
 have hcp:=b.cap
 have hlo:=h.lo
 have hhi:=h.hi
 have hcp0:=b.cap
 have hfl:fs.length≤cap:=by have:=h.next;omega
 have htl:(fs.take c).length≤100:=by rw[List.length_take];omega
 obtain⟨o1,_⟩:=sJ (fs:=fs.take c) b.width b.quota (by omega) h.calm (fun a ha=>h.good a (List.mem_of_mem_take ha)) h.lo (by omega)
 have es:s.side.take c=(fs.take c).map (·.1):=by rw[h.side,List.map_take]
 rw[h.width,es,o1]
 show dg ((fs.take c).map (fS W))≤_
 rw[xk]
 have:=oZ fs c
 omega
set_option maxRecDepth 100000 in
theorem cw.iY [Tab] (b:jf n W fr Q cap all):∀(f:Nat) {s:So} {p:Pl} {M:bI} {U:Nat} {fs:List (ByteArray×List (List Int))} {m:Nat},cw s p M Q U n W fr all fs cap m most→fs≠[]→m+f*(3*all.length+300)<1000000000000→s.iY all.length f p
 |0,_,_,_,_,_,_,_,_,_=>trivial
 |f+1,s,p,M,U,fs,m,h,hne,hm=>fun hc=>by
   rw[Nat.succ_mul] at hm
   have hc':fr≤fs.length:=by rw[h.af,h.side,List.length_map] at hc;omega
   obtain⟨_,M1,U1,fs1,g,g1,_,_⟩:=h.round b hne hc' (by omega)
   exact⟨h.Ec b (Nat.le_refl _) (by omega) _,fun _=>cw.iY b f g g1 (by omega)⟩
theorem cw.first [Tab] (h:cw s p M Q U n W fr all fs (2*fs.length) m most) (b:jf n W fr Q cap all) (h100:2*fs.length+2≤cap) (hm:m<1000000000000):
  (s.first p).2.2=0∧∃M' U' fs',cw (s.first p).2.1 (s.first p).1 M' Q U' n W fr all fs' cap (m+(3*all.length+300)) most∧(s.first p).2.1.wait=[]∧fs'≠[]:=by
 have hne0:fs=[]↔s.side=[]:=by rw[h.side];simp
 unfold So.first
 by_cases hc:s.wait≠[]∨s.side=[]
 ·rw[if_pos hc]
  obtain⟨a1,M',U',L,a2⟩:=h.aside b h100 (by omega)
  exact⟨a1,M',U',_,⟨a2.calm,a2.room,a2.name,a2.width,a2.af,a2.wrong,a2.closed,a2.side,a2.good,a2.nodup,a2.names,a2.only,a2.mem,a2.fit,a2.used,a2.count,Nat.le_trans a2.next (by omega),a2.lo,a2.hi,a2.most⟩,rfl,by simp⟩
 ·rw[if_neg hc]
  rw[not_or] at hc
  exact⟨rfl,M,U,fs,⟨h.calm,h.room,h.name,h.width,h.af,h.wrong,h.closed,h.side,h.good,h.nodup,h.names,h.only,h.mem,h.fit,h.used,h.count,Nat.le_trans h.next (by omega),h.lo,by have:=h.hi;show p.next≤_;omega,h.most⟩,Classical.not_not.1 hc.1,fun q=>hc.2 (hne0.1 q)⟩
theorem cw.qZ [Tab] (h:cw s p M Q U n W fr all fs (2*fs.length) m most) (b:jf n W fr Q cap all) (h100:2*fs.length+2≤cap) (hm:m+200*(3*all.length+300)<1000000000000):So.qZ all.length (s.first p):=fun _=>by
 obtain⟨f1,M1,U1,fs1,f2,f3,f4⟩:=h.first b h100 (by omega)
 have hl1:fs1.length≤100:=by have:=f2.next;have:=b.cap;omega
 have hs1:(s.first p).2.1.side.length=fs1.length:=by rw[f2.side,List.length_map]
 have hz:fs1.length*(3*all.length+300)≤100*(3*all.length+300):=Nat.mul_le_mul_right _ hl1
 rw[hs1]
 refine⟨cw.iY b _ f2 f4 (by omega),fun _=>?_⟩
 obtain⟨_,M2,U2,fs2,r2,_⟩:=cw.rounds b fs1.length f2 f3 f4 (Nat.le_refl _) (by omega)
 exact r2.Ec b (Nat.le_refl _) (by omega) _
theorem cw.KZ [Tab] (h:cw s p M Q U n W fr all fs (2*fs.length) m most) (b:jf n W fr Q cap all) (h100:2*fs.length+2≤cap):Di s∧s.width≤16∧3≤s.af∧s.next+s.side.length+2≤100:=by
 have hn:=b.name
 have hf:=b.af
 have hw:=b.width
 have hct:=h.count
 have hb:=b.big
 have hx:=h.next
 have hcp:=b.cap
 have hs:s.side.length=fs.length:=by rw[h.side,List.length_map]
 refine⟨⟨by rw[h.name];omega,by omega,by omega,fun x hx=>?_,by omega,by rw[h.af];omega⟩,by rw[h.width];omega,by rw[h.af];omega,by omega⟩
 rw[h.side] at hx
 obtain⟨a,ha,e⟩:=List.mem_map.1 hx
 rw[←e];exact(h.good a ha).size
end
theorem So.IN [Tab] {t:So} {s:Pl} {l:List Int} {x y:Nat} (h:Bd s x y) (hx:x<800000000000) (hw:t.wait.length<400000) (hf:(t.add s l).1.fs.length≤4096):Bd (t.add s l).1 (x+400010) (y+805000):=by
 unfold So.add at hf ⊢
 split at hf
 ·rename_i e
  rw[if_pos e];exact h.mono (by omega) (by omega)
 ·rename_i e
  rw[if_neg e]
  split at hf
  ·rename_i e1
   rw[if_pos e1];exact h.mono (by omega) (by omega)
  ·rename_i e1
   rw[if_neg e1]
   split at hf
   ·rename_i e2
    rw[if_pos e2];exact h.mono (by omega) (by omega)
   ·rename_i e2
    rw[if_neg e2]
    have hol:=dz (t.wait++[l])
    have hl:(t.wait++[l]).length≤400000:=by simp;omega
    exact(xp h (by show _+(ay (bp (t.wait++[l]))).length<_;omega) hf).mono (by show _+(ay (bp (t.wait++[l]))).length+10≤_;omega) (by show _+2*(ay (bp (t.wait++[l]))).length+5000≤_;omega)
section
variable {H0 A:aa} {k p dp:Nat} {n:ByteArray} {W fr Q most cap:Nat} {all:List (List Int)} {m x y:Nat}
theorem IE {x y a:Nat} (hx:x<10000000000) (hy:y<2000000000) (ha:a≤300000):x+400010+101*(2*a+3000)≤20000000000∧y+805000+101*(3*a+9000)≤20000000000:=by omega
end
def yb:bI:=fun _=>none
section
variable {H A:aa} {p dp:Nat} {n:ByteArray} {W fr q mo:Nat}
theorem Ek [Tab] (hq:q≤1048576) (h8:8≤mo) (hm:mo≤4096):aO (vd (yo (q:Int)) mo) yb q 0:=
 ⟨⟨rfl,rfl,rfl,by show (min (max (q:Int) 0) 1048576).toNat=q;omega,rfl,List.nodup_nil,fun i f hf=>(by cases hf),fun n x hx=>(by cases hx),fun g hg=>(by cases hg)⟩,Ex h8 hm,fun f hf=>(by cases hf)⟩
end
def three:List (List Int):=[[5],[1],[5]]
theorem jD {A:aa} {k:Nat} {t:TypeId} {ik:IntKind} {x:Int} (r:ag A k t #[.int ik x]):Ints ik A ⟨some ⟨k,0,none⟩,1,1⟩ [x]:=by
 refine⟨rfl,fun i u hu=>⟨_,rfl,?_⟩⟩
 have hi:i=0:=by have:=(List.getElem?_eq_some_iff.1 hu).1;simp at this;omega
 subst hi
 simp at hu;subst hu
 rw[bH];exact r.cell rfl
section
variable {H:aa}
end
theorem Ext.eJ [Tab] {H A B:aa} {F:Nat→Prop} (h:Ext H A) (m:Mod F A B) (hf:∀b,F b→H.size≤b):Ext H B:=
 ⟨Nat.le_trans h.size m.size,fun b hb _=>(m.same b (Nat.lt_of_lt_of_le hb h.size) fun u=>by have:=hf b u;omega).trans (h.same b hb id)⟩
theorem au.IM {H:aa} {base base':Nat} {e:TypeId} {size:Nat} {s:Sl} {xs:List Value} (h:au H base e size s xs) (hb:∀b,ai s b→base'≤b):au H base' e size s xs:=by
 refine⟨h.1,h.2.imp id ?_⟩
 rintro⟨g,cap,cur,e1,_,h3⟩
 refine⟨g,cap,cur,e1,hb g ?_,h3⟩
 cases s;simp only[Sl.v,Value.slice.injEq] at e1
 exact⟨_,e1.1,rfl⟩
structure CX [Tab] (H0 A:aa) (X:Nat→Prop) (k p dp:Nat) (n:ByteArray) (W fr Q most:Nat) (all:List (List Int)) (m x y:Nat):Prop where
 ext:Ext H0 A
 ex:∃F s t sw rs ss M U fs,al F A p dp s∧qn A k p t sw rs ss∧(∀b,F b→¬fH k sw rs ss b)∧(∀b,F b∨fH k sw rs ss b→H0.size≤b∧¬X b)∧cw t s M Q U n W fr all fs (2*fs.length) m most∧fs.length*(fr*cg W)+t.wait.length=all.length∧t.wait.length<fr*cg W∧Bd s x y
 lt:∀b,X b→b<A.size
section
variable {H0 A B:aa} {X X' Y:Nat→Prop} {k p dp:Nat} {n:ByteArray} {W fr Q q mo most cap:Nat} {all:List (List Int)} {m x y:Nat}
theorem CX.move [Tab] (h:CX H0 A X k p dp n W fr Q most all m x y) (mm:Mod Y A B) (hy:∀b,Y b→X b∧H0.size≤b) (hx:∀b,X' b→(X b∨A.size≤b)∧b<B.size):CX H0 B X' k p dp n W fr Q most all m x y:=by
 obtain⟨e,⟨F,s,t,sw,rs,ss,M,U,fs,a1,a2,a3,a4,a5⟩,l⟩:=h
 have hs:∀b,F b∨fH k sw rs ss b→b<A.size:=fun b u=>by
  rcases u with u|u
  ·exact a1.lt b u
  ·exact a2.lt b u
 have hn:∀b,F b∨fH k sw rs ss b→¬Y b:=fun b u v=>(a4 b u).2 (hy b v).1
 refine⟨⟨Nat.le_trans e.size mm.size,fun b hb _=>(mm.same b (Nat.lt_of_lt_of_le hb e.size) fun u=>by have:=(hy b u).2;omega).trans (e.same b hb id)⟩,⟨F,s,t,sw,rs,ss,M,U,fs,a1.aq fun b hb _=>mm.same b (hs b (.inl hb)) (hn b (.inl hb)),a2.mod mm fun b hb=>hn b (.inr hb),a3,fun b hb=>⟨(a4 b hb).1,fun u=>?_⟩,a5⟩,fun b u=>(hx b u).2⟩
 rcases (hx b u).1 with v|v
 ·exact(a4 b hb).2 v
 ·have:=hs b hb;omega
theorem Gi [Tab] {F:Nat→Prop} {K:(Option Addr×Int)→aa→Prop} (e:Ext H0 A) (hp:al F A p dp (vd (yo (q:Int)) mo)) (ho:∀b,F b→H0.size≤b∧¬X b) (hx:∀b,X b→b<A.size) (hq:q≤1048576) (h8:8≤mo) (hm:mo≤4096) (hW:W≤16) (h3:3≤fr) (hfr:fr≤mo)
  (hK:∀k B,CX H0 B X k p dp n W fr q mo [] 1 1 0→Ext A B→K (aI k,0) B):GA.sp (aI p) n (W:Int) (fr:Int) A K:=by
 obtain⟨r1,r2,_,_⟩:=bR (Nat.zero_le W) hW
 have en:rF (vd (yo (q:Int)) mo) n (W:Int) (fr:Int)=(some (FM n W fr),0):=by
  unfold rF
  rw[if_neg (by rw[r1];omega),if_neg (by rintro(u|u);omega;have:(fr:Int)>(mo:Int):=u;omega)]
 have hpos:0<fr*cg W:=Nat.mul_pos (by omega) (by omega)
 refine Ea hp (fun u=>by rw[en] at u;cases u) fun _ _ B eB sB=>?_
 have z:=e.size
 refine hK _ B ⟨e.trans eB,⟨F,_,FM n W fr,dr,[],dr,yb,0,[],hp.ext eB,sB,fun b hb u=>?_,fun b hb=>?_,?_,by simp[FM],hpos,?_⟩,fun b hb=>by have:=hx b hb;have:=eB.size;omega⟩ eB
 ·rcases u with u|u|⟨x,hx,_⟩|u
  ·have:=hp.lt b hb;omega
  ·exact bE b u
  ·cases hx
  ·exact bE b u
 ·rcases hb with u|u|u|⟨x,hx,_⟩|u
  ·exact ho b u
  ·exact⟨by omega,fun v=>by have:=hx b v;omega⟩
  ·exact absurd u (bE b)
  ·cases hx
  ·exact absurd u (bE b)
 ·exact⟨Ek hq h8 hm,fun a y hy=>(by cases hy),rfl,rfl,rfl,rfl,rfl,rfl,fun a ha=>(by cases ha),List.Pairwise.nil,fun x hx=>(by cases hx),fun a y hy=>(by cases hy),fun y=>by simp[FM],fun y hy=>(by cases hy),rfl,by simp[FM],by simp[FM],by show (0:Int)≤1;decide,by show (1:Int)≤((1:Nat):Int);decide,rfl⟩
 ·exact⟨fun f hf=>(by cases hf),by show (0:Int)≤1;decide,by show (1:Int)≤((1:Nat):Int);decide,Nat.le_refl _⟩
theorem CX.add [Tab] {l:Sl} {ll:List Int} {K:Int→aa→Prop} (h:CX H0 A X k p dp n W fr Q most all m x y) (hg:Gl H0) (b:jf n W fr Q cap (all++[ll])) (hl:Ints .u64 A l ll) (h1:ll.length=W) (h2:fQ ll) (hcap:∀f,f*(fr*cg W)≤all.length→2*f+2≤cap) (hm:m<1000000000000) (hx:x<700000000000) (hy:y<40000000000)
  (hK:∀B,CX H0 B X k p dp n W fr Q most (all++[ll]) (m+(3*(all.length+1)+300)) (x+400010) (y+805000)→(∀b,X b→B[b]?=A[b]?)→A.size≤B.size→K 0 B):F7.sp (aI k) l A K:=by
 obtain⟨e,⟨F,s,t,sw,rs,ss,M,U,fs,a1,a2,a3,a4,a5,a6,a7,a8⟩,lt⟩:=h
 have hgA:Gl A:=hg.mod e id
 have h100:=hcap fs.length (by omega)
 have bw:jf n W fr Q cap all:=by
  have:=b.many
  have:=b.big
  simp only[List.length_append,List.length_cons,List.length_nil] at*
  exact⟨b.width,b.quota,by omega,b.cap,by omega,b.name,b.af⟩
 obtain⟨z1,z2,z3,z4⟩:=a5.KZ bw h100
 have hbig:=bw.big
 have hct:=a5.count
 obtain⟨c1,M',U',fs',c2,c3,c4⟩:=a5.add h1 h2 b a6 a7 h100 hm
 refine GP hgA (fun q=>by have:=(a4 _ (.inr q)).1;have:=hg.lt;omega) a2 a1 a3 z1 (by omega) z2 hl a8 (by omega) (by omega) fun F' sw' rs' ss' B p1 s1 d1 S1=>?_
 rw[c1]
 have z:=e.size
 have bd:=So.IN (l:=ll) (t:=t) a8 (by omega) (by omega) p1.af
 refine hK B ⟨⟨Nat.le_trans z S1.mod.size,fun b hb _=>(S1.mod.same b (by omega) fun q=>by have:=(a4 b q).1;omega).trans (e.same b hb id)⟩,⟨F',_,_,sw',rs',ss',M',U',fs',p1,s1,d1,fun b hb=>?_,c2,c3,c4,bd⟩,fun b hb=>Nat.lt_of_lt_of_le (lt b hb) S1.mod.size⟩ (fun b hb=>S1.mod.same b (lt b hb) fun u=>(a4 b u).2 hb) S1.mod.size
 rcases S1.own b hb with q|q
 ·exact a4 b q
 ·exact⟨by omega,fun u=>by have:=lt b u;omega⟩
set_option maxRecDepth 100000 in
theorem CX.done [Tab] {K:(Int×Int)→aa→Prop} (h:CX H0 A X k p dp n W fr Q most all m x y) (hg:Gl H0) (b:jf n W fr Q cap all) (hcap:∀f,f*(fr*cg W)≤all.length→2*f+2≤cap) (hm:m+200*(3*all.length+300)<1000000000000) (hx:x<10000000000) (hy:y<2000000000)
  (hK:∀F' s' M' B,cO H0 B F' p dp s' M' Q (1+aJ (ay (bp all)).length (cg W)) most 20000000000→jh M' n W (cg W) (ay (bp all))→fR W (ay (bp all))→(∀a,a≠n→M' a=none)→(∀b,X b→¬F' b∧B[b]?=A[b]?)→A.size≤B.size→K (((ay (bp all)).length:Int),0) B):Hn.sp (aI k) A K:=by
 obtain⟨e,⟨F,s,t,sw,rs,ss,M,U,fs,a1,a2,a3,a4,a5,a6,a7,a8⟩,lt⟩:=h
 have hgA:Gl A:=hg.mod e id
 have h100:=hcap fs.length (by omega)
 obtain⟨z1,z2,z3,z4⟩:=a5.KZ b h100
 have hbig:=b.big
 obtain⟨c1,c2,c3,M',c4,c5,c6,c7,c8,c9,c10,c11⟩:=a5.done b h100 hm
 refine Fc (N:=all.length) hgA (fun q=>by have:=(a4 _ (.inr q)).1;have:=hg.lt;omega) a2 a1 a3 z1 z4 z3 a8 (by omega) (by omega) (by omega) (fun _=>a5.qZ b h100 hm) fun F' sw' rs' ss' B p1 r1 d1 S1 b1=>?_
 rw[c1]
 have z:=e.size
 have hmany:=b.many
 have hcp:=b.cap
 obtain⟨hX,hY⟩:=IE hx hy hbig
 have b2:=b1.mono hX hY
 have u1:=b2.hi
 have u2:=b2.aH
 have hol:=dz all
 have hpg:=pR (n:=(ay (bp all)).length) (room:=cg W) (by have:=(bR (Nat.zero_le W) b.width).2.1;omega)
 have own:∀b,F' b→(F b∨fH k sw rs ss b)∨A.size≤b:=fun b hb=>S1.own b (.inl hb)
 refine hK F' _ M' B ⟨⟨Nat.le_trans z S1.mod.size,fun b hb _=>(S1.mod.same b (by omega) fun q=>by have:=(a4 b q).1;omega).trans (e.same b hb id)⟩,p1,fun b hb=>?_,c4,c9,u1,Nat.le_trans u2 (Nat.le_mul_of_pos_left _ (by decide)),by omega,c5,c11⟩ c6 c7 c8 (fun b hb=>⟨fun u=>?_,S1.mod.same b (lt b hb) fun u=>(a4 b u).2 hb⟩) S1.mod.size
 ·rcases own b hb with q|q
  ·exact(a4 b q).1
  ·omega
 ·rcases own b u with q|q
  ·exact(a4 b q).2 hb
  ·have:=lt b hb;omega
end
end Go.Proofs.YtacfhncgbgijhaaGreat
namespace Go.Proofs.YtacfhncgbgijhaaGreat
theorem AI (a:List Int) (l:List (List Int)):ay (a::a::l)=ay (a::l):=by
 simp[ay,dd]
theorem xz {a b:List Int} (h:b≠a) (l:List (List Int)):ay (a::b::l)=a::ay (b::l):=by
 simp[ay,dd,h]
section
variable {key:List Int→List Int}
theorem pY {κ:List Int} {r:List Int} {rs:List (List Int)} (h:key r=κ):(r::rs).filter (fun x=>decide (key x=κ))=r::rs.filter (fun x=>decide (key x=κ)):=by
 rw[List.filter_cons,if_pos (by simpa using h)]
theorem mZ {κ:List Int} {r:List Int} {rs:List (List Int)} (h:key r≠κ):(r::rs).filter (fun x=>decide (key x=κ))=rs.filter (fun x=>decide (key x=κ)):=by
 rw[List.filter_cons,if_neg (by simpa using h)]
theorem lT {α β:Type} {f g:α→List β}:∀{l:List α},(∀x∈l,f x=g x)→l.flatMap f=l.flatMap g
 |[],_=>rfl
 |a::l,h=>by
   rw[List.flatMap_cons,List.flatMap_cons,h a List.mem_cons_self,lT fun x hx=>h x (List.mem_cons_of_mem _ hx)]
theorem BK (a:List Int) (l:List (List Int)):ay (a::l)=a::dd a l:=rfl
theorem blocks:∀{L:List (List Int)},(L.map key).Pairwise (fun x y=>aF x y≤0)→(ay (L.map key)).flatMap (fun κ=>L.filter fun r=>decide (key r=κ))=L
 |[],_=>rfl
 |[r],_=>by simp[ay,dd]
 |r::r2::rs,h=>by
   have h2:((r2::rs).map key).Pairwise (fun x y=>aF x y≤0):=(List.pairwise_cons.1 h).2
   have ih:=blocks h2
   have up:(ay ((r::r2::rs).map key)).Pairwise (fun x y=>aF x y<0):=dW h
   by_cases e:key r2=key r
   ·have eo:ay ((r::r2::rs).map key)=ay ((r2::rs).map key):=by
     simp only[List.map_cons];rw[e];exact AI _ _
    rw[eo] at up ⊢
    simp only[List.map_cons,BK] at up ih ⊢
    rw[List.flatMap_cons] at ih ⊢
    rw[pY e.symm]
    have ht:∀κ∈dd (key r2) (rs.map key),(r::r2::rs).filter (fun x=>decide (key x=κ))=(r2::rs).filter (fun x=>decide (key x=κ)):=fun κ hκ=>mZ fun q=>by
     have:=(List.pairwise_cons.1 up).1 κ hκ
     rw[←q,←e,cE] at this
     omega
    rw[lT ht,List.cons_append,ih]
   ·have eo:ay ((r::r2::rs).map key)=key r::ay ((r2::rs).map key):=xz e _
    rw[eo] at up ⊢
    rw[List.flatMap_cons,pY rfl]
    have hp:=(List.pairwise_cons.1 up).1
    have ht:∀κ∈ay ((r2::rs).map key),(r::r2::rs).filter (fun x=>decide (key x=κ))=(r2::rs).filter (fun x=>decide (key x=κ)):=fun κ hκ=>mZ fun q=>by
     have:=hp κ hκ
     rw[←q,cE] at this
     omega
    have h0:(r2::rs).filter (fun x=>decide (key x=key r))=[]:=by
     rw[List.filter_eq_nil_iff]
     intro x hx q
     have q':key x=key r:=by simpa using q
     have:=hp (key r) (iB.2 (by rw[←q'];exact List.mem_map.2 ⟨x,hx,rfl⟩))
     rw[cE] at this
     omega
    rw[lT ht,ih,h0]
    rfl
def ja (x:Int):Int:=IntKind.u64.wrap x
def yv (x:Int):Int:=IntKind.i64.wrap x
abbrev Way:=Int×Int→Int→Int×Int
def Ck:Way:=fun t _=>(t.1+1,t.1+1)
def CI:Way:=fun t w=>(t.1+1,yv (t.2+w))
def gM:Way:=fun t w=>(t.1+1,if t.1=0∨w<t.2 then w else t.2)
def gU:Way:=fun t w=>(t.1+1,if t.1=0∨w>t.2 then w else t.2)
def comes (f:Way) (w:List Int→Int) (l:List (List Int)):Int×Int:=l.foldl (fun t r=>f t (w r)) (0,0)
def tt (f:Way) (w:List Int→Int) (key:List Int→List Int) (first:List Int) (t:Int×Int):List (List Int)→List (List Int)
 |[]=>[key first++[ja t.2]]
 |r::rs=>if key r=key first then tt f w key first (f t (w r)) rs else (key first++[ja t.2])::tt f w key r (f (0,0) (w r)) rs
def jM (f:Way) (w:List Int→Int) (key:List Int→List Int):List (List Int)→List (List Int)
 |[]=>[]
 |r::rs=>tt f w key r (f (0,0) (w r)) rs
variable {f:Way} {w:List Int→Int}
theorem iU (l:List (List Int)) (r:List Int):comes f w (l++[r])=f (comes f w l) (w r):=by
 unfold comes;rw[List.foldl_append];rfl
theorem mv:∀{rs:List (List Int)} {first:List Int} {P:List (List Int)},(∀p∈P,key p=key first)→((first::rs).map key).Pairwise (fun x y=>aF x y≤0)→
  tt f w key first (comes f w P) rs=(ay ((first::rs).map key)).map fun κ=>κ++[ja (comes f w ((P++rs).filter fun r=>decide (key r=κ))).2]
 |[],first,P,hP,_=>by
   have:P.filter (fun r=>decide (key r=key first))=P:=List.filter_eq_self.2 fun p hp=>by simpa using hP p hp
   simp[tt,ay,dd,this]
 |r::rs,first,P,hP,h=>by
   have h2:((r::rs).map key).Pairwise (fun x y=>aF x y≤0):=(List.pairwise_cons.1 h).2
   unfold tt
   by_cases e:key r=key first
   ·rw[if_pos e,←iU (f:=f) (w:=w) P r]
    have h3:((first::rs).map key).Pairwise (fun x y=>aF x y≤0):=by
     rw[List.map_cons] at h2 ⊢;rw[←e];exact h2
    rw[mv (P:=P++[r]) (fun p hp=>by rcases List.mem_append.1 hp with q|q;exact hP p q;rw[List.mem_singleton.1 q];exact e) h3]
    have eo:ay ((first::r::rs).map key)=ay ((first::rs).map key):=by
     simp only[List.map_cons];rw[e];exact AI _ _
    rw[eo]
    simp only[List.append_assoc,List.singleton_append]
   ·rw[if_neg e]
    have eo:ay ((first::r::rs).map key)=key first::ay ((r::rs).map key):=xz e _
    have up:=dW h
    rw[eo] at up ⊢
    have hp:=(List.pairwise_cons.1 up).1
    have e1:f (0,0) (w r)=comes f w [r]:=rfl
    rw[e1,mv (P:=[r]) (fun p hp=>by rw[List.mem_singleton.1 hp]) h2,List.map_cons]
    have g0:(r::rs).filter (fun x=>decide (key x=key first))=[]:=by
     rw[List.filter_eq_nil_iff]
     intro x hx q
     have q':key x=key first:=by simpa using q
     have:=hp (key first) (iB.2 (by rw[←q'];exact List.mem_map.2 ⟨x,hx,rfl⟩))
     rw[cE] at this
     omega
    have g1:P.filter (fun x=>decide (key x=key first))=P:=List.filter_eq_self.2 fun p hp=>by simpa using hP p hp
    congr 1
    ·show _=key first++[ja (comes f w ((P++r::rs).filter fun x=>decide (key x=key first))).2]
     rw[List.filter_append,g0,g1,List.append_nil]
    ·refine List.map_congr_left fun κ hκ=>?_
     have g2:P.filter (fun x=>decide (key x=κ))=[]:=by
      rw[List.filter_eq_nil_iff]
      intro x hx q
      have q':key x=κ:=by simpa using q
      have:=hp κ hκ
      rw[←q',hP x hx,cE] at this
      omega
     have g3:(P++r::rs).filter (fun x=>decide (key x=κ))=([r]++rs).filter (fun x=>decide (key x=κ)):=by
      rw[List.filter_append,g2];rfl
     rw[g3]
theorem jn {D:List (List Int)} (h:(D.map key).Pairwise (fun x y=>aF x y≤0)):jM f w key D=(ay (D.map key)).map fun κ=>κ++[ja (comes f w (D.filter fun r=>decide (key r=κ))).2]:=by
 cases D with
 |nil=>rfl
 |cons r rs=>exact mv (P:=[r]) (fun p hp=>by rw[List.mem_singleton.1 hp]) h
end
theorem Cc (x:Int):-9223372036854775808≤yv x∧yv x≤9223372036854775807:=by
 unfold yv;rw[IntKind.wrap_i64];omega
theorem j4 (x:Int):ja x=x%18446744073709551616:=by
 unfold ja;rw[IntKind.wrap_u64]
theorem GF {x:Int} (h:-9223372036854775808≤x∧x≤9223372036854775807):yv (ja x)=x:=by
 rw[j4];unfold yv;rw[IntKind.wrap_i64];omega
theorem Hu (x:Int):ja (yv x)=ja x:=by
 rw[j4,j4];unfold yv;rw[IntKind.wrap_i64];omega
theorem Ai (a b:Int):ja (ja a+b)=ja (a+b):=by
 simp only[j4];omega
section
variable {w:List Int→Int}
def kH (w:List Int→Int) (l:List (List Int)):Int:=(l.map w).sum
theorem pL (a b:List (List Int)):kH w (a++b)=kH w a+kH w b:=by
 unfold kH;rw[List.map_append,List.sum_append]
theorem iJ {P:List (List Int)→Prop} (h0:P []) (hs:∀l r,P l→P (l++[r])):∀l,P l:=fun l=>by
 have:∀n (l:List (List Int)),l.length=n→P l:=fun n=>by
  induction n with
  |zero=>intro l h;rw[List.length_eq_zero_iff.1 h];exact h0
  |succ n ih=>
    intro l h
    have hne:l≠[]:=fun q=>by rw[q] at h;cases h
    rw[←List.dropLast_concat_getLast hne]
    exact hs _ _ (ih _ (by rw[List.length_dropLast];omega))
 exact this _ l rfl
theorem BB:∀l,comes Ck w l=((l.length:Int),(l.length:Int)):=iJ rfl fun l r h=>by
 rw[iU,h];unfold Ck;simp
theorem B8:∀l,ja (comes CI w l).2=ja (kH w l):=iJ (by rfl) fun l r h=>by
 rw[iU,pL]
 have e:kH w [r]=w r:=by simp[kH]
 show ja (yv ((comes CI w l).2+w r))=_
 rw[Hu,e,←Ai,h,Ai]
theorem Cg:∀l:List (List Int),(comes gM w l).1=(l.length:Int)∧(l≠[]→(∀r∈l,(comes gM w l).2≤w r)∧∃r∈l,(comes gM w l).2=w r):=iJ ⟨rfl,fun h=>absurd rfl h⟩ fun l r ⟨h1,h2⟩=>by
 rw[iU]
 refine⟨by show (comes gM w l).1+1=_;rw[h1];simp,fun _=>?_⟩
 show (∀x∈l++[r],(if (comes gM w l).1=0∨w r<(comes gM w l).2 then w r else (comes gM w l).2)≤w x)∧_
 by_cases hc:(comes gM w l).1=0∨w r<(comes gM w l).2
 ·have e:(gM (comes gM w l) (w r)).2=w r:=if_pos hc
  rw[if_pos hc,e]
  refine⟨fun x hx=>?_,r,by simp,rfl⟩
  rcases List.mem_append.1 hx with q|q
  ·have hne:l≠[]:=fun u=>by rw[u] at q;cases q
   have:=(h2 hne).1 x q
   have:0<l.length:=List.length_pos_iff.2 hne
   rcases hc with u|u<;>omega
  ·rw[List.mem_singleton.1 q];exact Int.le_refl _
 ·have e:(gM (comes gM w l) (w r)).2=(comes gM w l).2:=if_neg hc
  rw[if_neg hc,e]
  rw[not_or] at hc
  have hne:l≠[]:=fun u=>hc.1 (by rw[h1,u];rfl)
  obtain⟨g1,y,g2,g3⟩:=h2 hne
  refine⟨fun x hx=>?_,y,List.mem_append.2 (.inl g2),g3⟩
  rcases List.mem_append.1 hx with q|q
  ·exact g1 x q
  ·rw[List.mem_singleton.1 q];omega
theorem Bj:∀l:List (List Int),(comes gU w l).1=(l.length:Int)∧(l≠[]→(∀r∈l,w r≤(comes gU w l).2)∧∃r∈l,(comes gU w l).2=w r):=iJ ⟨rfl,fun h=>absurd rfl h⟩ fun l r ⟨h1,h2⟩=>by
 rw[iU]
 refine⟨by show (comes gU w l).1+1=_;rw[h1];simp,fun _=>?_⟩
 show (∀x∈l++[r],w x≤(if (comes gU w l).1=0∨w r>(comes gU w l).2 then w r else (comes gU w l).2))∧_
 by_cases hc:(comes gU w l).1=0∨w r>(comes gU w l).2
 ·have e:(gU (comes gU w l) (w r)).2=w r:=if_pos hc
  rw[if_pos hc,e]
  refine⟨fun x hx=>?_,r,by simp,rfl⟩
  rcases List.mem_append.1 hx with q|q
  ·have hne:l≠[]:=fun u=>by rw[u] at q;cases q
   have:=(h2 hne).1 x q
   have:0<l.length:=List.length_pos_iff.2 hne
   rcases hc with u|u<;>omega
  ·rw[List.mem_singleton.1 q];exact Int.le_refl _
 ·have e:(gU (comes gU w l) (w r)).2=(comes gU w l).2:=if_neg hc
  rw[if_neg hc,e]
  rw[not_or] at hc
  have hne:l≠[]:=fun u=>hc.1 (by rw[h1,u];rfl)
  obtain⟨g1,y,g2,g3⟩:=h2 hne
  refine⟨fun x hx=>?_,y,List.mem_append.2 (.inl g2),g3⟩
  rcases List.mem_append.1 hx with q|q
  ·exact g1 x q
  ·rw[List.mem_singleton.1 q];omega
end
section
variable {D:List (List Int)}
theorem FU [Tab] {a b:List Int} (k:Nat) (h:aF a b<0) (hl:a.length=b.length):aF (a.take k) (b.take k)≤0:=by
 induction a generalizing b k with
 |nil=>
   cases b with
   |nil=>simp at h ⊢;rw[cE] at h;omega
   |cons y b=>simp at hl
 |cons x a ih=>
   cases b with
   |nil=>simp at hl
   |cons y b=>
     cases k with
     |zero=>simp[cE]
     |succ k=>
       simp only[List.take_succ_cons]
       unfold aF at h ⊢
       split
       ·omega
       ·rename_i h1
        rw[if_neg h1] at h
        split
        ·rename_i h2
         rw[if_pos h2] at h;omega
        ·rename_i h2
         rw[if_neg h2] at h
         exact ih k h (by simpa using hl)
end
def KL (n:Nat) (D:List (List Int)):List (List Int):=ay (D.map (List.take n))
section
variable {D:List (List Int)} {n:Nat}
theorem map_le [Tab] (hD:D.Pairwise (fun x y=>aF x y<0)) {W:Nat} (h3:∀r∈D,r.length=W):(D.map (List.take n)).Pairwise (fun x y=>aF x y≤0):=by
 rw[List.pairwise_map]
 exact hD.imp_of_mem fun {a b} ha hb h=>FU n h (by rw[h3 a ha,h3 b hb])
theorem rV [Tab] (hD:D.Pairwise (fun x y=>aF x y<0)) {W:Nat} (h3:∀r∈D,r.length=W):(KL n D).Pairwise (fun x y=>aF x y<0):=dW (map_le hD h3)
theorem lM [Tab] {κ:List Int}:κ∈KL n D↔∃r∈D,r.take n=κ:=by
 unfold KL;rw[iB,List.mem_map]
theorem rj [Tab] (r:List Int):(r.take 2).take 1=r.take 1:=by rw[List.take_take];rfl
theorem tg [Tab] (h3:∀r∈D,r.length=3) (hn:n≤3):∀κ∈KL n D,κ.length=n:=fun κ hκ=>by
 obtain⟨r,hr,e⟩:=lM.1 hκ
 rw[←e,List.length_take,h3 r hr];omega
theorem Lb [Tab] (hD:D.Pairwise (fun x y=>aF x y<0)) (h3:∀r∈D,r.length=3):ay ((KL 2 D).map (List.take 1))=KL 1 D:=by
 have u2:=rV (n:=2) hD h3
 refine qW (dW (map_le u2 (tg h3 (by omega)))) (rV hD h3) fun y=>?_
 rw[iB,List.mem_map,lM]
 constructor
 ·rintro⟨κ,hκ,e⟩
  obtain⟨r,hr,e2⟩:=lM.1 hκ
  exact⟨r,hr,by rw[←e,←e2,rj]⟩
 ·rintro⟨r,hr,e⟩
  exact⟨r.take 2,lM.2 ⟨r,hr,rfl⟩,by rw[rj,e]⟩
def BL (D:List (List Int)) (κ:List Int):List (List Int):=(KL 2 D).filter fun x=>decide (x.take 1=κ)
def GL (n:Nat) (D:List (List Int)) (κ:List Int):List (List Int):=D.filter fun x=>decide (x.take n=κ)
theorem xr [Tab] (hD:D.Pairwise (fun x y=>aF x y<0)) {W:Nat} (h3:∀r∈D,r.length=W):(KL n D).flatMap (GL n D)=D:=blocks (key:=List.take n) (map_le hD h3)
theorem lV [Tab] {κ r:List Int}:r∈GL n D κ↔r∈D∧r.take n=κ:=by
 unfold GL;rw[List.mem_filter];simp
theorem HJ [Tab] {κ:List Int} (h:κ∈KL n D):GL n D κ≠[]:=fun q=>by
 obtain⟨r,hr,e⟩:=lM.1 h
 have:r∈GL n D κ:=lV.2 ⟨hr,e⟩
 rw[q] at this;cases this
theorem tf [Tab] {κ x:List Int}:x∈BL D κ↔x∈KL 2 D∧x.take 1=κ:=by
 unfold BL;rw[List.mem_filter];simp
theorem ID [Tab] (hD:D.Pairwise (fun x y=>aF x y<0)) (h3:∀r∈D,r.length=3) (κ:List Int):KL 2 (GL 1 D κ)=BL D κ:=by
 have hG:(GL 1 D κ).Pairwise (fun x y=>aF x y<0):=hD.sublist List.filter_sublist
 refine qW (rV hG fun r hr=>h3 r (lV.1 hr).1) ((rV hD h3).sublist List.filter_sublist) fun y=>?_
 rw[lM,tf,lM]
 constructor
 ·rintro⟨r,hr,e⟩
  obtain⟨g1,g2⟩:=lV.1 hr
  exact⟨⟨r,g1,e⟩,by rw[←e,rj,g2]⟩
 ·rintro⟨⟨r,g1,e⟩,g2⟩
  exact⟨r,lV.2 ⟨g1,by rw[←rj,e,g2]⟩,e⟩
theorem ub {w:List Int→Int} {α:Type} (f:α→List (List Int)):∀l:List α,kH w (l.flatMap f)=(l.map fun x=>kH w (f x)).sum
 |[]=>rfl
 |a::l=>by rw[List.flatMap_cons,pL,ub f l,List.map_cons,List.sum_cons]
theorem Kh [Tab] {w:List Int→Int} (hD:D.Pairwise (fun x y=>aF x y<0)) (h3:∀r∈D,r.length=3) (κ:List Int):((BL D κ).map fun x=>kH w (GL 2 D x)).sum=kH w (GL 1 D κ):=by
 have hG:(GL 1 D κ).Pairwise (fun x y=>aF x y<0):=hD.sublist List.filter_sublist
 have h:=xr (n:=2) hG (fun r hr=>h3 r (lV.1 hr).1)
 rw[ID hD h3] at h
 conv=>rhs;rw[←h,ub]
 congr 1
 refine List.map_congr_left fun x hx=>?_
 congr 1
 unfold GL
 rw[List.filter_filter]
 refine List.filter_congr fun r _=>?_
 have hx1:=(tf.1 hx).2
 by_cases q:r.take 2=x
 ·have:r.take 1=κ:=by rw[←rj,q,hx1]
  simp[q,this]
 ·simp[q]
theorem BH [Tab] (hD:D.Pairwise (fun x y=>aF x y<0)) (h3:∀r∈D,r.length=3):((KL 1 D).map fun κ=>(GL 1 D κ).length).sum=D.length:=by
 have h:=xr (n:=1) hD h3
 conv=>rhs;rw[←h,List.length_flatMap]
end
open Go.MapKept
theorem au.Lc {H:aa} {base base':Nat} {e:TypeId} {size:Nat} {s:Sl} {xs:List Value} (h:au H base e size s xs) (hb:∀b,ai s b→base'≤b):au H base' e size s xs:=by
 refine⟨h.1,h.2.imp id ?_⟩
 rintro⟨g,cap,cur,e1,_,h3⟩
 refine⟨g,cap,cur,e1,hb g ?_,h3⟩
 cases s;simp only[Sl.v,Value.slice.injEq] at e1
 exact⟨_,e1.1,rfl⟩
def lv (w:Int) (f:Value) (wrong:Int) (feed:Value) (closed ended:Bool):Array Value:=#[.int .i64 w,f,.slice none 0 0,.int .i64 wrong,feed,.bool closed,.bool ended]
theorem Ao {w e:Int} {fn:Fn} {fi ca:Array Value} {H:aa} {K:Option Addr→aa→Prop} (hK:∀A,ag A H.size qB (lv w (.func fn fi ca) e .nilIface false false)→Ext H A→A.size=H.size+1→K (some ⟨H.size,0,none⟩) A):CM.sp w (Sl.mk none 0 0) e fn fi ca H K:=by
 refine CM.of ?_
 unfold CM.vc
 refine aB 0 (fun _ z A=>z.1=e∧z.2=0∧H=A) ⟨rfl,rfl,rfl⟩ ?_
 rintro i ⟨_,_⟩ _ next hi ⟨rfl,rfl,rfl⟩ _
 refine aA rfl ?_
 exact ak fun A z r m=>hK A r m z
theorem mQ {sb:Nat} {w:Int} {f feed:Value} {wrong:Int} {c d:Bool} {H:aa} {K:Int→aa→Prop} (r:ag H sb qB (lv w f wrong feed c d)) (hK:K w H):DH.sp (some ⟨sb,0,none⟩) H K:=by
 refine DH.of ?_
 unfold DH.vc
 refine aA rfl ?_
 simp only[av]
 exact ag.ld (c:=ab .i64) (i:=0) (x:=w) r rfl hK
def tR (w:Int) (f:Value) (un:Sl) (wrong:Int) (feed:Value) (closed ended:Bool):Array Value:=#[.int .i64 w,f,un.v,.int .i64 wrong,feed,.bool closed,.bool ended]
set_option maxHeartbeats 1000000 in
theorem px {sb:Nat} {w:Int} {f feed:Value} {un:Sl} {H:aa} {K:(Sl×Bool×Int)→aa→Prop} (r:ag H sb qB (tR w f un 0 feed false false))
  (hc:jG (aT [an,aw,(ab .i64)]) Tryz.prog f [] H fun q A=>ag A sb qB (tR w f un 0 feed false false)∧
   ((q.2.2≠0∨q.2.1=false)→∀B,ag B sb qB (tR w f un q.2.2 feed false true)→Mod (fun b=>b=sb) A B→B.size=A.size→K (Sl.mk none 0 0,false,q.2.2) B)∧
   (q.2.2=0→q.2.1=true→K (q.1,true,0) A)):yn.sp (some ⟨sb,0,none⟩) H K:=by
 refine yn.of ?_
 unfold yn.vc
 refine⟨fun _ A=>H=A,?_,?_⟩
 ·refine aA rfl ?_
  simp only[av]
  refine ag.ld (c:=aw) (i:=5) (x:=false) r rfl ?_
  refine aA rfl ?_
  refine⟨fun b A=>b=false∧H=A,?_,?_⟩
  ·refine ag.ld (c:=ab .i64) (i:=3) (x:=0) r rfl ?_
   refine aA rfl ?_
   refine ag.ld (c:=aw) (i:=6) (x:=false) r rfl ?_
   exact⟨rfl,rfl⟩
  ·rintro _ _ ⟨rfl,rfl⟩
   exact aA rfl rfl
 ·rintro _ _ rfl
  simp only[av]
  refine ag.ld (c:=eO) (i:=1) (x:=f) r rfl ?_
  have mono:∀{K1 K2:(aT [an,aw,(ab .i64)]).α→aa→Prop},(∀q A,K1 q A→K2 q A)→jG (aT [an,aw,(ab .i64)]) Tryz.prog f [] H K1→jG (aT [an,aw,(ab .i64)]) Tryz.prog f [] H K2:=by
   intro K1 K2 hk h
   unfold jG at h ⊢
   split at h
   ·rename_i g first cap
    cases hcl:bQ Tryz.prog g with
    |true=>
      rw[hcl] at h
      simp only[cond_true] at h ⊢
      exact fun w hw=>(h w hw).mono fun e w' ⟨v,he,⟨x,hx,hk1⟩,ha⟩=>⟨v,he,⟨x,hx,hk _ _ hk1⟩,ha⟩
    |false=>
      rw[hcl] at h
      simp only[cond_false] at h ⊢
      exact fun w hw=>by obtain⟨v,w',h1,⟨x,hx,hk1⟩,ha⟩:=h w hw;exact⟨v,w',h1,⟨x,hx,hk _ _ hk1⟩,ha⟩
   ·exact h
   ·unfold od at h ⊢
    split at h
    ·split at h
     ·rename_i g hm
      cases hcl:bQ Tryz.prog g with
      |true=>
        rw[hcl] at h
        simp only[cond_true] at h ⊢
        exact fun w hw=>(h w hw).mono fun e w' ⟨v,he,⟨x,hx,hk1⟩,ha⟩=>⟨v,he,⟨x,hx,hk _ _ hk1⟩,ha⟩
      |false=>rw[hcl] at h;exact h.elim
     ·exact h
    ·exact h
   ·exact h
  refine mono ?_ hc
  rintro⟨q1,q2,q3⟩ A ⟨rA,k1,k2⟩
  simp only at k1 k2 ⊢
  refine aj (fun hb=>?_) (fun hb=>?_)
  ·have hb:q3≠0∨q2=false:=by simpa using hb
   refine ag.st rA (i:=3) (by simp[tR]) rfl fun B rB mB zB=>?_
   refine ag.st rB (i:=6) (by simp[tR]) rfl fun C rC mC zC=>?_
   exact k1 hb C rC (mB.trans mC) (by omega)
  ·have hb:q3=0∧q2=true:=by
    have:¬(q3≠0∨q2=false):=by simpa using hb
    exact⟨Decidable.of_not_not fun u=>this (.inl u),by cases q2 with|true=>rfl|false=>exact absurd (.inr rfl) this⟩
   exact k2 hb.1 hb.2
theorem DD {sb:Nat} {w:Int} {f feed:Value} {H:aa} {K:(Sl×Bool×Int)→aa→Prop} (r:ag H sb qB (lv w f 0 feed false false))
  (hc:jG (aT [an,aw,(ab .i64)]) Tryz.prog f [] H fun q A=>ag A sb qB (lv w f 0 feed false false)∧
   ((q.2.2≠0∨q.2.1=false)→∀B,ag B sb qB (lv w f q.2.2 feed false true)→Mod (fun b=>b=sb) A B→B.size=A.size→K (Sl.mk none 0 0,false,q.2.2) B)∧
   (q.2.2=0→q.2.1=true→K (q.1,true,0) A)):yn.sp (some ⟨sb,0,none⟩) H K:=px (un:=Sl.mk none 0 0) r hc
def nE (lb wb:Nat):Value:=.func (.func E0.no) #[] #[.pointer (some ⟨lb,0,none⟩),.pointer (some ⟨wb,0,none⟩)]
theorem Gd:zc Tryz.prog fG=#[.slice none 0 0]:=by kernel_rfl
set_option maxHeartbeats 1000000 in
theorem Hg {rows:Sl} {ls:List (List Int)} {w:Int} {H:aa} {K:Option Addr→aa→Prop} (h:Rows H rows ls) (hn:ls.length≤1000) (hl:∀l∈ls,l.length≤1000)
  (hK:∀sb lb wb s rs A,ag A sb qB (lv w (nE lb wb) (if w<0 then 2 else 0) .nilIface false false)→ag A lb fG #[s.v]→ag A wb ig #[.int .i64 w]→ax A (H.size+2) s rs ls→(∀b,(ai s b∨∃r∈rs,ai r b)→b<sb)→Ext H A→
   wb=H.size→lb=H.size+1→H.size+2≤sb→sb<A.size→K (some ⟨sb,0,none⟩) A):FF.sp rows w H K:=by
 refine FF.of ?_
 unfold FF.vc
 refine ak fun H1 z1 r1 e1=>?_
 refine ak fun H2 z2 r2 e2=>?_
 rw[Gd] at r2
 have hrn:=h.len
 have e12:=e1.trans e2
 refine aB ls.length (fun i z A=>z=(i:Int)∧∃s rs,ag A H1.size fG #[s.v]∧ax A H2.size s rs (ls.take i)∧Mod (fun b=>b=H1.size) H2 A) ⟨rfl,Sl.mk none 0 0,[],r2,ax.nil _ _,.refl _ _⟩ ?_
 rintro i _ A next hi ⟨rfl,s,rs,rA,oA,mA⟩ hnext
 have zA:=mA.size
 have rw1:ag A H.size ig #[.int .i64 w]:=(r1.ext e2).mod mA fun u=>by omega
 have eHA:Ext H A:=⟨by omega,fun b hb _=>by rw[mA.same b (by omega) fun u=>by omega];exact e12.same b hb id⟩
 refine aj (fun hc=>?_) (fun hc=>?_)
 ·have hlt : i < ls.length := by have : (i : Int) < (rows.n : Int) := by simpa using hc
                                 omega
  have hA:Rows A rows ls:=⟨h.len,fun j hj=>by
   obtain⟨ad,r,q1,q2,q3⟩:=h.at' j hj
   exact⟨ad,r,q1,eHA.cell q2 id,q3.ext eHA⟩⟩
  refine hA.ld hlt fun ad x _ ix=>?_
  refine⟨fun B=>Ext A B,.refl _ _,?_⟩
  refine⟨s,fun B hB=>by
   have:=(rA.ext hB).cell (i:=0) (v:=s.v) rfl
   exact this,?_⟩
  refine BO ix (by have:=hl _ (List.getElem_mem hlt);omega) fun r B oB eB fB=>?_
  refine⟨eB,?_⟩
  have zB:=eB.size
  have oAB:=oA.ext eB
  have bA:=oA.block
  -- the cell, then the append
  refine⟨(Mod.push (fun _=>False) B (.cells #[r.v] gw)) |> fun e=>eB.trans e,?_⟩
  have key:=oAB.push (ty:=fG) (r:=r) (l:=ls[i]) (oB.Lc (base':=H2.size) fun b hb=>by have:=fB b hb;omega) (fun r' hr' b hb hb'=>by have:=fB b hb;have:=(bA.2 r' hr' b hb').2;omega) (by rw[oA.n,List.length_take];omega) (by omega)
   (K:=fun s' C=>Go.Proofs.YtacfhncgbgijhaaGreat.st C ⟨H1.size,0,none⟩ s'.v fun D=>next (IntKind.i64.wrap ((i:Int)+(1:Int))) D)
  refine key fun s' C n' oC mC=>?_
  have rC:ag C H1.size fG #[s.v]:=(rA.ext eB).mod mC fun u=>by have:=(bA.1 _ u).1;omega
  refine ag.st (i:=0) rC (by simp) rfl fun D rD mD zD=>?_
  refine hnext hlt _ _ ⟨aP i (by omega),s',rs++[r],rD,?_,?_⟩
  ·have htk:ls.take i++[ls[i]]=ls.take (i+1):=by rw[List.take_add_one,List.getElem?_eq_getElem hlt];rfl
   rw[htk] at oC
   have bC:=oC.block
   exact oC.mod mD (fun b hb u=>by have:=(bC.1 b hb).1;omega) fun r' hr' b hb u=>by have:=(bC.2 r' hr' b hb).1;omega
  ·have zC:=mC.size
   refine⟨by omega,fun b hb _=>?_⟩
   rename_i hne
   rw[mD.same b (by omega) hne,mC.same b (by omega) fun u=>by have:=(bA.1 b u).1;omega,eB.same b (by omega) id]
   exact mA.same b hb hne
 ·have hge : i = ls.length := by have : ¬ (i : Int) < (rows.n : Int) := by simpa using hc
                                 omega
  subst hge
  rw[List.take_length] at oA
  have bA:=oA.block
  have fin:∀e:Int,(e=if w<0 then 2 else 0)→CM.sp w (Sl.mk none 0 0) e (.func E0.no) #[] #[(.pointer (some ⟨H1.size,0,none⟩)),(.pointer (some ⟨H.size,0,none⟩))] A K:=by
   intro e he
   subst he
   refine Ao fun B rB eB zB=>?_
   have e2':H2.size=H.size+2:=by omega
   have e1':H1.size=H.size+1:=by omega
   have oB:=oA.ext eB
   rw[e2'] at oB
   rw[e1'] at rA
   rw[e1'] at rB
   refine hK A.size (H.size+1) H.size s rs B rB (rA.ext eB) (rw1.ext eB) oB (fun b hb=>?_) (eHA.trans eB) rfl rfl (by omega) (by omega)
   rcases hb with v|⟨r,hr,v⟩
   ·exact(bA.1 b v).2
   ·exact(bA.2 r hr b v).2
  have ldw:∀{M:Int→Prop},M w→Go.Proofs.YtacfhncgbgijhaaGreat.ld (ab .i64) A ⟨H.size,0,none⟩ M:=fun {M} hM=>⟨w,rw1.cell (i:=0) rfl,hM⟩
  refine ldw ?_
  refine aj (fun hc2=>?_) (fun hc2=>?_)
  ·have hw:w<0:=by simpa using hc2
   exact ldw (fin 2 (by rw[if_pos hw]))
  ·have hw:¬w<0:=by simpa using hc2
   exact ldw (fin 0 (by rw[if_neg hw]))
structure jC (X:Nat→Prop) (H:aa) (sb lb wb:Nat) (W:Nat) (ended:Bool) (s:Sl) (ls:List (List Int)):Prop where
 row:ag H sb qB (lv W (nE lb wb) 0 .nilIface false ended)
 cell:ag H lb fG #[s.v]
 wid:ag H wb ig #[.int .i64 W]
 rows:qK X H s ls
 cap:s.n≤s.c
 cols:∀l∈ls,l.length=W
 xs:X sb∧X lb∧¬X wb
 ne:sb≠lb
section
variable {X Y:Nat→Prop} {H B:aa} {sb lb wb W:Nat} {ended:Bool} {s:Sl} {ls:List (List Int)}
theorem jC.aq (h:jC X H sb lb wb W ended s ls) (m:Mod Y H B) (hy:∀b,Y b→X b) (h1:¬Y sb) (h2:¬Y lb):jC X B sb lb wb W ended s ls:=
 ⟨h.row.mod m h1,h.cell.mod m h2,h.wid.mod m fun u=>h.xs.2.2 (hy _ u),h.rows.mod (m.mono fun _ _ u=>hy _ u),h.cap,h.cols,h.xs,h.ne⟩
set_option maxRecDepth 100000 in
set_option maxHeartbeats 1000000 in
theorem Bq {K:(Sl×Bool×Int)→aa→Prop} (h:jC X H sb lb wb W false s ls)
  (hK1:∀l r x A s',ls=l::r→jC X A sb lb wb W false s' r→Mod (fun b=>b=lb) H A→Ints .u64 A x l→(∀a,x.a=some a→a.block<A.size∧¬X a.block)→K (x,true,0) A)
  (hK0:ls=[]→∀A,jC X A sb lb wb W true s []→Mod (fun b=>b=sb) H A→K (Sl.mk none 0 0,false,0) A):yn.sp (some ⟨sb,0,none⟩) H K:=by
 have hn:=h.rows.len
 refine DD h.row (kJ #[.pointer (some ⟨lb,0,none⟩),.pointer (some ⟨wb,0,none⟩)] rfl (by kernel_rfl) ?_)
 refine E0.of ?_
 unfold E0.vc
 have JI:∀{A:aa} {s:Sl} {M:Sl→Prop},ag A lb fG #[s.v]→M s→Go.Proofs.YtacfhncgbgijhaaGreat.ld an A ⟨lb,0,none⟩ M:=fun {A s M} r hM=>⟨s,r.cell (i:=0) rfl,hM⟩
 refine JI h.cell ?_
 cases hls:ls with
 |nil=>
   subst hls
   have h0:s.n=0:=hn
   refine aZ (by rw[h0];rfl) ⟨h.row,fun _ B rB mB zB=>?_,fun _ u=>by cases u⟩
   exact hK0 rfl B ⟨rB,h.cell.mod mB (Ne.symm h.ne),h.wid.mod mB (fun u=>h.xs.2.2 (u▸h.xs.1)),h.rows.mod (mB.mono fun b _ u=>by subst u;exact h.xs.1),h.cap,h.cols,h.xs,h.ne⟩ mB
 |cons l r=>
   subst hls
   have h0:s.n=r.length+1:=hn
   refine aA (by rw[h0];simp;omega) ?_
   refine JI h.cell ?_
   obtain⟨ad,x,q1,q2,q3,q4⟩:=h.rows.at' 0 (by simp)
   refine bT ad q1 ⟨⟨Int.le_refl _,by omega⟩,x,by simpa using q2,?_⟩
   refine JI h.cell ?_
   refine⟨⟨by decide,by omega⟩,?_⟩
   have e1:((1:Int).toNat)=1:=rfl
   rw[e1]
   have hst:=ag.st (i:=0) (v:=Sl.v ⟨dM s.a s.c 1 1,s.n - 1,s.c - 1⟩) h.cell (by simp) rfl
    (K:=fun H1=>Go.Proofs.YtacfhncgbgijhaaGreat.ld (ab .i64) H1 ⟨wb,0,none⟩ fun(x_4:Int)=>br ((x.n:Int)!=x_4)
     (ag H1 sb qB (lv W (nE lb wb) 0 .nilIface false false)∧((60:Int)≠0∨false=false→∀B,ag B sb qB (lv W (nE lb wb) 60 .nilIface false true)→Mod (fun b=>b=sb) H1 B→B.size=H1.size→K (Sl.mk none 0 0,false,60) B)∧((60:Int)=0→false=true→K (Sl.mk none 0 0,true,0) H1))
     (ag H1 sb qB (lv W (nE lb wb) 0 .nilIface false false)∧((0:Int)≠0∨true=false→∀B,ag B sb qB (lv W (nE lb wb) 0 .nilIface false true)→Mod (fun b=>b=sb) H1 B→B.size=H1.size→K (Sl.mk none 0 0,false,0) B)∧((0:Int)=0→true=true→K (x,true,0) H1)))
   refine hst fun A rA mA zA=>?_
   have mX:Mod X H A:=mA.mono fun b _ u=>by subst u;exact h.xs.2.1
   have wA:ag A wb ig #[.int .i64 W]:=h.wid.mod mA fun u=>h.xs.2.2 (u▸h.xs.2.1)
   refine⟨(W:Int),wA.cell (i:=0) rfl,?_⟩
   have hxl:=q4.len
   have hlW:=h.cols l List.mem_cons_self
   refine aA (by
    have:x.n=W:=by rw[hxl];exact hlW
    rw[this];simp) ⟨h.row.mod mA h.ne,fun u=>by rcases u with u|u<;>exact absurd u (by simp),fun _ _=>?_⟩
   refine hK1 l r x A ⟨dM s.a s.c 1 1,s.n - 1,s.c - 1⟩ rfl ⟨h.row.mod mA h.ne,by simpa using rA,wA,?_,by have:=h.cap;show s.n - 1≤s.c - 1;omega,fun y hy=>h.cols y (List.mem_cons_of_mem _ hy),h.xs,h.ne⟩ mA (q4.mod mX fun a ha=>(q3 a ha).2) fun a ha=>⟨by have:=(q3 a ha).1;omega,(q3 a ha).2⟩
   have:=(h.rows.drop h.cap (i:=1) (by simp)).mod mX
   simpa using this
end
section
variable {H:aa} {j:Nat} {cs:Array Value} {l cols:Sl} {ll:List Int}
end
section
variable {X:Nat→Prop} {H B:aa} {mb:Nat} {ls:List (List Int)}
end
theorem Ey [Tab] {x:List Int} {v:Int} {i:Nat} (hi:i<x.length) (e:x.getD i 0=v) (hno:∀j,j<i→x.getD j 0≠v):x.idxOf v=i:=by
 induction x generalizing i with
 |nil=>simp at hi
 |cons a x ih=>
   cases i with
   |zero=>
     have:a=v:=by simpa using e
     subst this;simp
   |succ i=>
     have ha:a≠v:=by simpa using hno 0 (by omega)
     have hb:(a==v)=false:=by simpa using ha
     rw[List.idxOf_cons,hb,cond_false,ih (by simpa using hi) (by simpa using e) fun j hj=>by simpa using hno (j+1) (by omega)]
section
variable {A:aa}
theorem oI [Tab] {l:Sl} {x:List Int} {v:Int} {K:Int→aa→Prop} (h:Ints .i64 A l x) (hl:x.length≤1000000) (hK1:v∈x→K (x.idxOf v:Int) A) (hK0:v∉x→K (-1) A):FK.sp l v A K:=by
 refine FK.of ?_
 unfold FK.vc
 have hn:=h.len
 refine aB x.length (fun i z B=>z=(i:Int)∧A=B∧∀j,j<i→x.getD j 0≠v) ⟨rfl,rfl,fun j hj=>by omega⟩ ?_
 rintro i _ _ next hi ⟨rfl,rfl,hno⟩ hnext
 refine aj (fun hc=>?_) (fun hc=>?_)
 ·have hlt : i < x.length := by have : (i : Int) < (l.n : Int) := by simpa using hc
                                omega
  refine fN h (i:=(i:Int)) (j:=i) rfl hlt fun ad _=>?_
  refine aj (fun he=>?_) (fun he=>?_)
  ·have he:v=x.getD i 0:=by simpa using he
   have hm:v∈x:=by
    rw[he,List.getD,List.getElem?_eq_getElem hlt]
    exact List.getElem_mem hlt
   have hk:=hK1 hm
   rw[Ey hlt he.symm hno] at hk
   exact hk
  ·have he:v≠x.getD i 0:=by simpa using he
   refine hnext hlt _ _ ⟨aP i (by omega),rfl,fun j hj=>?_⟩
   by_cases e:j=i
   ·subst e;exact fun q=>he q.symm
   ·exact hno j (by omega)
 ·have hge : i = x.length := by have : ¬ (i : Int) < (l.n : Int) := by simpa using hc
                                omega
  subst hge
  refine hK0 fun u=>?_
  obtain⟨j,hj⟩:=List.mem_iff_getElem?.1 u
  have hlt:=(List.getElem?_eq_some_iff.1 hj).1
  exact hno j hlt (by simp[List.getD,hj])
theorem vN [Tab] {l:Sl} {x:List Int} {v:Int} {K:Bool→aa→Prop} (h:Ints .i64 A l x) (hl:x.length≤1000000) (hK:K (decide (v∈x)) A):FH.sp l v A K:=by
 refine FH.of ?_
 unfold FH.vc
 refine oI h hl (fun hm=>?_) (fun hno=>?_)
 ·rw[decide_eq_true hm] at hK
  rw[decide_eq_true (show (x.idxOf v:Int)≥0 by omega)]
  exact hK
 ·rw[decide_eq_false hno] at hK
  rw[decide_eq_false (by decide)]
  exact hK
end
def eM (t:List Int) (c:Int):List Int:=if c∈t then t else t++[c]
def dK (bl:List Int):List Int:=bl.foldl eM []
def dR (bl:List Int) (w:Nat):List Int:=((List.range w).map Int.ofNat).foldl eM (dK bl)
theorem yJ (t:List Int) (c:Int):(eM t c).length≤t.length+1:=by
 unfold eM;split<;>simp
theorem ng:∀(l t:List Int),(l.foldl eM t).length≤t.length+l.length
 |[],t=>by simp
 |a::l,t=>by
   have h1:=ng l (eM t a)
   have h2:=yJ t a
   simp only[List.foldl_cons,List.length_cons]
   omega
theorem yX {t:List Int} {c y:Int}:y∈eM t c↔y∈t∨y=c:=by
 unfold eM
 split
 ·rename_i h
  constructor
  ·exact .inl
  ·rintro(u|u)
   ·exact u
   ·rw[u];exact h
 ·simp
theorem oc {y:Int}:∀{l t:List Int},y∈l.foldl eM t↔y∈t∨y∈l
 |[],t=>by simp
 |a::l,t=>by
   rw[List.foldl_cons,oc,yX,List.mem_cons,or_assoc]
def kA (p sb:Nat) (n:ByteArray) (bs:Sl) (wf:Value) (col:Int) (tu:Sl) (keys:Int) (ba:Sl) (fr:Int) (made:Bool) (r:Option Addr) (nx:Sl):Array Value:=
 #[.pointer (aI p),.string n,.pointer (aI sb),bs.v,wf,.int .i64 col,tu.v,.int .i64 keys,ba.v,.int .i64 fr,.bool made,.pointer r,nx.v]
def HE (op:Int):FuncId:=if op=9 then Fq.no else if op=10 then Fu.no else if op=11 then Fz.no else FC.no
def ki (op:Int):Value:=.func (.func (HE op)) #[] #[]
theorem D4 {op:Int} {H:aa} {K:(Fn×Array Value×Array Value)→aa→Prop} (h:op=9∨op=10∨op=11∨op=12) (hK:K (.func (HE op),#[],#[]) H):FJ.sp op H K:=by
 refine FJ.of ?_
 unfold FJ.vc
 rcases h with h|h|h|h<;>subst h
 ·exact aZ rfl hK
 ·exact aA rfl (aZ rfl hK)
 ·exact aA rfl (aA rfl (aZ rfl hK))
 ·exact aA rfl (aA rfl (aA rfl (aZ rfl hK)))
def nG (gb:Nat):Value:=.iface Kt (.pointer (aI gb))
def yg (gb:Nat):Value:=.func (.method "Next") #[nG gb] #[]
theorem EF [Tab] {H:aa} {w:Int} {gb:Nat} {K:Option Addr→aa→Prop} (hK:∀A,ag A H.size qB (tR w (yg gb) (Sl.mk none 0 0) 0 (nG gb) false false)→Ext H A→A.size=H.size+1→K (aI H.size) A):G3.sp w (nG gb) H K:=by
 refine G3.of ?_
 unfold G3.vc
 simp only[nG,u7,vt]
 refine aA rfl ?_
 show CM.sp w (Sl.mk none 0 0) (0:Int) (.method "Next") #[nG gb] #[] H _
 refine Ao fun A rA eA zA=>?_
 simp only[av]
 refine ag.st rA (i:=4) (by simp[lv]) rfl fun B rB mB zB=>?_
 exact hK B rB ((Ext.mod eA |>.trans mB).ext fun b u=>by omega) (by omega)
theorem ld1 {c:fe} {x:c.α} {A:aa} {b:Nat} {t:TypeId} {K:c.α→Prop} (r:ag A b t #[c.enc x]) (hK:K x):ld c A ⟨b,0,none⟩ K:=⟨x,r.cell (i:=0) rfl,hK⟩
section
variable {H:aa}
set_option maxRecDepth 100000 in
theorem Gj [Tab] {s:Sl} {x:List Int} {b W:Nat} {K:Bool→aa→Prop} (r:ag H b ig #[.int .i64 (W:Int)]) (hx:Ints .i64 H s x) (hl:x.length≤1000) (hall:∀c∈x,0≤c∧c<(W:Int)) (hK:K false H):Hd.sp s (.func (.func ze.no) #[] #[(.pointer (some ⟨b,0,none⟩))]) H K:=by
 refine Hd.of ?_
 unfold Hd.vc
 refine IZ.of ?_
 unfold IZ.vc
 have hn:=hx.len
 refine aB x.length (fun i z A=>z=(i:Int)∧H=A) ⟨rfl,rfl⟩ ?_
 rintro i _ _ next hi ⟨rfl,rfl⟩ hnext
 refine aj (fun hc=>?_) (fun _=>?_)
 ·have hlt : i < x.length := by have : (i : Int) < (s.n : Int) := by simpa using hc
                                omega
  have hm:x.getD i 0∈x:=by rw[List.getD,List.getElem?_eq_getElem hlt];exact List.getElem_mem _
  obtain⟨c0,c1⟩:=hall _ hm
  refine fN hx (i:=(i:Int)) (j:=i) rfl hlt fun ad _=>?_
  generalize x.getD i 0=c at*
  refine xP #[.int .i64 c,.pointer (some ⟨b,0,none⟩)] rfl (by kernel_rfl) ?_
  refine ze.of (c:=c) (cap:=⟨b,0,none⟩) ?_
  unfold ze.vc
  refine aA (by simp;omega) ?_
  refine ld1 (c:=ab .i64) (x:=(W:Int)) r ?_
  rw[decide_eq_false (show ¬c≥(W:Int) by omega)]
  exact aA rfl (hnext hlt _ _ ⟨aP i (by omega),rfl⟩)
 ·exact hK
theorem GB {c:Int} {b W:Nat} {K:Bool→aa→Prop} (r:ag H b ig #[.int .i64 (W:Int)]) (hc:0≤c∧c<(W:Int)) (hK:K false H):ze.sp c ⟨b,0,none⟩ H K:=by
 refine ze.of ?_
 unfold ze.vc
 refine aA (by simp;omega) ?_
 refine ld1 (c:=ab .i64) (x:=(W:Int)) r ?_
 rw[decide_eq_false (show ¬c≥(W:Int) by omega)]
 exact hK
theorem I2:zc Tryz.prog ig=#[.int .i64 0]:=by kernel_rfl
theorem uH [Tab] {A:aa} {gb p sb base:Nat} {n:ByteArray} {bs tu ba nx:Sl} {wf:Value} {col keys fr:Int} {made:Bool} {r:Option Addr} {t:List Int} {c:Int} {K:aa→Prop} (g:ag A gb ti (kA p sb n bs wf col tu keys ba fr made r nx)) (ot:au A base ig 1 tu (t.map (Value.int .i64))) (hb:gb<base) (hA:base≤A.size) (ht:t.length≤1000)
  (hK:∀tu' B,ag B gb ti (kA p sb n bs wf col tu' keys ba fr made r nx)→au B base ig 1 tu' ((eM t c).map (Value.int .i64))→Mod (fun b=>b=gb∨base≤b) A B→K B):
  ld an A (Addr.add ⟨gb,0,none⟩ 6) fun(x_2:Sl)=>FH.sp x_2 c A fun(r_17:Bool) H23=>br (!r_17) (ld an H23 (Addr.add ⟨gb,0,none⟩ 6) fun(x_3:Sl)=>aD H23 #[(.int .i64 c)] ig fun p_2 H24=>bS an Tryz.prog (Builtin.append_ #[xy,xy] xy #[x_3.v,(.slice (some p_2) 1 1)]) H24 fun(s_1:Sl) H25=>st H25 (Addr.add ⟨gb,0,none⟩ 6) s_1.v fun H26=>K H26) (K H23):=by
 refine ag.ld (c:=an) (i:=6) (x:=tu) g rfl ?_
 refine vN (au.ints ot) (by omega) ?_
 have on:=ot.1
 rw[List.length_map] at on
 refine aj (fun h=>?_) (fun h=>?_)
 ·have hno:c∉t:=by simpa using h
  refine ag.ld (c:=an) (i:=6) (x:=tu) g rfl ?_
  refine Ee.push (base:=base) ot rfl (by omega) (by omega) hA ?_
  intro s' B n1 o1 m1 b1 _
  have bt:=ot.block
  have gB:ag B gb ti (kA p sb n bs wf col tu keys ba fr made r nx):=g.mod m1 fun u=>by have:=(bt gb u).1;omega
  refine ag.st gB (i:=6) (by simp[kA]) rfl fun C rC mC zC=>?_
  refine hK s' C rC ?_ ((m1.mono fun b _ u=>.inr (bt b u).1).trans (mC.mono fun b _ u=>.inl u))
  have e:(eM t c).map (Value.int .i64)=t.map (Value.int .i64)++[.int .i64 c]:=by unfold eM;rw[if_neg hno];simp
  rw[e]
  exact o1.mod mC fun b hb' u=>by have:=(o1.block b hb').1;omega
 ·have hin:c∈t:=by simpa using h
  refine hK tu A g ?_ (Mod.refl _ _)
  unfold eM;rw[if_pos hin];exact ot
end
section
variable {H:aa}
def yc (t:List Int) (bl:List Int):List Int:=bl.map fun c=>(t.idxOf c:Int)
set_option maxHeartbeats 1000000 in
theorem DZ [Tab] {name:ByteArray} {by_:Sl} {bl:List Int} {op col:Int} {fr W:Nat} {F:Nat→Prop} {s:Pl} {p dp sb:Nat} {f feed:Value} {wr:Int} {cl en:Bool} {K:(Option Addr×Int)→aa→Prop}
  (hp:al F H p dp s) (rs:ag H sb qB (lv W f wr feed cl en)) (hW:1≤W∧W≤16) (hb:Ints .i64 H by_ bl) (hbl:∀c∈bl,0≤c∧c<(W:Int)) (hl:bl.length≤100) (hop:op=9∨op=10∨op=11∨op=12) (hcol:op≠9→0≤col∧col<(W:Int)) (hfr:3≤fr∧fr≤s.most)
  (hK:∀gb bs tu ba A,ag A gb ti (kA p sb name bs (ki op) (if op=9 then -1 else ((dR bl W).idxOf col:Int)) tu (dK bl).length ba fr false none (Sl.mk none 0 0))→ag A (A.size - 1) qB (tR (bl.length+1) (yg gb) (Sl.mk none 0 0) 0 (nG gb) false false)→au A (gb+1) ig 1 tu ((dR bl W).map (Value.int .i64))→au A (gb+1) ig 1 ba ((yc (dR bl W) bl).map (Value.int .i64))→Ext H A→H.size≤gb→gb+2≤A.size→K (aI (A.size - 1),0) A):Fp.sp (aI p) name (aI sb) by_ op col fr H K:=by
 refine Fp.of ?_
 unfold Fp.vc
 refine mQ rs ?_
 refine ak fun H1 z1 r1 e1=>?_
 rw[I2] at r1
 refine ag.st (i:=0) r1 (by simp) rfl fun H2 r2 m2 z2=>?_
 have r2':ag H2 H.size ig #[.int .i64 (W:Int)]:=by simpa using r2
 have e2:Ext H H2:=Ext.eJ e1 m2 fun b u=>by omega
 have b2:=hb.ext e2
 obtain⟨q1,q2,_,_⟩:=bR (Nat.zero_le W) hW.2
 refine⟨fun _ A=>H2=A,?_,?_⟩
 ·refine aA rfl (aA rfl ?_)
  refine ld1 (c:=ab .i64) (x:=(W:Int)) r2' ?_
  refine kj ?_
  refine aA (by rw[q1];simp;omega) ?_
  refine D4 hop ?_
  refine Gj r2' b2 (by omega) hbl ?_
  refine aA rfl ?_
  refine aj (fun h=>?_) (fun h=>?_)
  ·have h9:op≠9:=by simpa using h
   refine GB r2' (hcol h9) ?_
   refine aA rfl (aA (by simp;omega) ?_)
   exact pv (hp.ext e2) (aA (by simp;omega) rfl)
  ·refine aA (by simp;omega) ?_
   exact pv (hp.ext e2) (aA (by simp;omega) rfl)
 rintro _ _ rfl
 refine yK b2 (by omega) fun bs H3 o3 e3 f3=>?_
 refine D4 hop ?_
 refine ak fun H4 z4 r4 e4=>?_
 have g4:ag H4 H3.size ti (kA p sb name bs (ki op) (-1) (Sl.mk none 0 0) 0 (Sl.mk none 0 0) fr false none (Sl.mk none 0 0)):=r4
 have b3:=b2.ext e3
 have e23:Ext H H3:=e2.trans e3
 have z23:=e23.size
 have toE:∀{A:aa},Mod (fun b=>b=H3.size∨H4.size≤b) H4 A→Ext H3 A:=fun {A} m=>Ext.eJ e4 m fun b u=>by omega
 refine aB bl.length (fun k z A=>z=(k:Int)∧∃tu,ag A H3.size ti (kA p sb name bs (ki op) (-1) tu 0 (Sl.mk none 0 0) fr false none (Sl.mk none 0 0))∧au A H4.size ig 1 tu (((bl.take k).foldl eM []).map (Value.int .i64))∧Mod (fun b=>b=H3.size∨H4.size≤b) H4 A) ⟨rfl,Sl.mk none 0 0,g4,au.nil _ _ _ _,Mod.refl _ _⟩ ?_
 rintro k _ A next hk ⟨rfl,tu,gA,oA,mA⟩ hnext
 have eA:=toE mA
 have hln:=hb.len
 refine aj (fun h=>?_) (fun h=>?_)
 ·have hlt:k<bl.length:=by simp at h;omega
  refine fN (b3.ext eA) (i:=(k:Int)) (j:=k) rfl hlt fun ad _=>?_
  refine uH (K:=fun B=>next (IntKind.i64.wrap ((k:Int)+1)) B) gA oA (by omega) mA.size (by have:=ng (bl.take k) [];rw[List.length_take] at this;simp at this;omega) fun tu' B gB oB mB=>?_
  refine hnext hlt _ _ ⟨aP k (by omega),tu',gB,?_,mA.trans mB⟩
  have e:bl.getD k 0=bl[k]:=by simp[List.getD,List.getElem?_eq_getElem hlt]
  rw[List.take_succ_eq_append_getElem hlt,List.foldl_append,←e]
  exact oB
 have hge:k=bl.length:=by simp at h;omega
 subst hge
 rw[List.take_of_length_le (Nat.le_refl _)] at oA
 have hnl:(dK bl).length≤bl.length:=by have:=ng bl [];simp at this;exact this
 have on:=oA.1
 rw[List.length_map,Nat.mul_one] at on
 refine ag.ld (c:=an) (i:=6) (x:=tu) gA rfl ?_
 refine ag.st gA (i:=7) (by simp[kA]) rfl fun B rB mB zB=>?_
 have gB:ag B H3.size ti (kA p sb name bs (ki op) (-1) tu (dK bl).length (Sl.mk none 0 0) fr false none (Sl.mk none 0 0)):=by
  have e:(tu.n:Int)=((dK bl).length:Int):=by unfold dK;omega
  rw[e] at rB;exact rB
 have mAB:=mA.trans (mB.mono (fun b _ u=>Or.inl u):Mod (fun b=>b=H3.size∨H4.size≤b) A B)
 have oB:au B H4.size ig 1 tu ((dK bl).map (Value.int .i64)):=oA.mod mB fun b hb' u=>by have:=(oA.block b hb').1;omega
 refine ld1 (c:=ab .i64) (x:=(W:Int)) ((r2'.ext e3).ext (toE mAB)) ?_
 refine aB W (fun k z D=>z=(k:Int)∧∃tu,ag D H3.size ti (kA p sb name bs (ki op) (-1) tu (dK bl).length (Sl.mk none 0 0) fr false none (Sl.mk none 0 0))∧au D H4.size ig 1 tu ((((List.range k).map Int.ofNat).foldl eM (dK bl)).map (Value.int .i64))∧Mod (fun b=>b=H3.size∨H4.size≤b) H4 D) ⟨rfl,tu,gB,oB,mAB⟩ ?_
 rintro k _ D next2 hk2 ⟨rfl,tu2,gD,oD,mD⟩ hnext2
 have lenk:(((List.range k).map Int.ofNat).foldl eM (dK bl)).length≤200:=by
  have:=ng ((List.range k).map Int.ofNat) (dK bl)
  rw[List.length_map,List.length_range] at this
  omega
 refine aj (fun h=>?_) (fun h=>?_)
 ·have hlt:k<W:=by simp at h;omega
  refine uH (K:=fun B=>next2 (IntKind.i64.wrap ((k:Int)+1)) B) gD oD (by omega) mD.size (by omega) fun tu' E gE oE mE=>?_
  refine hnext2 hlt _ _ ⟨aP k (by omega),tu',gE,?_,mD.trans mE⟩
  rw[List.range_succ,List.map_append,List.foldl_append]
  exact oE
 have hge:k=W:=by simp at h;omega
 subst hge
 have oT:au D H4.size ig 1 tu2 ((dR bl k).map (Value.int .i64)):=oD
 have lenT:(dR bl k).length≤200:=lenk
 refine aB bl.length (fun j z E=>z=(j:Int)∧∃ba,ag E H3.size ti (kA p sb name bs (ki op) (-1) tu2 (dK bl).length ba fr false none (Sl.mk none 0 0))∧au E H4.size ig 1 tu2 ((dR bl k).map (Value.int .i64))∧au E D.size ig 1 ba ((yc (dR bl k) (bl.take j)).map (Value.int .i64))∧Mod (fun b=>b=H3.size∨H4.size≤b) H4 E∧D.size≤E.size) ⟨rfl,Sl.mk none 0 0,gD,oT,au.nil _ _ _ _,mD,Nat.le_refl _⟩ ?_
 rintro j _ E next3 hj ⟨rfl,ba,gE,oE,oba,mE,zE⟩ hnext3
 have eE:=toE mE
 have zD:=mD.size
 refine aj (fun h=>?_) (fun h=>?_)
 ·have hlt:j<bl.length:=by simp at h;omega
  refine fN (b3.ext eE) (i:=(j:Int)) (j:=j) rfl hlt fun ad _=>?_
  have e:bl.getD j 0=bl[j]:=by simp[List.getD,List.getElem?_eq_getElem hlt]
  rw[e]
  refine⟨Ext E,.refl _ _,?_⟩
  refine ag.jm (c:=an) (i:=8) (x:=ba) (cs:=fun _=>kA p sb name bs (ki op) (-1) tu2 (dK bl).length ba fr false none (Sl.mk none 0 0)) (fun D hD=>gE.ext hD) (fun _ _=>rfl) ?_
  refine ag.ld (c:=an) (i:=6) (x:=tu2) gE rfl ?_
  have hmem:bl[j]∈dR bl k:=oc.2 (.inl (oc.2 (.inr (List.getElem_mem hlt))))
  refine oI (au.ints oE) (by omega) (fun _=>?_) (fun hno=>absurd hmem hno)
  refine⟨.refl _ _,?_⟩
  refine⟨Mod.push _ _ _,?_⟩
  have obn:=oba.1
  unfold yc at obn
  rw[List.length_map,List.length_map,List.length_take] at obn
  have key:=Ee.push (ty:=xy) (base:=D.size) (v:=.int .i64 ((dR bl k).idxOf bl[j]:Int)) oba rfl (by omega) (by omega) zE (K:=fun s' C=>st C (Addr.add ⟨H3.size,0,none⟩ 8) s'.v fun D=>next3 (IntKind.i64.wrap ((j:Int)+1)) D)
  refine key ?_
  intro s' C n1 o1 m1 b1 _
  have bb:=oba.block
  have gC:ag C H3.size ti (kA p sb name bs (ki op) (-1) tu2 (dK bl).length ba fr false none (Sl.mk none 0 0)):=gE.mod m1 fun u=>by have:=(bb _ u).1;omega
  refine ag.st gC (i:=8) (by simp[kA]) rfl fun G rG mG zG=>?_
  have ht2:∀b,ai tu2 b→b<D.size:=fun b hb'=>(oT.block b hb').2
  refine hnext3 hlt _ _ ⟨aP j (by omega),s',rG,(oE.mod m1 fun b hb' u=>by have:=ht2 b hb';have:=(bb b u).1;omega).mod mG fun b hb' u=>by have:=(oE.block b hb').1;omega,?_,(mE.trans (m1.mono fun b _ u=>.inr (by have:=(bb b u).1;omega))).trans (mG.mono fun b _ u=>.inl u),by have:=m1.size;omega⟩
  have ei:(yc (dR bl k) (bl.take (j+1))).map (Value.int .i64)=(yc (dR bl k) (bl.take j)).map (Value.int .i64)++[.int .i64 ((dR bl k).idxOf bl[j]:Int)]:=by
   unfold yc;rw[List.take_succ_eq_append_getElem hlt,List.map_append,List.map_append];rfl
  rw[ei]
  exact o1.mod mG fun b hb' u=>by have:=(o1.block b hb').1;omega
 have hge:j=bl.length:=by simp at h;omega
 subst hge
 rw[List.take_of_length_le (Nat.le_refl _)] at oba
 have wl:IntKind.i64.wrap ((by_.n:Int)+(1:Int))=(bl.length:Int)+1:=by rw[wrap64 (by omega) (by omega)];omega
 have fin:∀(G:aa),ag G H3.size ti (kA p sb name bs (ki op) (if op=9 then -1 else ((dR bl k).idxOf col:Int)) tu2 (dK bl).length ba fr false none (Sl.mk none 0 0))→Mod (fun b=>b=H3.size) E G→G.size=E.size→G3.sp (IntKind.i64.wrap ((by_.n:Int)+(1:Int))) (.iface Kt (.pointer (some ⟨H3.size,0,none⟩))) G fun(r_21:Option Addr) H41=>K (r_21,(0:Int)) H41:=by
  intro G gG mG zG
  rw[wl]
  refine EF (gb:=H3.size) fun L rL eL zL=>?_
  have eEG:Ext H3 G:=Ext.eJ eE mG fun b u=>by omega
  have h1:G.size=L.size - 1:=by omega
  have hz4:H4.size=H3.size+1:=z4
  rw[h1] at rL ⊢
  have oE':=oE.mod mG fun b hb' u=>by have:=(oE.block b hb').1;omega
  have ob':=oba.mod mG fun b hb' u=>by have:=(oba.block b hb').1;omega
  exact hK H3.size bs tu2 ba L (gG.ext eL) rL ((oE'.ext eL).IM fun b hb'=>by have:=(oE.block b hb').1;omega) ((ob'.ext eL).IM fun b hb'=>by have:=(oba.block b hb').1;omega) ((e23.trans eEG).trans eL) z23 (by have:=mE.size;omega)
 refine⟨fun _ G=>ag G H3.size ti (kA p sb name bs (ki op) (if op=9 then -1 else ((dR bl k).idxOf col:Int)) tu2 (dK bl).length ba fr false none (Sl.mk none 0 0))∧Mod (fun b=>b=H3.size) E G∧G.size=E.size,?_,fun _ G q=>fin G q.1 q.2.1 q.2.2⟩
 refine aj (fun h=>?_) (fun h=>?_)
 ·have h9:op≠9:=by simpa using h
  obtain⟨c0,c1⟩:=hcol h9
  have hmem:col∈dR bl k:=oc.2 (.inr (List.mem_map.2 ⟨col.toNat,List.mem_range.2 (by omega),by show ((col.toNat:Nat):Int)=col;omega⟩))
  refine ag.ld (c:=an) (i:=6) (x:=tu2) gE rfl ?_
  refine oI (au.ints oE) (by omega) (fun _=>?_) (fun hno=>absurd hmem hno)
  refine ag.st gE (i:=5) (by simp[kA]) rfl fun G rG mG zG=>?_
  rw[if_neg h9]
  exact⟨rG,mG,zG⟩
 ·have h9:op=9:=by simpa using h
  rw[if_pos h9]
  exact⟨gE,Mod.refl _ _,rfl⟩
end
structure AS [Tab] (H0 A:aa) (X:Nat→Prop) (gb p dp sb:Nat) (n:ByteArray) (bs tu ba:Sl) (wf:Value) (col keys fr:Int) (W Q mo:Nat) (rs:List (List Int)) (j c:Nat) (nx:Sl):Prop where
 ex:∃F s M U kr r si srs,cO H0 A F p dp s M Q U mo (20000000000+2100*c)∧ux A kr p r si srs∧(∀b,F b→¬nu kr si srs b)∧jh M n W (cg W) rs∧(∀a,a≠n→M a=none)∧kE r n W (cg W) rs∧r.at_=j∧H0.size≤kr∧ag A gb ti (kA p sb n bs wf col tu keys ba fr true (aI kr) nx)∧(∀b,X b→¬F b∧¬nu kr si srs b)
 lt:∀b,X b→b<A.size
 gb:X gb∧H0.size≤gb
section
variable {H0 A B:aa} {X Y:Nat→Prop} {gb p dp sb:Nat} {n:ByteArray} {bs tu ba nx:Sl} {wf:Value} {col keys fr:Int} {W Q mo:Nat} {rs:List (List Int)} {j c:Nat}
theorem AS.ext [Tab] (h:AS H0 A X gb p dp sb n bs tu ba wf col keys fr W Q mo rs j c nx):Ext H0 A:=by
 obtain⟨⟨F,s,M,U,kr,r,si,srs,a1,_⟩,_,_⟩:=h
 exact a1.ext
theorem AS.row [Tab] (h:AS H0 A X gb p dp sb n bs tu ba wf col keys fr W Q mo rs j c nx):∃kr,ag A gb ti (kA p sb n bs wf col tu keys ba fr true (aI kr) nx):=by
 obtain⟨⟨F,s,M,U,kr,r,si,srs,_,_,_,_,_,_,_,_,a9,_⟩,_,_⟩:=h
 exact⟨kr,a9⟩
theorem AS.move [Tab] {X':Nat→Prop} (h:AS H0 A X gb p dp sb n bs tu ba wf col keys fr W Q mo rs j c nx) (mm:Mod Y A B) (hy:∀b,Y b→X b∧H0.size≤b∧b≠gb) (hx:∀b,X' b→(X b∨A.size≤b)∧b<B.size) (hg:X' gb):AS H0 B X' gb p dp sb n bs tu ba wf col keys fr W Q mo rs j c nx:=by
 obtain⟨⟨F,s,M,U,kr,r,si,srs,a1,a2,a3,a4,a5,a6,a7,a8,a9,a10⟩,lt,g1,g2⟩:=h
 have hs:∀b,F b∨nu kr si srs b→b<A.size:=fun b u=>by
  rcases u with u|u
  ·exact a1.pool.lt b u
  ·exact a2.lt b u
 have hn:∀b,F b∨nu kr si srs b→¬Y b:=fun b u v=>by
  obtain⟨x1,x2⟩:=a10 b (hy b v).1
  rcases u with u|u
  ·exact x1 u
  ·exact x2 u
 refine⟨⟨F,s,M,U,kr,r,si,srs,a1.aside (Ext.eJ a1.ext mm fun b u=>(hy b u).2.1) fun b hb=>mm.same b (hs b (.inl hb)) (hn b (.inl hb)),a2.mod mm fun b hb=>hn b (.inr hb),a3,a4,a5,a6,a7,a8,a9.mod mm fun u=>(hy gb u).2.2 rfl,fun b hb=>?_⟩,fun b u=>(hx b u).2,hg,g2⟩
 rcases (hx b hb).1 with v|v
 ·exact a10 b v
 ·exact⟨fun u=>by have:=hs b (.inl u);omega,fun u=>by have:=hs b (.inr u);omega⟩
set_option maxHeartbeats 1000000 in
theorem Ay [Tab] {K:Int→aa→Prop} (h:AS H0 A X gb p dp sb n bs tu ba wf col keys fr W Q mo rs j c nx) (hg:Gl H0) (hr:fR W rs) (hW:1≤W∧W≤16) (hbig:rs.length≤1000000) (hs:n.size≤9223372036854775807) (hQ:Q≤1048576) (hc:c≤1000000)
  (hK1:∀(hj:j<rs.length) x B,AS H0 B (fun b=>X b∨ai x b) gb p dp sb n bs tu ba wf col keys fr W Q mo rs (j+1) (c+1) x→au B 0 fx 1 x ((rs[j]'hj).map (Value.int .u64))→(∀b,ai x b→A.size≤b)→(∀b,X b→b≠gb→B[b]?=A[b]?)→A.size≤B.size→K 0 B)
  (hK0:j=rs.length→∀B,AS H0 B X gb p dp sb n bs tu ba wf col keys fr W Q mo rs j (c+1) (Sl.mk none 0 0)→(∀b,X b→b≠gb→B[b]?=A[b]?)→A.size≤B.size→K 0 B):Et.sp (aI gb) A K:=by
 obtain⟨⟨F,s,M,U,kr,r,si,srs,a1,a2,a3,a4,a5,a6,a7,a8,a9,a10⟩,lt,g1,g2⟩:=h
 refine Et.of ?_
 unfold Et.vc
 simp only[av,aI]
 refine ag.ld (c:=ar) (i:=11) (x:=aI kr) a9 rfl ?_
 obtain⟨gF,gR⟩:=a10 gb g1
 have gk:gb≠kr:=fun q=>gR (.inl q)
 refine a1.DY hg a2 a3 a4 a6 hr hbig hs hQ (by omega) hW.2 (by omega) a8 (fun hlt F3 s3 si3 srs3 r3 l B3 hP3 hrd3 hd3 hon3 hat3 ol hsep m3 own3 ownr3=>?_) (fun he F3 s3 si3 srs3 r3 B3 hP3 hrd3 hd3 hon3 hat3 m3 own3 ownr3=>?_)
 ·rw[a7] at hlt ol hat3
  have z3:=m3.size
  have row3:=a9.mod m3 fun u=>u.elim gF gk
  refine ag.st row3 (i:=12) (by simp[kA]) rfl fun C rC mC zC=>?_
  have hl1:l.a≠none:=fun q=>by
   have h1:=ol.1
   have h2:=(hr.len _ (List.getElem_mem hlt))
   have e:rs.getD j []=rs[j]:=by simp[List.getD,List.getElem?_eq_getElem hlt]
   rw[e,List.length_map,h2] at h1
   have:=au.JB ol q
   omega
  refine aZ rfl (aA (by cases hl:l.a with|none=>exact absurd hl hl1|some _=>rfl) ?_)
  have e:rs.getD j []=rs[j]:=by simp[List.getD,List.getElem?_eq_getElem hlt]
  rw[e] at ol
  have offg:∀b,F3 b∨nu kr si3 srs3 b→b≠gb:=fun b u q=>by
   subst q
   have hgA:=lt b g1
   rcases u with u|u
   ·rcases own3 b u with v|v
    ·exact gF v
    ·omega
   ·rcases ownr3 b u with v|v
    ·exact gR v
    ·omega
  have hlb:=ol.block
  refine hK1 hlt l C ⟨⟨F3,s3,M,U,kr,r3,si3,srs3,(hP3.aside (Ext.eJ hP3.ext mC fun b u=>by omega) fun b hb=>mC.same b (hP3.pool.lt b hb) (offg b (.inl hb))).xl (by omega),hrd3.mod mC fun b hb=>offg b (.inr hb),hd3,a4,a5,hon3,hat3,a8,rC,fun b hb=>?_⟩,fun b hb=>?_,.inl g1,g2⟩ (ol.mod mC fun b hb u=>?_) (fun b hb=>(hsep b hb).1) (fun b hb hne=>?_) (by omega)
  ·rcases hb with hb|hb
   ·obtain⟨x1,x2⟩:=a10 b hb
    have:=lt b hb
    refine⟨fun u=>?_,fun u=>?_⟩
    ·rcases own3 b u with v|v
     ·exact x1 v
     ·omega
    ·rcases ownr3 b u with v|v
     ·exact x2 v
     ·omega
   ·exact(hsep b hb).2
  ·rcases hb with hb|hb
   ·have:=lt b hb;omega
   ·have:=(hlb b hb).2;omega
  ·have:=(hsep b hb).1;have:=lt gb g1;omega
  ·obtain⟨x1,x2⟩:=a10 b hb
   have hb':=lt b hb
   rw[mC.same b (by omega) hne,m3.same b hb' fun u=>u.elim x1 fun q=>x2 (.inl q)]
 ·rw[a7] at he
  have z3:=m3.size
  have row3:=a9.mod m3 fun u=>u.elim gF gk
  refine ag.st row3 (i:=12) (by simp[kA]) rfl fun C rC mC zC=>?_
  refine aA rfl ?_
  have offg:∀b,F3 b∨nu kr si3 srs3 b→b≠gb:=fun b u q=>by
   subst q
   have hgA:=lt b g1
   rcases u with u|u
   ·rcases own3 b u with v|v
    ·exact gF v
    ·omega
   ·rcases ownr3 b u with v|v
    ·exact gR v
    ·omega
  rw[a7] at hat3
  refine hK0 he C ⟨⟨F3,s3,M,U,kr,r3,si3,srs3,(hP3.aside (Ext.eJ hP3.ext mC fun b u=>by omega) fun b hb=>mC.same b (hP3.pool.lt b hb) (offg b (.inl hb))).xl (by omega),hrd3.mod mC fun b hb=>offg b (.inr hb),hd3,a4,a5,hon3,hat3,a8,rC,fun b hb=>?_⟩,fun b hb=>by have:=lt b hb;omega,g1,g2⟩ (fun b hb hne=>?_) (by omega)
  ·obtain⟨x1,x2⟩:=a10 b hb
   have:=lt b hb
   refine⟨fun u=>?_,fun u=>?_⟩
   ·rcases own3 b u with v|v
    ·exact x1 v
    ·omega
   ·rcases ownr3 b u with v|v
    ·exact x2 v
    ·omega
  ·obtain⟨x1,x2⟩:=a10 b hb
   have hb':=lt b hb
   rw[mC.same b (by omega) hne,m3.same b hb' fun u=>u.elim x1 fun q=>x2 (.inl q)]
end
section
variable {H0 A:aa} {X F:Nat→Prop} {gb p dp sb lb wb:Nat} {n:ByteArray} {bs tu ba:Sl} {wf:Value} {col keys:Int} {W Q mo fr cp:Nat}
theorem jC.others [Tab] {ended:Bool} {s:Sl} {ls:List (List Int)} {B:aa} (h:jC (fun b=>¬X b∨b=sb∨b=lb) A sb lb wb W ended s ls) (hX:X sb∧X lb) (hlt:∀b,X b→b<A.size) (hz:A.size≤B.size) (hs:∀b,X b→B[b]?=A[b]?):jC (fun b=>¬X b∨b=sb∨b=lb) B sb lb wb W ended s ls:=
 h.aq (Y:=fun b=>¬X b) ⟨hz,fun b _ hb=>hs b (Classical.not_not.1 hb)⟩ (fun b u=>.inl u) (fun u=>u hX.1) fun u=>u hX.2
theorem KV {j m c a:Nat} (hj:j≤m) (h:a≤1+j*c):a≤1+m*c:=Nat.le_trans h (Nat.add_le_add_left (Nat.mul_le_mul_right c hj) 1)
theorem Ld {j m c a:Nat} (hj:j≤m) (h:a≤j*c):a≤m*c:=Nat.le_trans h (Nat.mul_le_mul_right c hj)
set_option maxHeartbeats 1000000 in
theorem D5 [Tab] {K:Int→aa→Prop} {ss:Sl} {rl:List (List Int)} {tl:List Int} (hg:Gl H0) (e:Ext H0 A) (hp:al F A p dp (vd (yo (Q:Int)) mo)) (ho:∀b,F b→H0.size≤b∧¬X b) (hx:∀b,X b→b<A.size)
  (hgr:ag A gb ti (kA p sb n bs wf col tu keys ba fr false none (Sl.mk none 0 0))) (hX:X gb∧X sb∧X lb) (hne:gb≠sb∧gb≠lb) (hgo:H0.size≤gb∧H0.size≤sb∧H0.size≤lb)
  (src:jC (fun b=>¬X b∨b=sb∨b=lb) A sb lb wb W false ss rl) (htu:Ints .i64 A tu tl) (htX:∀ad,tu.a=some ad→X ad.block∧ad.block≠gb∧ad.block≠sb∧ad.block≠lb) (htl:tl.length≤1000)
  (hturn:∀l∈rl,sd l tl=0∧(bV l tl).length=W∧fQ (bV l tl)) (hn:rl.length≤800) (hW:1≤W∧W≤16) (h3:3≤fr∧fr≤mo) (h8:8≤mo∧mo≤4096) (hQ:Q≤1048576)
  (hle:∀all:List (List Int),all.length≤rl.length→jf n W fr Q cp all) (hmany:∀f,f*(fr*cg W)≤rl.length→2*f+2≤cp)
  (hK:∀j x B,AS H0 B (fun b=>X b∨ai x b) gb p dp sb n bs tu ba wf col keys fr W Q mo (ay (bp (rl.map (bV · tl)))) j 2 x→(j=0∧ay (bp (rl.map (bV · tl)))=[]∧x=Sl.mk none 0 0∨j=1∧∃h:0<(ay (bp (rl.map (bV · tl)))).length,au B 0 fx 1 x (((ay (bp (rl.map (bV · tl))))[0]'h).map (Value.int .u64)))→fR W (ay (bp (rl.map (bV · tl))))→(∀b,X b→b≠gb→b≠sb→b≠lb→B[b]?=A[b]?)→(∀b,ai x b→A.size≤b)→A.size≤B.size→K 0 B):CQ.sp (aI gb) A K:=by
 refine CQ.of ?_
 unfold CQ.vc
 simp only[av,aI]
 refine⟨Ext A,.refl _ _,?_⟩
 refine ag.jm (c:=ar) (i:=0) (x:=aI p) (cs:=fun _=>kA p sb n bs wf col tu keys ba fr false none (Sl.mk none 0 0)) (fun D hD=>hgr.ext hD) (fun _ _=>rfl) ?_
 refine ag.jm (c:=bK) (i:=1) (x:=n) (cs:=fun _=>kA p sb n bs wf col tu keys ba fr false none (Sl.mk none 0 0)) (fun D hD=>hgr.ext hD) (fun _ _=>rfl) ?_
 refine ag.ld (c:=ar) (i:=2) (x:=aI sb) hgr rfl ?_
 refine mQ src.row ⟨.refl _ _,?_⟩
 refine ag.jm (c:=ab .i64) (i:=9) (x:=(fr:Int)) (cs:=fun _=>kA p sb n bs wf col tu keys ba fr false none (Sl.mk none 0 0)) (fun D hD=>hgr.ext hD) (fun _ _=>rfl) ?_
 refine Gi e hp ho hx hQ h8.1 h8.2 hW.2 h3.1 h3.2 fun k B hS eB=>?_
 refine aA rfl ?_
 have cap:∀(l:List (List Int)),l.length≤rl.length→∀f,f*(fr*cg W)≤l.length→2*f+2≤cp:=fun l hl f u=>hmany f (Nat.le_trans u hl)
 have keepG:∀{C:aa},A.size≤C.size→(∀b,X b→b≠sb→b≠lb→C[b]?=A[b]?)→ag C gb ti (kA p sb n bs wf col tu keys ba fr false none (Sl.mk none 0 0))∧Ints .i64 C tu tl:=fun {C} hz hs=>
  ⟨hgr.mod (F:=fun b=>¬(X b∧b≠sb∧b≠lb)) ⟨hz,fun b _ hb=>by have:=Classical.not_not.1 hb;exact hs b this.1 this.2.1 this.2.2⟩ fun u=>u ⟨hX.1,hne.1,hne.2⟩,
   htu.mod (F:=fun b=>¬(X b∧b≠sb∧b≠lb)) ⟨hz,fun b _ hb=>by have:=Classical.not_not.1 hb;exact hs b this.1 this.2.1 this.2.2⟩ fun ad ha u=>u ⟨(htX ad ha).1,(htX ad ha).2.2.1,(htX ad ha).2.2.2⟩⟩
 refine⟨fun _ C=>∃m x y,m≤1+rl.length*3000∧x≤1+rl.length*400010∧y≤rl.length*805000∧CX H0 C X k p dp n W fr Q mo (rl.map (bV · tl)) m x y∧ag C sb qB (lv W (nE lb wb) 0 .nilIface false true)∧(∀b,X b→b≠sb→b≠lb→C[b]?=A[b]?)∧A.size≤C.size,?_,?_⟩
 ·refine aB rl.length (fun j _ C=>∃m x y s',m≤1+j*3000∧x≤1+j*400010∧y≤j*805000∧CX H0 C X k p dp n W fr Q mo ((rl.take j).map (bV · tl)) m x y∧jC (fun b=>¬X b∨b=sb∨b=lb) C sb lb wb W false s' (rl.drop j)∧(∀b,X b→b≠sb→b≠lb→C[b]?=A[b]?)∧A.size≤C.size) ⟨1,1,0,ss,by omega,by omega,by omega,hS,src.others hX.2 hx eB.size fun b hb=>eB.same b (hx b hb) id,fun b hb _ _=>eB.same b (hx b hb) id,eB.size⟩ ?_
  rintro j _ C next hj ⟨m,x,y,s',hm,hxx,hy,hSC,hF,hs,hz⟩ hnext
  obtain⟨gC,tC⟩:=keepG hz hs
  have hjl:((rl.take j).map (bV · tl)).length=j:=by rw[List.length_map,List.length_take];omega
  refine ag.ld (c:=ar) (i:=2) (x:=aI sb) gC rfl ?_
  refine Bq hF (fun l r x1 D s2 el hF2 mD ix hxo=>?_) (fun el D hF2 mD=>?_)
  ·have hlt:j<rl.length:=by
    by_cases q:j<rl.length
    ·exact q
    ·rw[List.drop_of_length_le (by omega)] at el;cases el
   rw[List.drop_eq_getElem_cons hlt] at el
   obtain⟨e1,e2⟩:=List.cons.inj el
   subst e1;subst e2
   have hlD:∀b,X b→b<D.size:=fun b hb=>Nat.lt_of_lt_of_le (hSC.lt b hb) mD.size
   have hSD:=hSC.move (X':=X) mD (fun b u=>u▸⟨hX.2.2,hgo.2.2⟩) fun b hb=>⟨.inl hb,hlD b hb⟩
   have hsD:∀b,X b→b≠sb→b≠lb→D[b]?=A[b]?:=fun b hb n1 n2=>(mD.same b (hSC.lt b hb) n2).trans (hs b hb n1 n2)
   have zD:=mD.size
   obtain⟨gD,tD⟩:=keepG (by omega) hsD
   obtain⟨t1,t2,t3⟩:=hturn _ (List.getElem_mem hlt)
   refine⟨fun z L=>z.2=0∧Ints .u64 L z.1 (bV rl[j] tl)∧Ext D L,?_,?_⟩
   ·refine aZ rfl ?_
    refine ag.ld (c:=an) (i:=6) (x:=tu) gD rfl ?_
    refine th ix tD (by omega) fun t L oL eL=>⟨t1,au.ints oL,eL⟩
   rintro⟨t,e0⟩ L ⟨h0,it,eL⟩
   simp only at h0 it
   subst h0
   have zL:=eL.size
   have hSL:=hSD.move (X':=X) eL (fun b u=>u.elim) fun b hb=>⟨.inl hb,by have:=hlD b hb;omega⟩
   have ell:((rl.take j).map (bV · tl)++[bV rl[j] tl]).length≤rl.length:=by rw[List.length_append,hjl];simp;omega
   refine⟨fun z M=>z=0∧CX H0 M X k p dp n W fr Q mo ((rl.take j).map (bV · tl)++[bV rl[j] tl]) (m+(3*(((rl.take j).map (bV · tl)).length+1)+300)) (x+400010) (y+805000)∧(∀b,X b→M[b]?=L[b]?)∧L.size≤M.size,?_,?_⟩
   ·refine aZ rfl ?_
    exact hSL.add hg (hle _ ell) it t2 t3 (cap _ (by omega)) (by omega) (by omega) (by omega) fun M hM hsM zM=>⟨rfl,hM,hsM,zM⟩
   rintro _ M ⟨rfl,hM,hsM,zM⟩
   refine aA rfl (aA rfl ?_)
   rw[hjl] at hM
   have emap:(rl.take j).map (bV · tl)++[bV rl[j] tl]=(rl.take (j+1)).map (bV · tl):=by rw[List.take_succ_eq_append_getElem hlt,List.map_append];rfl
   rw[emap] at hM
   have hDM:∀b,X b→M[b]?=D[b]?:=fun b hb=>(hsM b hb).trans (eL.same b (hlD b hb) id)
   exact hnext hlt _ _ ⟨_,_,_,s2,by rw[Nat.succ_mul];omega,by rw[Nat.succ_mul];omega,by rw[Nat.succ_mul];omega,hM,hF2.others hX.2 hlD (by omega) hDM,fun b hb n1 n2=>(hDM b hb).trans (hsD b hb n1 n2),by omega⟩
  ·have hge:rl.length≤j:=List.drop_eq_nil_iff.1 el
   have zD:=mD.size
   have hlD:∀b,X b→b<D.size:=fun b hb=>Nat.lt_of_lt_of_le (hSC.lt b hb) mD.size
   have hSD:=hSC.move (X':=X) mD (fun b u=>u▸⟨hX.2.1,hgo.2.1⟩) fun b hb=>⟨.inl hb,hlD b hb⟩
   rw[List.take_of_length_le hge] at hSD
   refine⟨fun z L=>z=(Sl.mk none 0 0,0)∧D=L,aA rfl ⟨rfl,rfl⟩,?_⟩
   rintro _ _ ⟨rfl,rfl⟩
   refine⟨fun z L=>z=0∧D=L,aA rfl ⟨rfl,rfl⟩,?_⟩
   rintro _ _ ⟨rfl,rfl⟩
   refine aA rfl (aZ rfl ?_)
   exact⟨m,x,y,KV hj hm,KV hj hxx,Ld hj hy,hSD,hF2.row,fun b hb n1 n2=>(mD.same b (hSC.lt b hb) n1).trans (hs b hb n1 n2),by omega⟩
 rintro _ C ⟨m,x,y,hm,hxx,hy,hSC,hrs,hs,hz⟩
 obtain⟨gC,tC⟩:=keepG hz hs
 have hlen:(rl.map (bV · tl)).length=rl.length:=List.length_map _
 refine hSC.done hg (hle _ (by omega)) (cap _ (by omega)) (by omega) (by omega) (by omega) fun F2 s2 M D hP hrun hrise honly hXD zD=>?_
 have ol:(ay (bp (rl.map (bV · tl)))).length≤(rl.map (bV · tl)).length:=dz _
 generalize ay (bp (rl.map (bV · tl)))=out at*
 refine aA rfl ?_
 have gD:ag D gb ti (kA p sb n bs wf col tu keys ba fr false none (Sl.mk none 0 0)):=gC.mod (F:=fun b=>¬X b) ⟨zD,fun b _ hb=>(hXD b (Classical.not_not.1 hb)).2⟩ fun u=>u hX.1
 have sD:ag D sb qB (lv W (nE lb wb) 0 .nilIface false true):=hrs.mod (F:=fun b=>¬X b) ⟨zD,fun b _ hb=>(hXD b (Classical.not_not.1 hb)).2⟩ fun u=>u hX.2.1
 refine ag.st gD (i:=10) (by simp[kA]) rfl fun E rE mE zE=>?_
 have gE:ag E gb ti (kA p sb n bs wf col tu keys ba fr true none (Sl.mk none 0 0)):=rE
 have sE:=sD.mod mE fun u=>hne.1 u.symm
 have hPE:cO H0 E F2 p dp s2 M Q _ mo 20000000000:=hP.aside (Ext.eJ hP.ext mE fun b u=>by omega) fun b hb=>mE.same b (hP.pool.lt b hb) fun u=>(hXD gb hX.1).1 (u▸hb)
 refine⟨Ext E,.refl _ _,?_⟩
 refine ag.jm (c:=ar) (i:=0) (x:=aI p) (cs:=fun _=>kA p sb n bs wf col tu keys ba fr true none (Sl.mk none 0 0)) (fun D hD=>gE.ext hD) (fun _ _=>rfl) ?_
 refine ag.jm (c:=bK) (i:=1) (x:=n) (cs:=fun _=>kA p sb n bs wf col tu keys ba fr true none (Sl.mk none 0 0)) (fun D hD=>gE.ext hD) (fun _ _=>rfl) ?_
 refine ag.ld (c:=ar) (i:=2) (x:=aI sb) gE rfl ?_
 refine mQ sE ⟨.refl _ _,?_⟩
 have hns:=(hle [] (Nat.zero_le _)).size.1
 refine hPE.FQ hg hrun (by omega) hns hQ (by omega) hW.2 (by decide) fun F' s' k' G hP' hrd hon S hk hF=>?_
 have hlE:∀b,X b→b<E.size:=fun b hb=>by have:=hSC.lt b hb;omega
 have hXF:∀b,X b→¬F' b∧¬nu k' dr [] b:=fun b hb=>by
  have:=hlE b hb
  refine⟨fun u=>?_,fun u=>?_⟩
  ·rcases S.own b u with v|v
   ·exact(hXD b hb).1 v
   ·omega
  ·rcases u with u|u|u
   ·omega
   ·exact bE b u
   ·obtain⟨x,hx,_⟩:=u;cases hx
 have sameG:∀b,X b→G[b]?=E[b]?:=fun b hb=>S.mod.same b (hlE b hb) (hXD b hb).1
 have gG:ag G gb ti (kA p sb n bs wf col tu keys ba fr true none (Sl.mk none 0 0)):=(sameG gb hX.1).trans gE
 refine ag.st gG (i:=11) (by simp[kA]) rfl fun L rL mL zL=>?_
 refine aA rfl ?_
 have zG:=S.mod.size
 have hkL:k'<G.size:=hrd.lt k' (.inl rfl)
 have hGr:AS H0 L X gb p dp sb n bs tu ba wf col keys fr W Q mo out 0 1 (Sl.mk none 0 0):=by
  refine⟨⟨F',s',M,_,k',_,dr,[],(hP'.aside (Ext.eJ hP'.ext mL fun b u=>by omega) fun b hb=>mL.same b (hP'.pool.lt b hb) fun u=>(hXF gb hX.1).1 (u▸hb)).xl (by omega),hrd.mod mL fun b hb u=>(hXF gb hX.1).2 (u▸hb),fun b hb u=>?_,hrun,honly,hon,rfl,by have:=hP.ext.size;omega,rL,hXF⟩,fun b hb=>by have:=hlE b hb;omega,hX.1,hgo.1⟩
  rcases u with u|u|u
  ·exact hF (u▸hb)
  ·exact bE b u
  ·obtain⟨x,hx,_⟩:=u;cases hx
 have base:∀b,X b→b≠gb→b≠sb→b≠lb→L[b]?=A[b]?:=fun b hb n0 n1 n2=>by
  have:=hlE b hb
  rw[mL.same b (by omega) n0,sameG b hb,mE.same b (by have:=hSC.lt b hb;omega) n0,(hXD b hb).2,hs b hb n1 n2]
 refine Ay hGr hg hrise hW (by omega) hns hQ (by omega) (fun hj x B hB ox hxn hsB zB=>?_) fun hj B hB hsB zB=>?_
 ·exact hK 1 x B hB (.inr ⟨rfl,hj,ox⟩) hrise (fun b hb n0 n1 n2=>(hsB b hb n0).trans (base b hb n0 n1 n2)) (fun b hb=>by have:=hxn b hb;omega) (by omega)
 ·have e0:out=[]:=List.length_eq_zero_iff.1 hj.symm
  refine hK 0 _ B (hB.move (Y:=fun _=>False) (Mod.refl _ _) (fun _ u=>u.elim) (fun b hb=>?_) (.inl hX.1)) (.inl ⟨rfl,e0,rfl⟩) hrise (fun b hb n0 n1 n2=>(hsB b hb n0).trans (base b hb n0 n1 n2)) (fun b hb=>absurd hb (bE b)) (by omega)
  rcases hb with hb|⟨_,q,_⟩
  ·exact⟨.inl hb,hB.lt b hb⟩
  ·cases q
end
theorem sU:zc Tryz.prog jd=#[.int .i64 0,.int .i64 0]:=by kernel_rfl
section
variable {H:aa} {a b w:Int} {K:(Int×Int)→aa→Prop}
theorem zj [Tab] (h:0≤a∧a<1000000) (hK:∀B,Ext H B→K (Ck (a,b) w) B):Fq.sp a b w H K:=by
 refine Fq.of ?_
 unfold Fq.vc
 refine ak fun H1 z1 r1 e1=>?_
 refine ak fun H2 z2 r2 e2=>?_
 rw[sU] at r2
 have q1:=r1.ext e2
 refine ag.ld (c:=ab .i64) (i:=0) (x:=a) q1 rfl ?_
 refine ag.ld (c:=ab .i64) (i:=0) (x:=a) q1 rfl ?_
 rw[wrap64 (by omega) (by omega)]
 refine dS (b:=H1.size) (o:=0) (t:=jd) r2 (by kernel_rfl) (by simp) (by intro v hv;simp at hv;subst hv;rfl) fun H3 r3 m3 s3=>?_
 refine ag.db (c:=bq [(ab .i64),(ab .i64)]) (x:=(a+1,a+1)) r3 rfl rfl ?_
 exact hK H3 (Ext.eJ (e1.trans e2) m3 fun b u=>by omega)
theorem Cu [Tab] (h:0≤a∧a<1000000) (hK:∀B,Ext H B→K (CI (a,b) w) B):Fu.sp a b w H K:=by
 refine Fu.of ?_
 unfold Fu.vc
 refine ak fun H1 z1 r1 e1=>?_
 refine ak fun H2 z2 r2 e2=>?_
 rw[sU] at r2
 have q1:=r1.ext e2
 refine ag.ld (c:=ab .i64) (i:=0) (x:=a) q1 rfl ?_
 refine ag.ld (c:=ab .i64) (i:=1) (x:=b) q1 rfl ?_
 rw[show IntKind.i64.wrap (a+(1:Int))=a+1 from wrap64 (by omega) (by omega)]
 refine dS (b:=H1.size) (o:=0) (t:=jd) r2 (by kernel_rfl) (by simp) (by intro v hv;simp at hv;rcases hv with rfl|rfl<;>rfl) fun H3 r3 m3 s3=>?_
 refine ag.db (c:=bq [(ab .i64),(ab .i64)]) (x:=(a+1,yv (b+w))) r3 rfl rfl ?_
 exact hK H3 (Ext.eJ (e1.trans e2) m3 fun b u=>by omega)
theorem Cm [Tab] (h:0≤a∧a<1000000) (hK:∀B,Ext H B→K (gM (a,b) w) B):Fz.sp a b w H K:=by
 refine Fz.of ?_
 unfold Fz.vc
 refine ak fun H1 z1 r1 e1=>?_
 refine ak fun H2 z2 r2 e2=>?_
 rw[sU] at r2
 have q1:=r1.ext e2
 have hs:IntKind.i64.wrap (a+(1:Int))=a+1:=wrap64 (by omega) (by omega)
 have fin:∀{x:Int} {A:aa},ag A H.size jd #[.int .i64 a,.int .i64 x]→ag A H1.size jd #[.int .i64 0,.int .i64 0]→Ext H A→(∀B,Ext H B→K (a+1,x) B)→ld (ab .i64) A (Addr.add ⟨H.size,0,none⟩ 0) fun(x_4:Int)=>st A (Addr.add ⟨H.size,0,none⟩ 0) (.int .i64 (IntKind.i64.wrap (x_4+(1:Int)))) fun H7=>db (bq [(ab .i64),(ab .i64)]) 2 H7 ⟨H.size,0,none⟩ fun(x_5:(Int×Int))=>iI Tryz.prog (Instr.storeAt jd (.pointer (some ⟨H1.size,0,none⟩)) (.agg #[(.int .i64 x_5.1),(.int .i64 x_5.2)])) H7 fun H8=>db (bq [(ab .i64),(ab .i64)]) 2 H8 ⟨H1.size,0,none⟩ fun(res_1:(Int×Int))=>K (res_1.1,res_1.2) H8:=fun {x A} rA rB eA hk=>by
  refine ag.ld (c:=ab .i64) (i:=0) (x:=a) rA rfl ?_
  rw[hs]
  refine ag.st rA (i:=0) (by simp) rfl fun B r3 m3 s3=>?_
  have r3':ag B H.size jd #[.int .i64 (a+1),.int .i64 x]:=r3
  refine ag.db (c:=bq [(ab .i64),(ab .i64)]) (x:=(a+1,x)) r3' rfl rfl ?_
  have rB':=rB.mod m3 fun u=>by omega
  refine dS (b:=H1.size) (o:=0) (t:=jd) rB' (by kernel_rfl) (by simp) (by intro v hv;simp at hv;rcases hv with rfl|rfl<;>rfl) fun C r4 m4 s4=>?_
  refine ag.db (c:=bq [(ab .i64),(ab .i64)]) (x:=(a+1,x)) r4 rfl rfl ?_
  exact hk C (Ext.eJ (Ext.eJ eA m3 fun b u=>by omega) m4 fun b u=>by omega)
 have e12:Ext H H2:=e1.trans e2
 have e0:gM (a,b) w=(a+1,if a=0∨w<b then w else b):=rfl
 rw[e0] at hK
 refine ag.ld (c:=ab .i64) (i:=0) (x:=a) q1 rfl ?_
 refine aj (fun h0=>?_) (fun h0=>?_)
 ·have h1:a=0:=by simpa using h0
  refine ag.st q1 (i:=1) (by simp) rfl fun A rA mA zA=>?_
  rw[if_pos (.inl h1)] at hK
  exact fin (x:=w) rA (r2.mod mA fun u=>by omega) (Ext.eJ e12 mA fun b u=>by omega) hK
 ·have h1:a≠0:=by simpa using h0
  refine ag.ld (c:=ab .i64) (i:=1) (x:=b) q1 rfl ?_
  refine aj (fun h2=>?_) (fun h2=>?_)
  ·have h3:w<b:=by simpa using h2
   refine ag.st q1 (i:=1) (by simp) rfl fun A rA mA zA=>?_
   rw[if_pos (.inr h3)] at hK
   exact fin (x:=w) rA (r2.mod mA fun u=>by omega) (Ext.eJ e12 mA fun b u=>by omega) hK
  ·have h3:¬w<b:=by simpa using h2
   rw[if_neg (not_or.2 ⟨h1,h3⟩)] at hK
   exact fin (x:=b) q1 r2 e12 hK
theorem Dc [Tab] (h:0≤a∧a<1000000) (hK:∀B,Ext H B→K (gU (a,b) w) B):FC.sp a b w H K:=by
 refine FC.of ?_
 unfold FC.vc
 refine ak fun H1 z1 r1 e1=>?_
 refine ak fun H2 z2 r2 e2=>?_
 rw[sU] at r2
 have q1:=r1.ext e2
 have hs:IntKind.i64.wrap (a+(1:Int))=a+1:=wrap64 (by omega) (by omega)
 have fin:∀{x:Int} {A:aa},ag A H.size jd #[.int .i64 a,.int .i64 x]→ag A H1.size jd #[.int .i64 0,.int .i64 0]→Ext H A→(∀B,Ext H B→K (a+1,x) B)→ld (ab .i64) A (Addr.add ⟨H.size,0,none⟩ 0) fun(x_4:Int)=>st A (Addr.add ⟨H.size,0,none⟩ 0) (.int .i64 (IntKind.i64.wrap (x_4+(1:Int)))) fun H7=>db (bq [(ab .i64),(ab .i64)]) 2 H7 ⟨H.size,0,none⟩ fun(x_5:(Int×Int))=>iI Tryz.prog (Instr.storeAt jd (.pointer (some ⟨H1.size,0,none⟩)) (.agg #[(.int .i64 x_5.1),(.int .i64 x_5.2)])) H7 fun H8=>db (bq [(ab .i64),(ab .i64)]) 2 H8 ⟨H1.size,0,none⟩ fun(res_1:(Int×Int))=>K (res_1.1,res_1.2) H8:=fun {x A} rA rB eA hk=>by
  refine ag.ld (c:=ab .i64) (i:=0) (x:=a) rA rfl ?_
  rw[hs]
  refine ag.st rA (i:=0) (by simp) rfl fun B r3 m3 s3=>?_
  have r3':ag B H.size jd #[.int .i64 (a+1),.int .i64 x]:=r3
  refine ag.db (c:=bq [(ab .i64),(ab .i64)]) (x:=(a+1,x)) r3' rfl rfl ?_
  have rB':=rB.mod m3 fun u=>by omega
  refine dS (b:=H1.size) (o:=0) (t:=jd) rB' (by kernel_rfl) (by simp) (by intro v hv;simp at hv;rcases hv with rfl|rfl<;>rfl) fun C r4 m4 s4=>?_
  refine ag.db (c:=bq [(ab .i64),(ab .i64)]) (x:=(a+1,x)) r4 rfl rfl ?_
  exact hk C (Ext.eJ (Ext.eJ eA m3 fun b u=>by omega) m4 fun b u=>by omega)
 have e12:Ext H H2:=e1.trans e2
 have e0:gU (a,b) w=(a+1,if a=0∨w>b then w else b):=rfl
 rw[e0] at hK
 refine ag.ld (c:=ab .i64) (i:=0) (x:=a) q1 rfl ?_
 refine aj (fun h0=>?_) (fun h0=>?_)
 ·have h1:a=0:=by simpa using h0
  refine ag.st q1 (i:=1) (by simp) rfl fun A rA mA zA=>?_
  rw[if_pos (.inl h1)] at hK
  exact fin (x:=w) rA (r2.mod mA fun u=>by omega) (Ext.eJ e12 mA fun b u=>by omega) hK
 ·have h1:a≠0:=by simpa using h0
  refine ag.ld (c:=ab .i64) (i:=1) (x:=b) q1 rfl ?_
  refine aj (fun h2=>?_) (fun h2=>?_)
  ·have h3:w>b:=by simpa using h2
   refine ag.st q1 (i:=1) (by simp) rfl fun A rA mA zA=>?_
   rw[if_pos (.inr h3)] at hK
   exact fin (x:=w) rA (r2.mod mA fun u=>by omega) (Ext.eJ e12 mA fun b u=>by omega) hK
  ·have h3:¬w>b:=by simpa using h2
   rw[if_neg (not_or.2 ⟨h1,h3⟩)] at hK
   exact fin (x:=b) q1 r2 e12 hK
def fU (op:Int):Way:=if op=9 then Ck else if op=10 then CI else if op=11 then gM else gU
set_option maxRecDepth 100000 in
theorem y9 [Tab] {op:Int} (ho:op=9∨op=10∨op=11∨op=12) (h:0≤a∧a<1000000) (hK:∀B,Ext H B→K (fU op (a,b) w) B):jG (bq [(ab .i64),(ab .i64)]) Tryz.prog (ki op) [(.agg #[(.int .i64 a),(.int .i64 b)]),(.int .i64 w)] H K:=by
 rcases ho with q|q|q|q<;>subst q
 ·exact kJ #[(.agg #[(.int .i64 a),(.int .i64 b)]),(.int .i64 w)] rfl (by kernel_rfl) (zj h hK)
 ·exact kJ #[(.agg #[(.int .i64 a),(.int .i64 b)]),(.int .i64 w)] rfl (by kernel_rfl) (Cu h hK)
 ·exact kJ #[(.agg #[(.int .i64 a),(.int .i64 b)]),(.int .i64 w)] rfl (by kernel_rfl) (Cm h hK)
 ·exact kJ #[(.agg #[(.int .i64 a),(.int .i64 b)]),(.int .i64 w)] rfl (by kernel_rfl) (Dc h hK)
end
theorem CC {f:Way} {w:List Int→Int} {key:List Int→List Int} (r:List Int) (rs:List (List Int)):jM f w key (r::rs)=tt f w key r (0,0) (r::rs):=by
 show tt f w key r (f (0,0) (w r)) rs=_
 conv=>rhs;unfold tt
 rw[if_pos rfl]
theorem Ef {f:Way} {w:List Int→Int} {key:List Int→List Int} {first r:List Int} {t:Int×Int} (rs:List (List Int)) (h:key r=key first):tt f w key first t (r::rs)=tt f w key first (f t (w r)) rs:=by
 conv=>lhs;unfold tt
 rw[if_pos h]
theorem BE {f:Way} {w:List Int→Int} {key:List Int→List Int} {first r:List Int} {t:Int×Int} (rs:List (List Int)) (h:key r≠key first):tt f w key first t (r::rs)=(key first++[ja t.2])::jM f w key (r::rs):=by
 conv=>lhs;unfold tt
 rw[if_neg h]
 rfl
section
variable {H0 A:aa} {X:Nat→Prop} {gb p dp sb:Nat} {n:ByteArray} {bs tu ba nx:Sl} {wf:Value} {col keys fr:Int} {W Q mo:Nat} {rs rem:List (List Int)} {j c:Nat}
structure wo [Tab] (H0 A:aa) (X:Nat→Prop) (gb p dp sb:Nat) (n:ByteArray) (bs tu ba:Sl) (wf:Value) (col keys fr:Int) (W Q mo:Nat) (rs:List (List Int)) (j c:Nat) (nx:Sl) (rem:List (List Int)):Prop where
 d:AS H0 A X gb p dp sb n bs tu ba wf col keys fr W Q mo rs j c nx
 at_:(nx=Sl.mk none 0 0∧rem=[]∧j=rs.length)∨(1≤j∧j≤rs.length∧rem=rs.drop (j - 1)∧au A 0 fx 1 nx ((rs.getD (j - 1) []).map (Value.int .u64))∧(∀b,ai nx b→X b∧b≠gb))
theorem wo.pull [Tab] {r:List Int} {rest:List (List Int)} {K:Int→aa→Prop} (h:wo H0 A X gb p dp sb n bs tu ba wf col keys fr W Q mo rs j c nx (r::rest)) (hg:Gl H0) (hr:fR W rs) (hW:1≤W∧W≤16) (hbig:rs.length≤1000000) (hs:n.size≤9223372036854775807) (hQ:Q≤1048576) (hc:c≤1000000)
  (hK:∀j' nx' X' B,wo H0 B X' gb p dp sb n bs tu ba wf col keys fr W Q mo rs j' (c+1) nx' rest→(∀b,X b→X' b)→(∀b,X' b→X b∨A.size≤b)→(∀b,X b→b≠gb→B[b]?=A[b]?)→A.size≤B.size→K 0 B):Et.sp (aI gb) A K:=by
 rcases h.at_ with ⟨_,q,_⟩|⟨j1,j2,er,ow,ox⟩
 ·cases q
 have hlt:j - 1<rs.length:=by omega
 rw[List.drop_eq_getElem_cons hlt] at er
 have e2:rest=rs.drop j:=by
  have:=(List.cons.inj er).2
  rw[this];congr 1;omega
 refine Ay h.d hg hr hW hbig hs hQ hc (fun hj x B hB ob hx hsB zB=>?_) fun hj B hB hsB zB=>?_
 ·refine hK (j+1) x _ B ⟨hB,.inr ⟨by omega,by omega,by rw[e2];rfl,?_,fun b hb=>⟨.inr hb,fun u=>by have:=hx b hb;have:=h.d.lt gb h.d.gb.1;omega⟩⟩⟩ (fun b hb=>.inl hb) (fun b hb=>hb.imp id (hx b)) hsB zB
  have e3:rs.getD (j+1 - 1) []=rs[j]:=by simp[List.getD,List.getElem?_eq_getElem hj]
  rw[e3];exact ob
 ·refine hK j _ X B ⟨hB,.inl ⟨rfl,?_,hj⟩⟩ (fun b hb=>hb) (fun b hb=>.inl hb) hsB zB
  rw[e2];exact List.drop_of_length_le (by omega)
end
def iZ [Tab] (g:Option Addr) (H1:aa) (R:(Sl×Bool×Int)→aa→Prop):Prop:=
 ae g fun a_1=>ld an H1 (a_1.add 12) fun(x_1:Sl)=>br x_1.a.isNone (G9.sp g H1 fun(r:Int) H3=>R ((Sl.mk none 0 0),false,r) H3) (ae g fun a_2=>ld an H1 (a_2.add 12) fun(first:Sl)=>aD H1 (zc Tryz.prog jd) jd fun p H4=>cut Unit (fun J_1=>aC Unit () H4 fun next _ H6=>ae g fun a_3=>ld an H6 (a_3.add 12) fun(x_2:Sl)=>br (!x_2.a.isNone) (ae g fun a_4=>ld an H6 (a_4.add 12) fun(x_3:Sl)=>ae g fun a_5=>ld (ab .i64) H6 (a_5.add 7) fun(x_4:Int)=>(0≤x_4∧x_4≤(x_3.c:Int))∧ae g fun a_6=>ld (ab .i64) H6 (a_6.add 7) fun(x_5:Int)=>(0≤x_5∧x_5≤(first.c:Int))∧G6.sp (Sl.mk (dM x_3.a x_3.c 0 1) (x_4.toNat - 0) (x_3.c - 0)) (Sl.mk (dM first.a first.c 0 1) (x_5.toNat - 0) (first.c - 0)) H6 fun(r_1:Bool) H7=>br r_1 (cut Int (fun J_2=>ae g fun a_7=>ld (ab .i64) H7 (a_7.add 5) fun(x_6:Int)=>br (decide (x_6≥(0:Int))) (ae g fun a_8=>ld an H7 (a_8.add 12) fun(x_7:Sl)=>ae g fun a_9=>ld (ab .i64) H7 (a_9.add 5) fun(x_8:Int)=>ae x_7.a fun a_10=>(0≤x_8∧x_8<(x_7.n:Int))∧ld (ab .u64) H7 (a_10.add (x_8.toNat*1)) fun(w:Int)=>J_2 w H7) (J_2 (0:Int) H7)) fun(z_3:Int) H8=>ae g fun a_11=>ld eO H8 (a_11.add 4) fun(x_9:Value)=>db (bq [(ab .i64),(ab .i64)]) 2 H8 p fun(x_10:(Int×Int))=>jG (bq [(ab .i64),(ab .i64)]) Tryz.prog x_9 [(.agg #[(.int .i64 x_10.1),(.int .i64 x_10.2)]),(.int .i64 (IntKind.i64.wrap z_3))] H8 fun(r_2:(Int×Int)) H9=>iI Tryz.prog (Instr.storeAt jd (.pointer (some p)) (.agg #[(.int .i64 r_2.1),(.int .i64 r_2.2)])) H9 fun H10=>Et.sp g H10 fun(e_1:Int) H11=>br (e_1 !=(0:Int)) (R ((Sl.mk none 0 0),false,e_1) H11) (next () H11)) (J_1 () H7)) (J_1 () H6)) fun(_:Unit) H5=>ae g fun a_12=>ld an H5 (a_12.add 8) fun(x_11:Sl)=>Fk.sp first x_11 H5 fun(r_3:(Sl×Int)) H12=>ld (ab .i64) H12 (p.add 1) fun(x_12:Int)=>aD H12 #[(.int .u64 (IntKind.u64.wrap x_12))] fx fun p_1 H13=>bS an Tryz.prog (Builtin.append_ #[gw,gw] gw #[r_3.1.v,(.slice (some p_1) 1 1)]) H13 fun(s:Sl) H14=>R (s,true,(0:Int)) H14)
theorem qN [Tab] {g:Option Addr} {H:aa} {R:(Sl×Bool×Int)→aa→Prop} (h:cut Unit (fun J=>ae g fun a=>ld ar H (a.add 11) fun(x:Option Addr)=>br x.isNone (CQ.sp g H fun(e:Int) H2=>br (e !=(0:Int)) (R ((Sl.mk none 0 0),false,e) H2) (J () H2)) (J () H)) fun(_:Unit) H1=>iZ g H1 R):HA.sp g H R:=HA.of h
def aW (col:Int) (r:List Int):Int:=yv (if 0≤col then r.getD col.toNat 0 else 0)
theorem Db (op:Int) (t:Int×Int) (w:Int):(fU op t w).1=t.1+1:=by
 unfold fU Ck CI gM gU
 split
 ·rfl
 split
 ·rfl
 split<;>rfl
section
variable {H0 A B:aa} {X Y:Nat→Prop} {gb p dp sb:Nat} {n:ByteArray} {bs tu ba nx:Sl} {wf:Value} {op col keys fr:Int} {W Q mo kN:Nat} {rs rem:List (List Int)} {j c:Nat}
theorem wo.move [Tab] {X':Nat→Prop} (h:wo H0 A X gb p dp sb n bs tu ba wf col keys fr W Q mo rs j c nx rem) (mm:Mod Y A B) (hy:∀b,Y b→X b∧H0.size≤b∧b≠gb∧¬ai nx b) (hX:∀b,X b→X' b) (hx:∀b,X' b→(X b∨A.size≤b)∧b<B.size):wo H0 B X' gb p dp sb n bs tu ba wf col keys fr W Q mo rs j c nx rem:=by
 obtain⟨d,a⟩:=h
 refine⟨d.move mm (fun b hb=>⟨(hy b hb).1,(hy b hb).2.1,(hy b hb).2.2.1⟩) hx (hX gb d.gb.1),?_⟩
 rcases a with a|⟨a1,a2,a3,a4,a5⟩
 ·exact .inl a
 ·exact .inr ⟨a1,a2,a3,a4.mod mm fun b hb u=>(hy b u).2.2.2 hb,fun b hb=>⟨hX b (a5 b hb).1,(a5 b hb).2⟩⟩
theorem wo.F8 [Tab] {r:List Int} {rest:List (List Int)} (h:wo H0 A X gb p dp sb n bs tu ba wf col keys fr W Q mo rs j c nx (r::rest)) (hr:fR W rs) (hW:1≤W):r∈rs∧nx.a≠none∧nx.n=W∧au A 0 fx 1 nx (r.map (Value.int .u64))∧(∀b,ai nx b→X b∧b≠gb)∧r.length=W:=by
 rcases h.at_ with ⟨_,q,_⟩|⟨j1,j2,er,ow,ox⟩
 ·cases q
 have hlt:j - 1<rs.length:=by omega
 rw[List.drop_eq_getElem_cons hlt] at er
 have e1:=(List.cons.inj er).1
 have e3:rs.getD (j - 1) []=rs[j - 1]:=by simp[List.getD,List.getElem?_eq_getElem hlt]
 rw[e3,←e1] at ow
 have hm:r∈rs:=e1▸List.getElem_mem hlt
 have hl:=hr.len r hm
 have h1:=ow.1
 rw[List.length_map,hl] at h1
 exact⟨hm,fun q=>by have:=au.JB ow q;omega,by omega,ow,ox,hl⟩
set_option maxHeartbeats 2000000 in
set_option maxRecDepth 100000 in
theorem wo.Ga [Tab] {r0:List Int} {rest:List (List Int)} {bkl:List Int} {K:(Sl×Bool×Int)→aa→Prop} (h:wo H0 A X gb p dp sb n bs tu ba (ki op) col (kN:Int) fr W Q mo rs j c nx (r0::rest)) (hg:Gl H0) (hr:fR W rs) (hW:1≤W∧W≤16) (hbig:rs.length≤1000) (hs:n.size≤9223372036854775807) (hQ:Q≤1048576) (hc:c+(r0::rest).length≤1000000) (hl:(r0::rest).length≤1000)
  (hop:op=9∨op=10∨op=11∨op=12) (hk:kN≤W) (hcol:col<(W:Int)) (hba:Ints .i64 A ba bkl) (hbX:∀ad,ba.a=some ad→X ad.block∧ad.block≠gb) (hbl:bkl.length≤1000) (hkey:bV r0 bkl=r0.take kN)
  (hK:∀s X' j' c' nx' rem' row B,wo H0 B X' gb p dp sb n bs tu ba (ki op) col (kN:Int) fr W Q mo rs j' c' nx' rem'→c'+rem'.length≤c+(r0::rest).length→rem'.length<(r0::rest).length→jM (fU op) (aW col) (List.take kN) (r0::rest)=row::jM (fU op) (aW col) (List.take kN) rem'→au B 0 fx 1 s (row.map (Value.int .u64))→(∀b,ai s b→A.size≤b∧X' b)→(∀b,X b→X' b)→(∀b,X' b→X b∨A.size≤b)→(∀b,X b→b≠gb→B[b]?=A[b]?)→A.size≤B.size→row.length≤17→K (s,true,0) B):iZ (aI gb) A K:=by
 obtain⟨hm0,nn,nn2,ow,ox,hl0⟩:=h.F8 hr hW.1
 obtain⟨kr,row⟩:=h.d.row
 have hltA:=h.d.lt
 unfold iZ
 simp only[av,aI]
 refine ag.ld (c:=an) (i:=12) (x:=nx) row rfl ?_
 refine aA (by cases hq:nx.a with|none=>exact absurd hq nn|some _=>rfl) ?_
 refine ag.ld (c:=an) (i:=12) (x:=nx) row rfl ?_
 refine ak fun H4 z4 r4 e4=>?_
 rw[sU] at r4
 have h4:wo H0 H4 (fun b=>X b∨b=A.size) gb p dp sb n bs tu ba (ki op) col (kN:Int) fr W Q mo rs j c nx (r0::rest):=h.move e4 (fun b u=>u.elim) (fun b hb=>.inl hb) fun b hb=>by
  rcases hb with hb|hb
  ·exact⟨.inl hb,by have:=hltA b hb;omega⟩
  ·exact⟨.inr (by omega),by omega⟩
 have eH:=h.d.ext.size
 refine⟨fun _ B=>∃(X':Nat→Prop) (j' c':Nat) (nx':Sl) (t:Int×Int) (rem':List (List Int)),wo H0 B X' gb p dp sb n bs tu ba (ki op) col (kN:Int) fr W Q mo rs j' c' nx' rem'∧c'+rem'.length≤c+(r0::rest).length∧rem'.length<(r0::rest).length∧jM (fU op) (aW col) (List.take kN) (r0::rest)=(r0.take kN++[ja t.2])::jM (fU op) (aW col) (List.take kN) rem'∧ag B A.size jd #[.int .i64 t.1,.int .i64 t.2]∧(∀b,X b∨b=A.size→X' b)∧(∀b,X' b→X b∨A.size≤b)∧(∀b,X b→b≠gb→B[b]?=A[b]?)∧A.size<B.size,?_,?_⟩
 ·refine aB (r0::rest).length (fun k _ B=>∃(X':Nat→Prop) (j':Nat) (nx':Sl) (t:Int×Int),wo H0 B X' gb p dp sb n bs tu ba (ki op) col (kN:Int) fr W Q mo rs j' (c+k) nx' ((r0::rest).drop k)∧t.1=(k:Int)∧jM (fU op) (aW col) (List.take kN) (r0::rest)=tt (fU op) (aW col) (List.take kN) r0 t ((r0::rest).drop k)∧ag B A.size jd #[.int .i64 t.1,.int .i64 t.2]∧(∀b,X b∨b=A.size→X' b)∧(∀b,X' b→X b∨A.size≤b)∧(∀b,X b→b≠gb→B[b]?=A[b]?)∧A.size<B.size) ⟨_,j,nx,(0,0),h4,rfl,CC _ _,r4,fun b hb=>hb,fun b hb=>hb.imp id fun u=>by omega,fun b hb _=>e4.same b (hltA b hb) id,by omega⟩ ?_
  rintro k _ B next hk' ⟨X',j',nx',t,hS,ht,hG,rB,hXX,hXn,hsB,zB⟩ hnext
  obtain⟨kr',iu⟩:=hS.d.row
  refine ag.ld (c:=an) (i:=12) (x:=nx') iu rfl ?_
  cases ed:(r0::rest).drop k with
  |nil=>
    rw[ed] at hS hG
    have e0:nx'=Sl.mk none 0 0:=by
     rcases hS.at_ with ⟨q,_⟩|⟨j1,j2,er,_⟩
     ·exact q
     ·rw[List.drop_eq_getElem_cons (by omega)] at er;cases er
    subst e0
    refine aA rfl ?_
    refine⟨X',j',c+k,_,t,[],hS,by simp at hk' ⊢;omega,by simp,by rw[hG];rfl,rB,hXX,hXn,hsB,zB⟩
  |cons r rs'=>
    rw[ed] at hS hG
    obtain⟨hm,nn',n2',ow',ox',hl'⟩:=hS.F8 hr hW.1
    have hlt:k<(r0::rest).length:=by
     by_cases q:k<(r0::rest).length
     ·exact q
     ·rw[List.drop_of_length_le (by omega)] at ed;cases ed
    have ed2:(r0::rest).drop (k+1)=rs':=by rw[←List.tail_drop,ed];rfl
    have elen:(r0::rest).length=k+1+rs'.length:=by
     have:=congrArg List.length ed
     rw[List.length_drop,show (r::rs').length=rs'.length+1 from rfl] at this
     omega
    refine aZ (by cases hq:nx'.a with|none=>exact absurd hq nn'|some _=>rfl) ?_
    refine ag.ld (c:=an) (i:=12) (x:=nx') iu rfl ?_
    refine ag.ld (c:=ab .i64) (i:=7) (x:=(kN:Int)) iu rfl ?_
    have cap':=au.cap ow'
    have cap0:=au.cap ow
    refine⟨⟨by omega,by omega⟩,?_⟩
    refine ag.ld (c:=ab .i64) (i:=7) (x:=(kN:Int)) iu rfl ?_
    refine⟨⟨by omega,by omega⟩,?_⟩
    have owB:au B 0 fx 1 nx (r0.map (Value.int .u64)):=ow.aq fun b hb _=>hsB b (ox b hb).1 (ox b hb).2
    rw[iW,iW,Int.toNat_natCast,Nat.sub_zero]
    refine qV ((au.ints ow').front (by omega) _) ((au.ints owB).front (by omega) _) (by rw[List.length_take];omega) ?_
    refine aj (fun he=>?_) (fun he=>?_)
    ·have he:r.take kN=r0.take kN:=by simpa using he
     refine⟨fun z C=>B=C∧IntKind.i64.wrap z=aW col r,?_,?_⟩
     ·refine ag.ld (c:=ab .i64) (i:=5) (x:=col) iu rfl ?_
      refine aj (fun hc0=>?_) (fun hc0=>?_)
      ·have hc0:0≤col:=by simpa using hc0
       refine ag.ld (c:=an) (i:=12) (x:=nx') iu rfl ?_
       refine ag.ld (c:=ab .i64) (i:=5) (x:=col) iu rfl ?_
       refine fN (au.ints ow') (i:=col) (j:=col.toNat) (by omega) (by omega) fun ad _=>⟨rfl,?_⟩
       unfold aW;rw[if_pos hc0];rfl
      ·have hc0:¬0≤col:=by simpa using hc0
       refine⟨rfl,?_⟩
       unfold aW;rw[if_neg hc0];rfl
     rintro z _ ⟨rfl,hz⟩
     rw[hz]
     refine ag.ld (c:=eO) (i:=4) (x:=ki op) iu rfl ?_
     refine ag.db (c:=bq [(ab .i64),(ab .i64)]) (x:=t) rB rfl rfl ?_
     refine y9 hop (a:=t.1) (b:=t.2) (by omega) fun C eC=>?_
     have hlB:=hS.d.lt
     have hSC:=hS.move (X':=X') eC (fun b u=>u.elim) (fun b hb=>hb) fun b hb=>⟨.inl hb,by have:=hlB b hb;have:=eC.size;omega⟩
     refine dS (b:=A.size) (o:=0) (t:=jd) (rB.ext eC) (by kernel_rfl) (by simp) (by intro v hv;simp at hv;rcases hv with rfl|rfl<;>rfl) fun D rD mD zD=>?_
     have hXp:X' A.size:=hXX _ (.inr rfl)
     have hpg:A.size≠gb:=fun q=>by have:=hltA gb h.d.gb.1;omega
     have hpn:¬ai nx' A.size:=fun q=>by
      obtain⟨cur,q1⟩:=ow'.obj _ q
      have:B[A.size]?=some (.cells _ jd (0,0)):=rB
      rw[this] at q1
      have q2:jd=fx:=by simpa using congrArg (fun o=>match o with|some (Obj.cells _ t _)=>t|_=>0) q1
      revert q2;decide
     have hSD:=hSC.move (X':=X') mD (fun b u=>by subst u;exact⟨hXp,by omega,hpg,hpn⟩) (fun b hb=>hb) fun b hb=>⟨.inl hb,by have:=hlB b hb;have:=eC.size;omega⟩
     refine hSD.pull hg hr hW (by omega) hs hQ (by omega) fun j2 nx2 X2 E hSE hX2 hX3 hsE zE=>?_
     refine aA rfl ?_
     have rD':ag D A.size jd #[.int .i64 (fU op t (aW col r)).1,.int .i64 (fU op t (aW col r)).2]:=rD
     refine hnext hlt _ _ ⟨X2,j2,nx2,fU op t (aW col r),?_,?_,?_,(hsE _ hXp hpg).trans rD',fun b hb=>hX2 b (hXX b hb),?_,?_,?_⟩
     ·rw[ed2];exact hSE
     ·rw[Db,ht];omega
     ·rw[hG,ed2];exact Ef _ he
     ·intro b hb
      have:=mD.size;have:=eC.size
      rcases hX3 b hb with u|u
      ·exact hXn b u
      ·exact .inr (by omega)
     ·intro b hb hne
      have hbX:=hXX b (.inl hb)
      have hbA:=hltA b hb
      rw[hsE b hbX hne,mD.same b (by have:=eC.size;omega) (by omega),eC.same b (by omega) id]
      exact hsB b hb hne
     ·have:=eC.size;omega
    ·have he:r.take kN≠r0.take kN:=by simpa using he
     refine⟨X',j',c+k,nx',t,r::rs',hS,by rw[show (r::rs').length=rs'.length+1 from rfl];omega,?_,?_,rB,hXX,hXn,hsB,zB⟩
     ·rcases Nat.eq_zero_or_pos k with q|q
      ·subst q
       simp only[List.drop_zero,List.cons.injEq] at ed
       exact absurd (by rw[ed.1]) he
      ·rw[show (r::rs').length=rs'.length+1 from rfl];omega
     ·rw[hG];exact BE _ he
 rintro _ B ⟨X',j',c',nx',t,rem',hS,hcc,hrl,hG,rB,hXX,hXn,hsB,zB⟩
 obtain⟨kr',iu⟩:=hS.d.row
 refine ag.ld (c:=an) (i:=8) (x:=ba) iu rfl ?_
 have owB:au B 0 fx 1 nx (r0.map (Value.int .u64)):=ow.aq fun b hb _=>hsB b (ox b hb).1 (ox b hb).2
 have baB:Ints .i64 B ba bkl:=hba.mod (F:=fun b=>¬(X b∧b≠gb)) ⟨by omega,fun b _ hb=>by have:=Classical.not_not.1 hb;exact hsB b this.1 this.2⟩ fun ad ha u=>u (hbX ad ha)
 refine th (au.ints owB) baB (by omega) fun s C oC eC=>?_
 refine ag.ld (c:=ab .i64) (i:=1) (x:=t.2) (rB.ext eC) rfl ?_
 rw[hkey] at oC
 have on:=oC.1
 rw[List.length_map,List.length_take] at on
 have zC:=eC.size
 refine sM.push (base:=B.size) (s:=s) (v:=.int .u64 (IntKind.u64.wrap t.2)) oC rfl (by omega) (by omega) (by omega) ?_
 intro s' D n1 o1 m1 b1 _
 have bC:=oC.block
 have eD:Ext B D:=Ext.eJ eC m1 fun b u=>(bC b u).1
 have zD:=eD.size
 have hlB:=hS.d.lt
 have bD:=o1.block
 have ow2:∀b,ai s' b→B.size≤b:=fun b hb=>(bD b hb).1
 refine hK s' (fun b=>X' b∨ai s' b) j' c' nx' rem' _ D (hS.move eD (fun b u=>u.elim) (fun b hb=>.inl hb) fun b hb=>?_) hcc hrl hG ?_ (fun b hb=>⟨by have:=ow2 b hb;omega,.inr hb⟩) (fun b hb=>.inl (hXX b (.inl hb))) (fun b hb=>?_) (fun b hb hne=>(eD.same b (by have:=hltA b hb;omega) id).trans (hsB b hb hne)) (by omega) (by rw[List.length_append,List.length_take];simp;omega)
 ·rcases hb with hb|hb
  ·exact⟨.inl hb,by have:=hlB b hb;omega⟩
  ·exact⟨.inr (ow2 b hb),(bD b hb).2⟩
 ·rw[List.map_append]
  exact o1.Ar
 ·rcases hb with hb|hb
  ·exact hXn b hb
  ·exact .inr (by have:=ow2 b hb;omega)
end
section
variable {H0 A B:aa} {X Y:Nat→Prop} {gb p dp sb:Nat} {n:ByteArray} {bs tu ba nx:Sl} {wf:Value} {op col keys fr:Int} {W Q mo kN:Nat} {rs rem:List (List Int)} {j c:Nat}
theorem Fb [Tab] {K:Int→aa→Prop} (h:AS H0 A X gb p dp sb n bs tu ba wf col keys fr W Q mo rs j c nx) (hg:Gl H0)
  (hK:∀F' s' M' U' m' B,cO H0 B F' p dp s' M' Q U' mo m'→(∀a,M' a=none)→(∀b,X b→¬F' b)→(∀b,X b→b≠gb→B[b]?=A[b]?)→A.size≤B.size→K 0 B):G9.sp (aI gb) A K:=by
 obtain⟨⟨F,s,M,U,kr,r,si,srs,a1,a2,a3,a4,a5,a6,a7,a8,a9,a10⟩,lt,g1,g2⟩:=h
 refine G9.of ?_
 unfold G9.vc
 simp only[av,aI]
 refine ag.ld (c:=aw) (i:=10) (x:=true) a9 rfl ?_
 refine aA rfl ?_
 refine ag.st a9 (i:=10) (by simp[kA]) rfl fun B rB mB zB=>?_
 have rB':ag B gb ti (kA p sb n bs wf col tu keys ba fr false (aI kr) nx):=rB
 refine ag.ld (c:=ar) (i:=0) (x:=aI p) rB' rfl ?_
 refine ag.ld (c:=bK) (i:=1) (x:=n) rB' rfl ?_
 obtain⟨T,t1,_⟩:=a4.file
 have hPB:=a1.aside (Ext.eJ a1.ext mB fun b u=>by omega) fun b hb=>mB.same b (a1.pool.lt b hb) fun u=>(a10 gb g1).1 (u▸hb)
 refine hPB.FO hg t1 fun F' s' C hC S=>?_
 refine hK F' s' _ _ _ C hC (fun a=>?_) (fun b hb u=>?_) (fun b hb hne=>?_) (by have:=S.mod.size;omega)
 ·by_cases q:a=n
  ·rw[q];exact bm _ _ _
  ·rw[aK q];exact a5 a q
 ·have:=lt b hb
  rcases S.own b u with v|v
  ·exact(a10 b hb).1 v
  ·omega
 ·have:=lt b hb
  rw[S.mod.same b (by omega) (a10 b hb).1]
  exact mB.same b this hne
theorem wo.Hj [Tab] {K:(Sl×Bool×Int)→aa→Prop} (h:wo H0 A X gb p dp sb n bs tu ba wf col keys fr W Q mo rs j c nx []) (hg:Gl H0)
  (hK:∀F' s' M' U' m' B,cO H0 B F' p dp s' M' Q U' mo m'→(∀a,M' a=none)→(∀b,X b→¬F' b)→(∀b,X b→b≠gb→B[b]?=A[b]?)→A.size≤B.size→K (Sl.mk none 0 0,false,0) B):iZ (aI gb) A K:=by
 have e0:nx=Sl.mk none 0 0:=by
  rcases h.at_ with ⟨q,_⟩|⟨j1,j2,er,_⟩
  ·exact q
  ·rw[List.drop_eq_getElem_cons (by omega)] at er;cases er
 subst e0
 obtain⟨kr,row⟩:=h.d.row
 unfold iZ
 simp only[av]
 refine ag.ld (c:=an) (i:=12) (x:=Sl.mk none 0 0) row rfl ?_
 refine aZ rfl ?_
 exact Fb h.d hg hK
theorem cO.J1 [Tab] {F:Nat→Prop} {s:Pl} {M:bI} {Q U most m:Nat} {K:Sl→aa→Prop} (h:cO H0 A F p dp s M Q U most m) (hg:Gl H0) (hno:∀a,M a=none) (hK:∀l B,l.n=0→Ext A B→K l B):G0.sp (aI dp) A K:=by
 obtain⟨D,d1,_,_⟩:=al.gW (h.gl hg) h.pool
 refine Ha d1 fun l B o e _=>hK l B ?_ e
 have hn:=bc.n o (by decide)
 rw[hn]
 unfold Dk.list
 rw[if_neg (by rw[h.calm.told.up];simp),(List.mergeSort_perm _ _).length_eq,List.length_map]
 have h1:=h.calm.told.rR (ns:=[]) fun a x ha=>by rw[hno a] at ha;cases ha
 simpa using h1
end
structure GC where
 so:Nat
 gb:Nat
 p:Nat
 dp:Nat
 sb:Nat
 lb:Nat
 wb:Nat
 n:ByteArray
 bs:Sl
 tu:Sl
 ba:Sl
 op:Int
 col:Int
 fr:Nat
 W:Nat
 Q:Nat
 mo:Nat
 kN:Nat
 wd:Int
structure GC.Ok [Tab] (g:GC):Prop where
 op:g.op=9∨g.op=10∨g.op=11∨g.op=12
 W:1≤g.W∧g.W≤16
 k:g.kN≤g.W
 col:g.col<(g.W:Int)
 n:g.n.size≤9223372036854775807
 Q:g.Q≤1048576
 fr:3≤g.fr∧g.fr≤g.mo
 mo:8≤g.mo∧g.mo≤4096
def GC.KX (g:GC) (l:List (List Int)):List (List Int):=jM (fU g.op) (aW g.col) (List.take g.kN) l
structure GH (H0 A:aa) (X:Nat→Prop) (g:GC):Prop where
 row:ag A g.so qB (tR g.wd (yg g.gb) (Sl.mk none 0 0) 0 (nG g.gb) false false)
 ins:X g.so∧X g.gb∧X g.sb∧X g.lb
 ne:g.so≠g.gb∧g.so≠g.sb∧g.so≠g.lb∧g.gb≠g.sb∧g.gb≠g.lb
 old:H0.size≤g.so∧H0.size≤g.gb∧H0.size≤g.sb∧H0.size≤g.lb
 lt:∀b,X b→b<A.size
 back:∃bkl:List Int,au A 0 ig 1 g.ba (bkl.map (Value.int .i64))∧bkl.length≤1000∧(∀b,ai g.ba b→X b∧b≠g.so∧b≠g.gb∧b≠g.sb∧b≠g.lb)∧∀r:List Int,r.length=g.W→bV r bkl=r.take g.kN
def GM [Tab] (H0 A:aa) (X:Nat→Prop) (g:GC) (out:List (List Int)):Prop:=
 ∃rs rem j c nx,wo H0 A X g.gb g.p g.dp g.sb g.n g.bs g.tu g.ba (ki g.op) g.col (g.kN:Int) (g.fr:Int) g.W g.Q g.mo rs j c nx rem∧fR g.W rs∧rs.length≤800∧c+rem.length≤1000∧rem.length≤800∧out=g.KX rem
def GS (H0 A:aa) (X:Nat→Prop) (g:GC) (out:List (List Int)):Prop:=
 ∃F ss rl tl cp,Ext H0 A∧al F A g.p g.dp (vd (yo (g.Q:Int)) g.mo)∧(∀b,F b→H0.size≤b∧¬X b)∧ag A g.gb ti (kA g.p g.sb g.n g.bs (ki g.op) g.col g.tu (g.kN:Int) g.ba (g.fr:Int) false none (Sl.mk none 0 0))∧
     jC (fun b=>¬X b∨b=g.sb∨b=g.lb) A g.sb g.lb g.wb g.W false ss rl∧Ints .i64 A g.tu tl∧(∀ad,g.tu.a=some ad→X ad.block∧ad.block≠g.gb∧ad.block≠g.sb∧ad.block≠g.lb)∧tl.length≤1000∧
     (∀l∈rl,sd l tl=0∧(bV l tl).length=g.W∧fQ (bV l tl))∧rl.length≤800∧(∀all:List (List Int),all.length≤rl.length→jf g.n g.W g.fr g.Q cp all)∧(∀f,f*(g.fr*cg g.W)≤rl.length→2*f+2≤cp)∧
     out=g.KX (ay (bp (rl.map (bV · tl))))
theorem Dd {f:Way} {w:List Int→Int} {key:List Int→List Int}:∀{l:List (List Int)} {first:List Int} {t:Int×Int},tt f w key first t l≠[]
 |[],_,_=>by simp[tt]
 |r::rs,first,t=>by
   unfold tt
   split
   ·exact Dd
   ·simp
section
variable {H0 A B:aa} {X X' Y:Nat→Prop} {g:GC} {out:List (List Int)} {row:List Int}
theorem GH.go [Tab] (h:GH H0 A X g) (hX:∀b,X b→X' b) (hx:∀b,X' b→b<B.size) (hs:∀b,X b→b≠g.gb→b≠g.sb→b≠g.lb→B[b]?=A[b]?):GH H0 B X' g:=by
 obtain⟨r,i,ne,o,lt,bkl,b1,b2,b3,b4⟩:=h
 exact⟨(hs g.so i.1 ne.1 ne.2.1 ne.2.2.1).trans r,⟨hX _ i.1,hX _ i.2.1,hX _ i.2.2.1,hX _ i.2.2.2⟩,ne,o,hx,bkl,b1.aq fun b hb _=>hs b (b3 b hb).1 (b3 b hb).2.2.1 (b3 b hb).2.2.2.1 (b3 b hb).2.2.2.2,b2,fun b hb=>⟨hX b (b3 b hb).1,(b3 b hb).2⟩,b4⟩
theorem GM.um [Tab] {K:(Sl×Bool×Int)→aa→Prop} (h:GM H0 A X g (row::out)) (hg:Gl H0) (ok:g.Ok) (hh:GH H0 A X g)
  (hK:∀s X' B,GM H0 B X' g out→au B 0 fx 1 s (row.map (Value.int .u64))→(∀b,ai s b→A.size≤b∧X' b)→(∀b,X b→X' b)→(∀b,X' b→(X b∨A.size≤b)∧b<B.size)→(∀b,X b→b≠g.gb→B[b]?=A[b]?)→A.size≤B.size→K (s,true,0) B):iZ (aI g.gb) A K:=by
 obtain⟨rs,rem,j,c,nx,hS,hr,h1,h2,h3,ho⟩:=h
 obtain⟨bkl,b1,b2,b3,b4⟩:=hh.back
 cases rem with
 |nil=>cases ho
 |cons r0 rest=>
   obtain⟨hm0,nn,nn2,ow,ox,hl0⟩:=hS.F8 hr ok.W.1
   refine hS.Ga hg hr ok.W (by omega) ok.n ok.Q (by omega) (by omega) ok.op ok.k ok.col (au.ints b1) (fun ad ha=>?_) b2 (b4 r0 hl0) fun s X' j' c' nx' rem' row' B q1 q2 q3 q4 q5 q6 q7 q8 q9 q10 q11=>?_
   ·have:=b3 ad.block ⟨ad,ha,rfl⟩
    exact⟨this.1,this.2.2.1⟩
   ·have e:=ho.trans q4
    obtain⟨e1,e2⟩:=List.cons.inj e
    subst e1
    exact hK s X' B ⟨rs,rem',j',c',nx',q1,hr,h1,by omega,by omega,e2⟩ q5 q6 q7 (fun b hb=>⟨q8 b hb,q1.d.lt b hb⟩) q9 q10
theorem GM.AL [Tab] {K:(Sl×Bool×Int)→aa→Prop} (h:GM H0 A X g []) (hg:Gl H0)
  (hK:∀F' s' M' U' m' B,cO H0 B F' g.p g.dp s' M' g.Q U' g.mo m'→(∀a,M' a=none)→(∀b,X b→¬F' b)→(∀b,X b→b≠g.gb→B[b]?=A[b]?)→A.size≤B.size→K (Sl.mk none 0 0,false,0) B):iZ (aI g.gb) A K:=by
 obtain⟨rs,rem,j,c,nx,hS,hr,h1,h2,h3,ho⟩:=h
 cases rem with
 |nil=>exact hS.Hj hg hK
 |cons r0 rest=>exact absurd ho.symm (Dd)
theorem GM.asked [Tab] {K:aa→Prop} (h:GM H0 A X g out) (hK:K A) {R:Int→aa→Prop}:ae (aI g.gb) fun a=>ld ar A (a.add 11) fun(x:Option Addr)=>br x.isNone (CQ.sp (aI g.gb) A fun(e:Int) H2=>br (e !=(0:Int)) (R e H2) (K H2)) (K A):=by
 obtain⟨rs,rem,j,c,nx,hS,_⟩:=h
 obtain⟨kr,row⟩:=hS.d.row
 simp only[av]
 exact ag.ld (c:=ar) (i:=11) (x:=aI kr) row rfl (aA rfl hK)
theorem GS.asked [Tab] {K:aa→Prop} (h:GS H0 A X g out) (hg:Gl H0) (ok:g.Ok) (hh:GH H0 A X g) (hK:∀X' B,GM H0 B X' g out→GH H0 B X' g→(∀b,X b→X' b)→(∀b,X' b→X b∨A.size≤b)→(∀b,X b→b≠g.gb→b≠g.sb→b≠g.lb→B[b]?=A[b]?)→A.size≤B.size→K B) {R:Int→aa→Prop}:ae (aI g.gb) fun a=>ld ar A (a.add 11) fun(x:Option Addr)=>br x.isNone (CQ.sp (aI g.gb) A fun(e:Int) H2=>br (e !=(0:Int)) (R e H2) (K H2)) (K A):=by
 obtain⟨F,ss,rl,tl,cp,e,hp,ho,hgr,src,htu,htX,htl,hturn,hn,hle,hmany,hout⟩:=h
 simp only[av]
 refine ag.ld (c:=ar) (i:=11) (x:=none) hgr rfl (aZ rfl ?_)
 refine D5 hg e hp ho hh.lt hgr ⟨hh.ins.2.1,hh.ins.2.2.1,hh.ins.2.2.2⟩ ⟨hh.ne.2.2.2.1,hh.ne.2.2.2.2⟩ ⟨hh.old.2.1,hh.old.2.2.1,hh.old.2.2.2⟩ src htu htX htl hturn hn ok.W ok.fr ok.mo ok.Q hle hmany fun j x B hD hc hr hs hx hz=>?_
 have ol:=dz (rl.map (bV · tl))
 rw[List.length_map] at ol
 have hX':∀b,X b∨ai x b→X b∨A.size≤b:=fun b hb=>hb.imp id (hx b)
 have hh':GH H0 B (fun b=>X b∨ai x b) g:=hh.go (fun b hb=>.inl hb) hD.lt hs
 refine aA rfl (hK _ B ⟨ay (bp (rl.map (bV · tl))),ay (bp (rl.map (bV · tl))),j,2,x,⟨hD,?_⟩,hr,by omega,by omega,by omega,hout⟩ hh' (fun b hb=>.inl hb) hX' hs hz)
 rcases hc with ⟨c1,c2,c3⟩|⟨c1,c2,c3⟩
 ·exact .inl ⟨c3,c2,by rw[c1,c2];rfl⟩
 ·subst c1
  refine .inr ⟨by omega,c2,by simp,?_,fun b hb=>⟨.inr hb,fun u=>?_⟩⟩
  ·have e3:(ay (bp (rl.map (bV · tl)))).getD (1 - 1) []=(ay (bp (rl.map (bV · tl))))[0]:=by simp[List.getD,List.getElem?_eq_getElem c2]
   rw[e3];exact c3
  ·have:=hx b hb;have:=hh.lt _ hh.ins.2.1;omega
theorem wK:rp Tryz.prog Kt "Next"=some HA.no:=by kernel_rfl
theorem xU:bQ Tryz.prog HA.no=true:=by kernel_rfl
def GG [Tab] (H0 A:aa) (X:Nat→Prop) (g:GC) (out:List (List Int)):Prop:=GH H0 A X g∧(GS H0 A X g out∨GM H0 A X g out)
theorem GG.asked [Tab] {K:aa→Prop} (h:GG H0 A X g out) (hg:Gl H0) (ok:g.Ok) (hK:∀X' B,GM H0 B X' g out→GH H0 B X' g→(∀b,X b→X' b)→(∀b,X' b→X b∨A.size≤b)→(∀b,X b→b≠g.gb→b≠g.sb→b≠g.lb→B[b]?=A[b]?)→A.size≤B.size→K B) {R:Int→aa→Prop}:ae (aI g.gb) fun a=>ld ar A (a.add 11) fun(x:Option Addr)=>br x.isNone (CQ.sp (aI g.gb) A fun(e:Int) H2=>br (e !=(0:Int)) (R e H2) (K H2)) (K A):=by
 rcases h with ⟨hh,h|h⟩
 ·exact h.asked hg ok hh hK
 ·exact h.asked (hK X A h hh (fun b hb=>hb) (fun b hb=>.inl hb) (fun _ _ _ _ _=>rfl) (Nat.le_refl _))
set_option maxRecDepth 100000 in
theorem GG.um [Tab] {K:(Sl×Bool×Int)→aa→Prop} (h:GG H0 A X g (row::out)) (hg:Gl H0) (ok:g.Ok)
  (hK:∀s X' B,GH H0 B X' g→GM H0 B X' g out→au B 0 fx 1 s (row.map (Value.int .u64))→(∀b,ai s b→A.size≤b∧X' b)→(∀b,X b→X' b)→(∀b,X' b→X b∨A.size≤b)→(∀b,X b→b≠g.gb→b≠g.sb→b≠g.lb→B[b]?=A[b]?)→A.size≤B.size→K (s,true,0) B):yn.sp (aI g.so) A K:=by
 have hh0:=h.1
 refine px hh0.row (rK wK xU ?_)
 refine qN ⟨fun _ B=>∃X',GM H0 B X' g (row::out)∧GH H0 B X' g∧(∀b,X b→X' b)∧(∀b,X' b→X b∨A.size≤b)∧(∀b,X b→b≠g.gb→b≠g.sb→b≠g.lb→B[b]?=A[b]?)∧A.size≤B.size,?_,?_⟩
 ·exact h.asked hg ok (K:=fun B=>∃X',GM H0 B X' g (row::out)∧GH H0 B X' g∧(∀b,X b→X' b)∧(∀b,X' b→X b∨A.size≤b)∧(∀b,X b→b≠g.gb→b≠g.sb→b≠g.lb→B[b]?=A[b]?)∧A.size≤B.size) fun X' B a b c d e f=>⟨X',a,b,c,d,e,f⟩
 rintro _ B ⟨X1,m1,hh1,c1,d1,s1,z1⟩
 refine m1.um hg ok hh1 fun s X2 C m2 os fs c2 d2 s2 z2=>?_
 have hs:∀b,X b→b≠g.gb→b≠g.sb→b≠g.lb→C[b]?=A[b]?:=fun b hb n1 n2 n3=>(s2 b (c1 b hb) n1).trans (s1 b hb n1 n2 n3)
 have hh2:GH H0 C X2 g:=hh1.go c2 (fun b hb=>(d2 b hb).2) fun b hb n1 _ _=>s2 b hb n1
 refine⟨hh2.row,fun u=>by rcases u with u|u<;>simp at u,fun _ _=>?_⟩
 refine hK s X2 C hh2 m2 os (fun b hb=>⟨by have:=(fs b hb).1;omega,(fs b hb).2⟩) (fun b hb=>c2 b (c1 b hb)) (fun b hb=>?_) hs (by omega)
 rcases (d2 b hb).1 with u|u
 ·exact d1 b u
 ·exact .inr (by omega)
set_option maxRecDepth 100000 in
theorem GG.AL [Tab] {K:(Sl×Bool×Int)→aa→Prop} (h:GG H0 A X g []) (hg:Gl H0) (ok:g.Ok)
  (hK:∀F' s' M' U' m' B,cO H0 B F' g.p g.dp s' M' g.Q U' g.mo m'→(∀a,M' a=none)→ag B g.so qB (tR g.wd (yg g.gb) (Sl.mk none 0 0) 0 (nG g.gb) false true)→(∀b,X b→b≠g.so→b≠g.gb→b≠g.sb→b≠g.lb→B[b]?=A[b]?)→A.size≤B.size→K (Sl.mk none 0 0,false,0) B):yn.sp (aI g.so) A K:=by
 have hh0:=h.1
 refine px hh0.row (rK wK xU ?_)
 refine qN ⟨fun _ B=>∃X',GM H0 B X' g []∧GH H0 B X' g∧(∀b,X b→X' b)∧(∀b,X' b→X b∨A.size≤b)∧(∀b,X b→b≠g.gb→b≠g.sb→b≠g.lb→B[b]?=A[b]?)∧A.size≤B.size,?_,?_⟩
 ·exact h.asked hg ok (K:=fun B=>∃X',GM H0 B X' g []∧GH H0 B X' g∧(∀b,X b→X' b)∧(∀b,X' b→X b∨A.size≤b)∧(∀b,X b→b≠g.gb→b≠g.sb→b≠g.lb→B[b]?=A[b]?)∧A.size≤B.size) fun X' B a b c d e f=>⟨X',a,b,c,d,e,f⟩
 rintro _ B ⟨X1,m1,hh1,c1,d1,s1,z1⟩
 refine m1.AL hg fun F' s' M' U' m' C hP hno hXF s2 z2=>?_
 have rC:ag C g.so qB (tR g.wd (yg g.gb) (Sl.mk none 0 0) 0 (nG g.gb) false false):=(s2 g.so hh1.ins.1 hh1.ne.1).trans hh1.row
 refine⟨rC,fun _ D rD mD zD=>?_,fun _ u=>by cases u⟩
 have hX1:=hh1.ins.1
 refine hK F' s' M' U' m' D (hP.aside (Ext.eJ hP.ext mD fun b u=>by have:=hh1.old.1;omega) fun b hb=>mD.same b (hP.pool.lt b hb) fun u=>hXF _ hX1 (u▸hb)) hno rD (fun b hb n0 n1 n2 n3=>?_) (by omega)
 have hb1:=hh1.lt b (c1 b hb)
 rw[mD.same b (by omega) n0,s2 b (c1 b hb) n1,s1 b hb n1 n2 n3]
end
def fX (n:Nat):List Int:=(List.range n).map Int.ofNat
theorem ph [Tab] {l:List Int} {n:Nat} (h:n≤l.length):bV l (fX n)=l.take n∧sd l (fX n)=0:=by
 have ok:iM l (fX n)=true:=by
  unfold iM fX
  rw[List.all_eq_true]
  intro c hc
  obtain⟨i,hi,rfl⟩:=List.mem_map.1 hc
  have:=List.mem_range.1 hi
  simp;omega
 refine⟨?_,by unfold sd;rw[if_pos ok]⟩
 unfold bV
 rw[if_pos ok]
 unfold fX
 apply List.ext_getElem?
 intro i
 rw[List.map_map,List.getElem?_map,List.getElem?_take]
 by_cases hi:i<n
 ·rw[List.getElem?_range hi,if_pos hi,List.getElem?_eq_getElem (show i<l.length by omega)]
  simp[List.getD,List.getElem?_eq_getElem (show i<l.length by omega)]
 ·rw[List.getElem?_eq_none (by simp;omega),if_neg hi];rfl
structure zt (H:aa) (n sb W:Nat) (s:Sl) (rs:List Sl) (ls:List (List Int)):Prop where
 row:ag H sb qB (lv (W:Int) (nE (n+1) n) 0 .nilIface false false)
 cell:ag H (n+1) fG #[s.v]
 wid:ag H n ig #[.int .i64 (W:Int)]
 own:ax H (n+2) s rs ls
 low:∀b,(ai s b∨∃r∈rs,ai r b)→b<sb
 lo:n+2≤sb
 hi:sb<H.size
section
variable {H0 A B:aa} {X X' Y F:Nat→Prop} {g:GC} {out:List (List Int)} {row:List Int} {n sb W p dp Q mo fr cp kN:Nat} {s:Sl} {rs:List Sl} {rl:List (List Int)} {name:ByteArray} {by_:Sl} {bl:List Int} {op col cl:Int}
theorem zt.ext [Tab] (h:zt A n sb W s rs rl) (e:Ext A B):zt B n sb W s rs rl:=
 ⟨h.row.ext e,h.cell.ext e,h.wid.ext e,h.own.ext e,h.low,h.lo,by have:=e.size;have:=h.hi;omega⟩
theorem wC [Tab] {rows:Sl} {K:Option Addr→aa→Prop} (h:Rows A rows rl) (hn:rl.length≤1000) (hl:∀l∈rl,l.length≤1000)
  (hK:∀n sb s rs B,zt B n sb W s rs rl→Ext A B→n=A.size→K (aI sb) B):FF.sp rows (W:Int) A K:=by
 refine Hg h hn hl fun sb lb wb s rs B row cell wid own low eB hw hl lo hi=>?_
 subst hw;subst hl
 rw[if_neg (by omega)] at row
 exact hK A.size sb s rs B ⟨row,cell,wid,own,low,lo,hi⟩ eB rfl
theorem zt.from [Tab] (h:zt A n sb W s rs rl) (hc:∀l∈rl,l.length=W) (h1:X sb∧X (n+1)) (h2:∀b,n≤b→b<sb→X b→b=n+1):jC X A sb (n+1) n W false s rl:=by
 have lo:=h.lo
 obtain⟨b1,b2⟩:=h.own.block
 have off:∀b,(ai s b∨∃r∈rs,ai r b)→¬X b:=fun b hb u=>by
  have h3:=h.low b hb
  have h4:n+2≤b:=by
   rcases hb with hb|⟨r,hr,hb⟩
   ·exact(b1 b hb).1
   ·exact(b2 r hr b hb).1
  have:=h2 b (by omega) h3 u
  omega
 refine⟨h.row,h.cell,h.wid,⟨h.own.n,fun ad ha=>⟨(b1 _ ⟨ad,ha,rfl⟩).2,off _ (.inl ⟨ad,ha,rfl⟩)⟩,fun i hi=>?_⟩,h.own.out.cap,hc,⟨h1.1,h1.2,fun u=>by have:=h2 n (Nat.le_refl _) (by omega) u;omega⟩,by omega⟩
 have hir:i<rs.length:=by rw[h.own.len];exact hi
 obtain⟨ad,ha,hcell⟩:=h.own.out.reads.at (i:=i) (by simpa using hir)
 have hm:=List.getElem_mem hir
 exact⟨ad,rs[i],ha,by simpa using hcell,fun a ea=>⟨(b2 _ hm _ ⟨a,ea,rfl⟩).2,off _ (.inr ⟨_,hm,a,ea,rfl⟩)⟩,(h.own.row i _ _ (List.getElem?_eq_getElem hir) (List.getElem?_eq_getElem hi)).ints⟩
theorem uz [Tab] {K:(Option Addr×Int)→aa→Prop} (e:Ext H0 A) (hp:al F A p dp (vd (yo (Q:Int)) mo)) (hF:∀b,F b→H0.size≤b∧b<n) (src:zt A n sb W s rs rl) (hn0:H0.size≤n) (hb:Ints .i64 A by_ bl) (hbl:∀c∈bl,0≤c∧c<(W:Int)) (hl:bl.length≤100)
  (hop:op=9∨op=10∨op=11∨op=12) (hcol:op≠9→0≤col∧col<(W:Int)) (ht:dR bl W=fX W) (hi:yc (fX W) bl=fX kN) (hk:(dK bl).length=kN) (hkW:kN≤W) (hcl:(if op=9 then -1 else ((fX W).idxOf col:Int))=cl) (hclW:cl<(W:Int))
  (hW:1≤W∧W≤16) (h3:3≤fr∧fr≤mo) (h8:8≤mo∧mo≤4096) (hQ:Q≤1048576) (hn:rl.length≤800) (hfit:∀l∈rl,l.length=W∧fQ l)
  (hle:∀all:List (List Int),all.length≤rl.length→jf name W fr Q cp all) (hmany:∀f,f*(fr*cg W)≤rl.length→2*f+2≤cp)
  (hK:∀(g:GC) B,g.Ok→g.p=p∧g.dp=dp∧g.wd=bl.length+1→GG H0 B (fun b=>b<B.size∧¬F b) g (jM (fU op) (aW cl) (List.take kN) (ay (bp rl)))→Ext A B→A.size≤g.so→K (aI g.so,0) B):Fp.sp (aI p) name (aI sb) by_ op col (fr:Int) A K:=by
 refine DZ hp src.row hW hb hbl hl hop hcol ⟨by omega,by show fr≤mo;omega⟩ fun gb bs tu ba B rg rso otu oba eB hgb hB=>?_
 rw[ht,hcl,hk] at rg
 rw[ht] at otu oba
 rw[hi] at oba
 have src':=src.ext eB
 have zB:=eB.size
 have shi:=src.hi
 have slo:=src.lo
 have hXn:∀b,n≤b→b<B.size→b<B.size∧¬F b:=fun b h1 h2=>⟨h2,fun u=>by have:=(hF b u).2;omega⟩
 have hpB:=hp.ext eB
 have tyT:∀b,ai tu b→b≠B.size - 1:=fun b hb q=>by
  obtain⟨cur,h1⟩:=otu.obj b hb
  rw[q,rso] at h1
  simp at h1
  exact absurd h1.2 (by decide)
 have tyB:∀b,ai ba b→b≠B.size - 1:=fun b hb q=>by
  obtain⟨cur,h1⟩:=oba.obj b hb
  rw[q,rso] at h1
  simp at h1
  exact absurd h1.2 (by decide)
 have le0:=(hle [] (Nat.zero_le _))
 refine hK ⟨B.size - 1,gb,p,dp,sb,n+1,n,name,bs,tu,ba,op,cl,fr,W,Q,mo,kN,bl.length+1⟩ B ⟨hop,hW,hkW,hclW,le0.size.1,hQ,h3,h8⟩ ⟨rfl,rfl,rfl⟩ ⟨?_,.inl ?_⟩ eB (by show A.size≤B.size - 1;omega)
 ·refine⟨rso,⟨hXn _ (by show n≤B.size - 1;omega) (by show B.size - 1<B.size;omega),hXn _ (by show n≤gb;omega) (by show gb<B.size;omega),hXn _ (by show n≤sb;omega) (by show sb<B.size;omega),hXn _ (by show n≤n+1;omega) (by show n+1<B.size;omega)⟩,⟨by show B.size - 1≠gb;omega,by show B.size - 1≠sb;omega,by show B.size - 1≠n+1;omega,by show gb≠sb;omega,by show gb≠n+1;omega⟩,⟨by show H0.size≤B.size - 1;omega,by show H0.size≤gb;omega,by show H0.size≤sb;omega,by show H0.size≤n+1;omega⟩,fun b hb=>hb.1,fX kN,oba.Ar,by unfold fX;rw[List.length_map,List.length_range];omega,fun b hb=>?_,fun r hr=>(ph (by have:r.length=W:=hr;omega)).1⟩
  have h1:=oba.block b hb
  exact⟨hXn _ (by omega) h1.2,tyB b hb,by show b≠gb;omega,by show b≠sb;omega,by show b≠n+1;omega⟩
 ·refine⟨F,s,rl,fX W,cp,e.trans eB,hpB,fun b hb=>⟨(hF b hb).1,fun u=>u.2 hb⟩,rg,src'.from (fun l hl=>(hfit l hl).1) ⟨.inr (.inl rfl),.inr (.inr rfl)⟩ (fun b h1 h2 h3=>?_),au.ints otu,fun ad ha=>?_,by unfold fX;rw[List.length_map,List.length_range];omega,fun l hl=>?_,hn,hle,hmany,?_⟩
  ·rcases h3 with h3|h3|h3
   ·exact absurd (hXn b h1 (by omega)) h3
   ·exact absurd h3 (by show b≠sb;omega)
   ·exact h3
  ·have h1:=otu.block ad.block ⟨ad,ha,rfl⟩
   exact⟨hXn _ (by omega) h1.2,by show ad.block≠gb;omega,by show ad.block≠sb;omega,by show ad.block≠n+1;omega⟩
  ·obtain⟨h1,h2⟩:=hfit l hl
   obtain⟨t1,t2⟩:=ph (l:=l) (n:=W) (by omega)
   have t3:l.take W=l:=List.take_of_length_le (by omega)
   rw[t1,t3]
   exact⟨t2,h1,h2⟩
  ·have em:rl.map (bV · (fX W))=rl:=by
    conv=>rhs;rw[←List.map_id rl]
    refine List.map_congr_left fun l hl=>?_
    obtain⟨h1,h2⟩:=hfit l hl
    rw[(ph (l:=l) (n:=W) (by omega)).1]
    exact List.take_of_length_le (by omega)
   rw[em]
   rfl
theorem GH.write [Tab] (h:GH H0 A X g) (mm:Mod Y A B) (hy:∀b,Y b→∃cur,A[b]?=some (.cells cur gw (0,0))) (hX:∀b,X b→X' b) (hx:∀b,X' b→b<B.size):GH H0 B X' g:=by
 obtain⟨r,i,ne,o,lt,bkl,b1,b2,b3,b4⟩:=h
 refine⟨r.mod mm fun u=>?_,⟨hX _ i.1,hX _ i.2.1,hX _ i.2.2.1,hX _ i.2.2.2⟩,ne,o,hx,bkl,b1.mod mm fun b hb u=>?_,b2,fun b hb=>⟨hX b (b3 b hb).1,(b3 b hb).2⟩,b4⟩
 ·obtain⟨cur,q⟩:=hy _ u
  rw[r] at q
  simp at q
  exact absurd q.2 (by decide)
 ·obtain⟨cur,q⟩:=hy _ u
  obtain⟨cur',q'⟩:=b1.obj b hb
  rw[q'] at q
  simp at q
  exact absurd q.2 (by decide)
theorem GM.write [Tab] (h:GM H0 A X g out) (hW:1≤g.W) (mm:Mod Y A B) (hy:∀b,Y b→X b∧H0.size≤b∧∃cur,A[b]?=some (.cells cur gw (0,0))) (hX:∀b,X b→X' b) (hx:∀b,X' b→(X b∨A.size≤b)∧b<B.size):GM H0 B X' g out:=by
 obtain⟨rs,rem,j,c,nx,hS,hr,h1,h2,h3,ho⟩:=h
 obtain⟨kr,rg⟩:=hS.d.row
 refine⟨rs,rem,j,c,nx,hS.move mm (fun b hb=>⟨(hy b hb).1,(hy b hb).2.1,fun u=>?_,fun u=>?_⟩) hX hx,hr,h1,h2,h3,ho⟩
 ·obtain⟨cur,q⟩:=(hy b hb).2.2
  rw[u,rg] at q
  simp at q
  exact absurd q.2 (by decide)
 ·obtain⟨cur,q⟩:=(hy b hb).2.2
  cases rem with
  |nil=>
    rcases hS.at_ with ⟨q1,_⟩|⟨j1,j2,er,_⟩
    ·rw[q1] at u
     obtain⟨ad,e1,_⟩:=u
     cases e1
    ·rw[List.drop_eq_getElem_cons (by omega)] at er;cases er
  |cons r0 rest=>
    obtain⟨_,_,_,ow,_⟩:=hS.F8 hr hW
    obtain⟨cur',q'⟩:=ow.obj b u
    rw[q'] at q
    simp at q
    exact absurd q.2 (by decide)
set_option maxHeartbeats 1000000 in
theorem Eb [Tab] {most:Int} {K:(Sl×Int×Bool)→aa→Prop} (h:GG H0 A X g out) (hg:Gl H0) (ok:g.Ok) (hm:(out.length:Int)≤most) (ho:out.length≤1000) (hl:∀b,X b→b<A.size)
  (hK:∀F' s' M' U' m' s rs B,cO H0 B F' g.p g.dp s' M' g.Q U' g.mo m'→(∀a,M' a=none)→ax B A.size s rs out→K (s,0,true) B):Ii.sp (aI g.so) most A K:=by
 refine Ii.of ?_
 unfold Ii.vc
 have zA:=h.1.old.1
 have lo:=h.1.lt _ h.1.ins.1
 refine aB out.length (fun k z B=>z.2=(k:Int)∧∃X' rs,GG H0 B X' g (out.drop k)∧ax B A.size z.1 rs (out.take k)∧(∀b,(ai z.1 b∨∃r∈rs,ai r b)→X' b∧b≠g.so∧b≠g.gb∧b≠g.sb∧b≠g.lb)∧A.size≤B.size) ⟨rfl,X,[],h,ax.nil _ _,fun b hb=>?_,Nat.le_refl _⟩ ?_
 ·rcases hb with ⟨ad,q,_⟩|⟨r,hr,_⟩
  ·cases q
  ·cases hr
 rintro k ⟨s,i⟩ B next hk ⟨hi,X1,rs,hG,oR,hX1,zB⟩ hnext
 simp only at hi oR hX1 ⊢
 subst hi
 refine aZ (by simp;omega) ?_
 have hlt:k<out.length∨k=out.length:=by omega
 rcases hlt with hlt|hlt
 ·rw[List.drop_eq_getElem_cons hlt] at hG
  refine hG.um hg ok fun l X2 C hh2 m2 ol fl c2 d2 s2 z2=>?_
  refine aA rfl (aA rfl ?_)
  have oC:ax C A.size s rs (out.take k):=oR.mod (F:=fun b=>¬(X1 b∧b≠g.so∧b≠g.gb∧b≠g.sb∧b≠g.lb)) ⟨z2,fun b _ hb=>by have:=Classical.not_not.1 hb;exact s2 b this.1 this.2.2.1 this.2.2.2.1 this.2.2.2.2⟩ (fun b hb u=>u (hX1 b (.inl hb))) fun r hr b hb u=>u (hX1 b (.inr ⟨r,hr,hb⟩))
  obtain⟨bs1,bs2⟩:=oR.block
  have key:=oC.Ag (ty:=fG) (r:=l) (l:=out[k]) (ol.IM fun b hb=>by have:=(fl b hb).1;omega) (fun r' hr' b hb hb'=>by have:=(fl b hb).1;have:=(bs2 r' hr' b hb').2;omega) (by rw[oC.n,List.length_take];omega) (by omega)
   (K:=fun s' D=>next (s',IntKind.i64.wrap ((k:Int)+(1:Int))) D)
  refine key fun s' D n' oD mD fD=>?_
  have zD:=mD.size
  obtain⟨cs1,cs2⟩:=oD.block
  have hso:=hG.1.lt _ hG.1.ins.1
  have hgb:=hG.1.lt _ hG.1.ins.2.1
  have hsb:=hG.1.lt _ hG.1.ins.2.2.1
  have hlb:=hG.1.lt _ hG.1.ins.2.2.2
  have hXD:∀b,X2 b∨ai s' b→(X2 b∨C.size≤b)∧b<D.size:=fun b hb=>by
   rcases hb with hb|hb
   ·exact⟨.inl hb,by have:=hh2.lt b hb;omega⟩
   ·refine⟨?_,(cs1 b hb).2⟩
    rcases fD b hb with u|u
    ·exact .inl (c2 b (hX1 b (.inl u)).1)
    ·exact .inr u
  have hY:∀b,ai s b→X2 b∧H0.size≤b∧∃cur,C[b]?=some (.cells cur gw (0,0)):=fun b hb=>⟨c2 b (hX1 b (.inl hb)).1,by have:=(bs1 b hb).1;omega,oC.out.obj b hb⟩
  have etk:out.take k++[out[k]]=out.take (k+1):=by rw[List.take_add_one,List.getElem?_eq_getElem hlt];rfl
  rw[etk] at oD
  refine hnext hlt _ _ ⟨aP k (by omega),fun b=>X2 b∨ai s' b,rs++[l],⟨hh2.write mD (fun b hb=>(hY b hb).2.2) (fun b hb=>.inl hb) fun b hb=>(hXD b hb).2,.inr (m2.write ok.W.1 mD hY (fun b hb=>.inl hb) hXD)⟩,oD,fun b hb=>?_,by omega⟩
  rcases hb with hb|⟨r,hr,hb⟩
  ·refine⟨.inr hb,?_⟩
   rcases fD b hb with u|u
   ·exact(hX1 b (.inl u)).2
   ·omega
  ·rcases List.mem_append.1 hr with hr|hr
   ·have q:=hX1 b (.inr ⟨r,hr,hb⟩)
    exact⟨.inl (c2 b q.1),q.2⟩
   ·rw[List.mem_singleton.1 hr] at hb
    have q:=fl b hb
    exact⟨.inl q.2,by omega⟩
 ·subst hlt
  rw[List.drop_length] at hG
  rw[List.take_length] at oR
  refine hG.AL hg ok fun F' s' M' U' m' C hP hno rC s2 z2=>?_
  refine aZ rfl ?_
  exact hK F' s' M' U' m' s rs C hP hno (oR.mod (F:=fun b=>¬(X1 b∧b≠g.so∧b≠g.gb∧b≠g.sb∧b≠g.lb)) ⟨z2,fun b _ hb=>by have:=Classical.not_not.1 hb;exact s2 b this.1 this.2.1 this.2.2.1 this.2.2.2.1 this.2.2.2.2⟩ (fun b hb u=>u (hX1 b (.inl hb))) fun r hr b hb u=>u (hX1 b (.inr ⟨r,hr,hb⟩)))
end
theorem pt {H:aa} {k:Nat} {x y:Int} (r:ag H k fx #[.int .u64 x,.int .u64 y]):Ints .u64 H ⟨some ⟨k,0,none⟩,2,2⟩ [x,y]:=by
 refine⟨rfl,fun i u hu=>⟨_,rfl,?_⟩⟩
 have hi:i=0∨i=1:=by have:=(List.getElem?_eq_some_iff.1 hu).1;simp at this;omega
 rcases hi with rfl|rfl
 ·simp at hu;subst hu
  rw[bH];exact r.cell rfl
 ·simp at hu;subst hu
  rw[bH];exact r.cell rfl
theorem Kl {H:aa} {k:Nat} {x y:Int} (r:ag H k ig #[.int .i64 x,.int .i64 y]):Ints .i64 H ⟨some ⟨k,0,none⟩,2,2⟩ [x,y]:=by
 refine⟨rfl,fun i u hu=>⟨_,rfl,?_⟩⟩
 have hi:i=0∨i=1:=by have:=(List.getElem?_eq_some_iff.1 hu).1;simp at this;omega
 rcases hi with rfl|rfl
 ·simp at hu;subst hu
  rw[bH];exact r.cell rfl
 ·simp at hu;subst hu
  rw[bH];exact r.cell rfl
theorem J4 {H:aa} {k a b c d:Nat} {l m o q:List Int} (r:ag H k gw #[.slice (some ⟨a,0,none⟩) 2 2,.slice (some ⟨b,0,none⟩) 2 2,.slice (some ⟨c,0,none⟩) 2 2,.slice (some ⟨d,0,none⟩) 2 2]) (hl:Ints .u64 H ⟨some ⟨a,0,none⟩,2,2⟩ l) (hm:Ints .u64 H ⟨some ⟨b,0,none⟩,2,2⟩ m) (ho:Ints .u64 H ⟨some ⟨c,0,none⟩,2,2⟩ o) (hq:Ints .u64 H ⟨some ⟨d,0,none⟩,2,2⟩ q):Rows H ⟨some ⟨k,0,none⟩,4,4⟩ [l,m,o,q]:=by
 refine⟨rfl,fun i hi=>?_⟩
 have hi:i=0∨i=1∨i=2∨i=3:=by simp at hi;omega
 rcases hi with rfl|rfl|rfl|rfl
 ·exact⟨_,⟨some ⟨a,0,none⟩,2,2⟩,rfl,by rw[bH];exact r.cell rfl,hl⟩
 ·exact⟨_,⟨some ⟨b,0,none⟩,2,2⟩,rfl,by rw[bH];exact r.cell rfl,hm⟩
 ·exact⟨_,⟨some ⟨c,0,none⟩,2,2⟩,rfl,by rw[bH];exact r.cell rfl,ho⟩
 ·exact⟨_,⟨some ⟨d,0,none⟩,2,2⟩,rfl,by rw[bH];exact r.cell rfl,hq⟩
def K7:ByteArray:=ByteArray.mk #[103]
def Dn:List (List Int):=[[1,5],[2,6],[1,7],[1,5]]
theorem BS [Tab]:ay (bp Dn)=[[1,5],[1,7],[2,6]]:=by
 refine qW (dW (gI _)) ?_ fun y=>?_
 ·simp[aF]
 ·rw[eR]
  unfold Dn
  simp only[List.mem_cons,List.not_mem_nil,or_false]
  constructor
  ·rintro(h|h|h|h)
   ·exact .inl h
   ·exact .inr (.inr h)
   ·exact .inr (.inl h)
   ·exact .inl h
  ·rintro(h|h|h)
   ·exact .inl h
   ·exact .inr (.inr (.inl h))
   ·exact .inr (.inl h)
theorem Fg [Tab]:jM (fU 10) (aW 1) (List.take 1) (ay (bp Dn))=[[1,12],[2,6]]:=by
 rw[BS];decide+kernel
theorem JM {l:List Int} (h:∀x∈l,0≤x∧x<100):fQ l:=fun x hx=>by have:=h x hx;omega
theorem vP {f:Way} {w:List Int→Int} {key:List Int→List Int}:∀{l:List (List Int)} {first:List Int} {t:Int×Int},(tt f w key first t l).length≤l.length+1
 |[],_,_=>by simp[tt]
 |r::rs,first,t=>by
   unfold tt
   split
   ·have:=vP (f:=f) (w:=w) (key:=key) (l:=rs) (first:=first) (t:=f t (w r))
    rw[List.length_cons];omega
   ·have:=vP (f:=f) (w:=w) (key:=key) (l:=rs) (first:=r) (t:=f (0,0) (w r))
    rw[List.length_cons,List.length_cons];omega
theorem DJ {f:Way} {w:List Int→Int} {key:List Int→List Int} (l:List (List Int)):(jM f w key l).length≤l.length:=by
 cases l with
 |nil=>exact Nat.le_refl _
 |cons r rs=>exact vP
section
variable {H:aa}
set_option maxHeartbeats 1000000 in
theorem BG [Tab] {K:Bool→aa→Prop} (hg:Gl H) (hK:∀B,Ext H B→K true B):HV.sp H K:=by
 refine HV.of ?_
 unfold HV.vc
 have hgl:=hg.lt
 refine Fh (by decide) fun F1 d H1 a1 e1 f1=>?_
 refine te (m:=8) (hg.mod e1 id) a1 (fun q=>by have:=f1 _ q;omega) (by decide) (by decide) fun F p H2 hp e2 f2=>?_
 refine ak fun H3 z3 r3 e3=>?_
 refine ak fun H4 z4 r4 e4=>?_
 refine ak fun H5 z5 r5 e5=>?_
 refine ak fun H6 z6 r6 e6=>?_
 refine ak fun H7 z7 r7 e7=>?_
 have e56:=e5.trans e6
 have e26:=(e3.trans e4).trans e56
 refine wC (W:=2) (J4 r7 ((pt r3).ext (((e4.trans e56)).trans e7)) ((pt r4).ext (e56.trans e7)) ((pt r5).ext (e6.trans e7)) ((pt r6).ext e7)) (by simp) (by simp) fun n sb s rs H8 src e8 hn=>?_
 refine ak fun H9 z9 r9 e9=>?_
 have e27:=e26.trans e7
 have e29:=(e27.trans e8).trans e9
 have zz:=e1.size
 have zy:=e2.size
 have zx:=e27.size
 refine uz (H0:=H) (Q:=60) (name:=K7) (cp:=2) (kN:=1) (cl:=1) ((e1.trans e2).trans e29) (hp.ext e29) (fun b hb=>⟨?_,?_⟩) (src.ext e9) (by omega) (jD r9) (by decide) (by decide) (.inr (.inl rfl)) (fun _=>by decide) (by decide) (by decide) (by decide) (by decide) (by decide) (by decide) (by decide) (by decide) (by decide) (by decide) (by decide) (fun l hl=>?_) (fun all ha=>⟨by decide,by decide,by have:all.length≤4:=ha;omega,by decide,by have:all.length≤4:=ha;omega,by decide,by decide⟩) (fun f hf=>?_) fun g H10 ok hgc hG e10 hso=>?_
 ·rcases f2 b hb with q|q
  ·exact f1 b q
  ·omega
 ·have:=hp.lt b hb;omega
 ·simp only[List.mem_cons,List.not_mem_nil,or_false] at hl
  rcases hl with q|q|q|q<;>(subst q;exact⟨rfl,JM (by decide)⟩)
 ·have e:3*cg 2=93:=by decide
  rw[e] at hf
  have:f*93≤4:=hf
  omega
 have eg:jM (fU 10) (aW 1) (List.take 1) (ay (bp [[1,5],[2,6],[1,7],[1,5]]))=[[1,12],[2,6]]:=Fg
 rw[eg] at hG
 refine aA rfl (aA rfl ?_)
 refine hG.um hg ok fun s1 X1 A1 hh1 m1 o1 f3 c1 d1 q1 y1=>?_
 refine GG.um (⟨hh1,.inr m1⟩:GG H A1 X1 g [[2,6]]) hg ok fun s2 X2 A2 hh2 m2 o2 f4 c2 d2 q2 y2=>?_
 refine GG.AL (⟨hh2,.inr m2⟩:GG H A2 X2 g []) hg ok fun F' s' M' U' m' A3 hP hno rC q3 y3=>?_
 refine aZ rfl ?_
 have i0:=hG.1.ins
 have w0:=hG.1.lt _ i0.1
 have w1:=hG.1.lt _ i0.2.1
 have w2:=hG.1.lt _ i0.2.2.1
 have w3:=hG.1.lt _ i0.2.2.2
 have is1:Ints .u64 A3 s1 [1,12]:=by
  refine au.ints (o1.aq fun b hb _=>?_:au A3 0 fx 1 s1 _)
  have h1:=f3 b hb
  rw[q3 b (c2 b h1.2) (by omega) (by omega) (by omega) (by omega)]
  exact q2 b h1.2 (by omega) (by omega) (by omega)
 have is2:Ints .u64 A3 s2 [2,6]:=by
  refine au.ints (o2.aq fun b hb _=>?_:au A3 0 fx 1 s2 _)
  have h1:=f4 b hb
  exact q3 b h1.2 (by omega) (by omega) (by omega) (by omega)
 refine mQ rC ?_
 refine aZ (by rw[hgc.2.2];rfl) ?_
 refine ak fun A4 z a4 x4=>?_
 refine jb (is1.ext x4) (pt a4) (by decide) ?_
 refine aZ (by decide) ?_
 refine ak fun A5 z5' a5 x5=>?_
 refine jb (is2.ext (x4.trans x5)) (pt a5) (by decide) ?_
 have:decide (([2,6]:List Int)=[2,6])=true:=by decide
 rw[this]
 exact hK A5 (hP.ext.trans (x4.trans x5))
set_option maxHeartbeats 1000000 in
theorem gv [Tab] {rows by_:Sl} {rl:List (List Int)} {bl:List Int} {op col cl:Int} {fr kN:Nat} {K:(Sl×Bool)→aa→Prop} (hg:Gl H) (hr:Rows H rows rl) (hl:rl.length≤200) (hfit:∀l∈rl,l.length=3∧fQ l) (hb:Ints .i64 H by_ bl)
  (hbl:∀c∈bl,0≤c∧c<((3:Nat):Int)) (hlb:bl.length≤100) (hop:op=9∨op=10∨op=11∨op=12) (hcol:op≠9→0≤col∧col<((3:Nat):Int)) (ht:dR bl 3=fX 3) (hi:yc (fX 3) bl=fX kN) (hk:(dK bl).length=kN) (hkW:kN≤3) (hcl:(if op=9 then -1 else ((fX 3).idxOf col:Int))=cl) (hclW:cl<((3:Nat):Int)) (h3:3≤fr∧fr≤12)
  (hK:∀s rs base B,ax B base s rs (jM (fU op) (aW cl) (List.take kN) (ay (bp rl)))→Ext H B→K (s,true) B):CJ.sp rows by_ op col (fr:Int) H K:=by
 refine CJ.of ?_
 unfold CJ.vc
 have hgl:=hg.lt
 refine Fh (by decide) fun F1 d H1 a1 e1 f1=>?_
 refine te (m:=12) (hg.mod e1 id) a1 (fun q=>by have:=f1 _ q;omega) (by decide) (by decide) fun F p H2 hp e2 f2=>?_
 have e12:=e1.trans e2
 have hr2:Rows H2 rows rl:=⟨hr.len,fun j hj=>by
  obtain⟨ad,r,q1,q2,q3⟩:=hr.at' j hj
  exact⟨ad,r,q1,e12.cell q2 id,q3.ext e12⟩⟩
 refine wC (W:=3) hr2 (by omega) (fun l hl=>by rw[(hfit l hl).1];decide) fun n sb s rs H3 src e3 hn=>?_
 have zz:=e1.size
 have zy:=e2.size
 have hm3:cg 3=21:=by decide
 refine uz (H0:=H) (Q:=100000) (name:=K7) (cp:=8) (e12.trans e3) (hp.ext e3) (fun b hb=>⟨?_,?_⟩) src (by omega) (hb.ext (e12.trans e3)) hbl hlb hop hcol ht hi hk hkW hcl hclW (by decide) h3 (by decide) (by decide) (by omega) hfit (fun all ha=>⟨by decide,by decide,by omega,by decide,by omega,by decide,by omega⟩) (fun f hf=>?_) fun g H4 ok hgc hG e4 hso=>?_
 ·rcases f2 b hb with q|q
  ·exact f1 b q
  ·omega
 ·have:=hp.lt b hb;omega
 ·rw[hm3] at hf
  have:f*(3*21)≤f*(fr*21):=Nat.mul_le_mul_left f (Nat.mul_le_mul_right 21 h3.1)
  omega
 refine aA rfl ?_
 have h1:=DJ (f:=fU op) (w:=aW cl) (key:=List.take kN) (ay (bp rl))
 have h2:=dz rl
 have hn2:=hr.len
 refine Eb hG hg ok (by omega) (by omega) (fun b hb=>hb.1) fun F' s' M' U' m' l ls H5 hP hno oR=>?_
 refine aZ rfl ?_
 have ed:aI d=aI g.dp:=by rw[hgc.2.1]
 rw[ed]
 refine hP.J1 hg hno fun l2 H6 n2 e6=>?_
 rw[n2]
 exact hK l ls _ H6 (oR.mod e6 (fun _ _ u=>u) fun _ _ _ _ u=>u) (hP.ext.trans e6)
end
theorem Rows.np [Tab] {H B:aa} {s:Sl} {ls:List (List Int)} (h:Rows H s ls) (e:Ext H B):Rows B s ls:=⟨h.len,fun i hi=>by
 obtain⟨ad,r,q1,q2,q3⟩:=h.at' i hi
 exact⟨ad,r,q1,e.cell q2 id,q3.ext e⟩⟩
def cP (W:Nat) (r:List Int):List Int:=r.take W++List.replicate (W - r.length) 0
theorem pS (W:Nat) (r:List Int):(cP W r).length=W:=by unfold cP;simp;omega
theorem Bx {W:Nat} {r:List Int} (h:fQ r):fQ (cP W r):=fun x hx=>by
 unfold cP at hx
 rcases List.mem_append.1 hx with q|q
 ·exact h x (List.mem_of_mem_take q)
 ·have:=(List.mem_replicate.1 q).2
  omega
def yz (us:List (List Int)) (x:List Int):List (List Int):=if x∈us then us else us++[x]
def oh (l:List (List Int)):List (List Int):=l.foldl yz []
theorem kU (l:List (List Int)) (x:List Int):oh (l++[x])=yz (oh l) x:=by unfold oh;rw[List.foldl_append];rfl
theorem AT {y:List Int}:∀l,y∈oh l↔y∈l:=iJ (by simp[oh]) fun l r h=>by
 rw[kU]
 unfold yz
 split
 ·rename_i hr
  rw[h,List.mem_append,List.mem_singleton]
  constructor
  ·exact .inl
  ·rintro(q|q)
   ·exact q
   ·exact h.1 (q▸hr)
 ·rw[List.mem_append,List.mem_append,h]
theorem Cx:∀l,(oh l).Nodup:=iJ List.nodup_nil fun l r h=>by
 rw[kU]
 unfold yz
 split
 ·exact h
 ·rename_i hr
  rw[List.nodup_append]
  exact⟨h,by simp,fun a ha b hb=>by rw[List.mem_singleton.1 hb];exact fun q=>hr (q▸ha)⟩
theorem Gp (l:List (List Int)):(oh l).length≤l.length:=iJ (P:=fun l=>(oh l).length≤l.length) (Nat.le_refl _) (fun l r h=>by
 rw[kU]
 unfold yz
 split<;>simp<;>omega) l
theorem Eg [Tab] (l:List (List Int)):(oh l).length=(ay (bp l)).length:=by
 have h1:(ay (bp l)).Nodup:=(dW (gI l)).imp fun {a b} h q=>by
  subst q;rw[cE] at h;omega
 refine((List.perm_ext_iff_of_nodup (Cx l) h1).2 fun y=>?_).length_eq
 rw[AT,eR]
structure BP (H:aa) (base:Nat) (u:Sl) (us:List Sl) (U:List (List Int)):Prop where
 out:au H base gw 1 u (us.map Sl.v)
 len:us.length=U.length
 row:∀(i:Nat) (r:Sl) (l:List Int),us[i]?=some r→U[i]?=some l→Ints .u64 H r l
 at_:∀r∈us,∀ad,r.a=some ad→∃cur,H[ad.block]?=some (.cells cur fx (0,0))
section
variable {H A B:aa} {base:Nat} {u:Sl} {us:List Sl} {U:List (List Int)} {F:Nat→Prop}
theorem BP.n [Tab] (h:BP H base u us U):u.n=U.length:=by
 have h1:=h.out.1;have h2:=h.len;simp at h1;omega
theorem BP.mod [Tab] (h:BP A base u us U) (m:Mod F A B) (h1:∀b,ai u b→¬F b) (h2:∀b,b<A.size→F b→∃cur,A[b]?=some (.cells cur gw (0,0))):BP B base u us U:=by
 have off:∀r∈us,∀ad,r.a=some ad→¬F ad.block:=fun r hr ad ha f=>by
  obtain⟨cur,q⟩:=h.at_ r hr ad ha
  obtain⟨cur',q'⟩:=h2 _ (aL q) f
  rw[q] at q'
  simp at q'
  exact absurd q'.2 (by decide)
 refine⟨h.out.mod m h1,h.len,fun i r l hr hl=>(h.row i r l hr hl).mod m (off r (List.mem_of_getElem? hr)),fun r hr ad ha=>?_⟩
 obtain⟨cur,q⟩:=h.at_ r hr ad ha
 exact⟨cur,m.at q (off r hr ad ha)⟩
theorem BP.rows [Tab] (h:BP H base u us U):Rows H u U:=⟨h.n,fun i hi=>by
 have hir:i<us.length:=by rw[h.len];exact hi
 obtain⟨ad,ha,hc⟩:=h.out.reads.at (i:=i) (by simpa using hir)
 exact⟨ad,us[i],ha,by simpa using hc,h.row i _ _ (List.getElem?_eq_getElem hir) (List.getElem?_eq_getElem hi)⟩⟩
set_option maxHeartbeats 2000000 in
theorem Hv [Tab] {rows:Sl} {rl:List (List Int)} {H:aa} {K:Sl×Sl×Int→aa→Prop} (hr:Rows H rows rl) (hn:rl.length≤200)
  (hK:∀l u rs A,ax A H.size l rs (rl.map (cP 3))→u.n=(oh (rl.map (cP 3))).length→Ext H A→K (l,u,(rl.length:Int)) A):
  aC (Sl×Sl×Int) ((Sl.mk none 0 0),(Sl.mk none 0 0),(0:Int)) H fun next z H1=>br (decide (z.2.2<(rows.n:Int))) (cut (Sl×Sl) (fun J=>bS an Tryz.prog (Instr.makeSlice gw (.int .i64 (3:Int)) (.int .i64 (3:Int))) H1 fun(x:Sl) H3=>ae rows.a fun a=>(0≤z.2.2∧z.2.2<(rows.n:Int))∧ld an H3 (a.add (z.2.2.toNat*1)) fun(x_1:Sl)=>bS (ab .i64) Tryz.prog (Builtin.copy_ #[gw,gw] ig #[x.v,x_1.v]) H3 fun(_:Int) H4=>aD H4 #[x.v] gw fun p H5=>bS an Tryz.prog (Builtin.append_ #[fG,fG] fG #[z.1.v,(.slice (some p) 1 1)]) H5 fun(l:Sl) H6=>aC (Bool×Int) (false,(0:Int)) H6 fun next_1 z_2 H7=>br ((decide (z_2.2<(z.2.1.n:Int)))&&(!z_2.1)) (ae z.2.1.a fun a_1=>(0≤z_2.2∧z_2.2<(z.2.1.n:Int))∧ld an H7 (a_1.add (z_2.2.toNat*1)) fun(x_2:Sl)=>Cp.sp x_2 x H7 fun(there:Bool) H8=>next_1 (there,IntKind.i64.wrap (z_2.2+(1:Int))) H8) (br (!z_2.1) (aD H7 #[x.v] gw fun p_1 H9=>bS an Tryz.prog (Builtin.append_ #[fG,fG] fG #[z.2.1.v,(.slice (some p_1) 1 1)]) H9 fun(unlike:Sl) H10=>J (l,unlike) H10) (J (l,z.2.1) H7))) fun(z_1:(Sl×Sl)) H2=>next (z_1.1,z_1.2,IntKind.i64.wrap (z.2.2+(1:Int))) H2) (K z H1):=by
 have hrn:=hr.len
 refine aB rl.length (fun i z A=>z.2.2=(i:Int)∧∃rs us,ax A H.size z.1 rs ((rl.take i).map (cP 3))∧BP A H.size z.2.1 us (oh ((rl.take i).map (cP 3)))∧(∀b,ai z.1 b→¬ai z.2.1 b)∧Ext H A) ⟨rfl,[],[],ax.nil _ _,⟨au.nil _ _ _ _,rfl,by simp,by simp⟩,fun b hb=>absurd hb (bE b),.refl _ _⟩ ?_
 rintro i ⟨l,u,_⟩ A next hi ⟨rfl,rs,us,ro,un,ap,eA⟩ hnext
 simp only at ro un ap ⊢
 have zA:=eA.size
 refine aj (fun hc=>?_) (fun hc=>?_)
 ·have hlt : i < rl.length := by have : (i : Int) < (rows.n : Int) := by simpa using hc
                                 omega
  have eU:(rl.take (i+1)).map (cP 3)=(rl.take i).map (cP 3)++[cP 3 rl[i]]:=by rw[List.take_add_one,List.getElem?_eq_getElem hlt,List.map_append];rfl
  have hUl:(oh ((rl.take i).map (cP 3))).length≤200:=by
   have:=Gp ((rl.take i).map (cP 3))
   rw[List.length_map,List.length_take] at this;omega
  refine⟨fun z B=>∃rs us,ax B H.size z.1 rs ((rl.take (i+1)).map (cP 3))∧BP B H.size z.2 us (oh ((rl.take (i+1)).map (cP 3)))∧(∀b,ai z.1 b→¬ai z.2 b)∧Ext H B,?_,fun z B hB=>hnext hlt _ _ ⟨aP i (by omega),hB⟩⟩
  refine sM.make (base:=H.size) (by omega) (Int.le_refl _) (by omega) (by omega) eA.size fun x A1 ln o1 e1 f1 hxa=>?_
  have e3:((3:Int)).toNat=3:=rfl
  rw[e3] at ln o1
  have z1:=e1.size
  refine(hr.np (eA.trans e1)).ld hlt fun ad r _ ri=>?_
  have hcs:((rl[i].take 3).map (Value.int .u64)).length=Nat.min r.n x.n:=by
   rw[List.length_map,List.length_take,ln,ri.len]
   show min _ _=min _ _
   exact Nat.min_comm _ _
  have hrd:Reads A1 r.a ((rl[i].take 3).map (Value.int .u64)):=by
   have:=ri.reads.take 3
   rwa [←List.map_take] at this
  refine au.Jz (o:=0) (s:=x) (dl:=x.n) (dc:=x.c) (by kernel_rfl) (by kernel_rfl) o1 (fun _=>?_) hrd hcs (by
   have:=Nat.min_le_right r.n x.n
   rw[hcs];show 0+min r.n x.n≤x.n;omega) (fun v hv=>?_) fun A4 o4 m4 s4=>?_
  ·cases hxa2:x.a with
   |none=>rfl
   |some a=>rfl
  ·obtain⟨y,_,rfl⟩:=List.mem_map.1 hv
   rfl
  have e4:(List.replicate 3 (Value.int .u64 0)).take 0++(rl[i].take 3).map (Value.int .u64)++(List.replicate 3 (Value.int .u64 0)).drop (0+((rl[i].take 3).map (Value.int .u64)).length)=(cP 3 rl[i]).map (Value.int .u64):=by
   unfold cP
   rw[List.take_zero,List.nil_append,List.map_append,List.map_replicate,List.drop_replicate,List.length_map,List.length_take]
   congr 2
   omega
  rw[e4] at o4
  have z4:=m4.size
  have eA4:Ext A A4:=Ext.eJ e1 m4 fun b q=>by have:=f1 b q;omega
  have ro4:ax A4 H.size l rs ((rl.take i).map (cP 3)):=ro.mod eA4 (fun _ _ q=>q) fun _ _ _ _ q=>q
  have un4:BP A4 H.size u us (oh ((rl.take i).map (cP 3))):=un.mod eA4 (fun _ _ q=>q) fun _ _ q=>q.elim
  have key:=ro4.Ag (ty:=fG) o4 (fun r' hr' b hb hb'=>by have:=(ro.block.2 r' hr' b hb').2;have:=f1 b hb;omega) (by rw[ro.n,List.length_map,List.length_take];omega) (by omega)
   (K:=fun(l:Sl) H6=>aC (Bool×Int) (false,(0:Int)) H6 fun next_1 z_2 H7=>br ((decide (z_2.2<(u.n:Int)))&&(!z_2.1)) (ae u.a fun a_1=>(0≤z_2.2∧z_2.2<(u.n:Int))∧ld an H7 (a_1.add (z_2.2.toNat*1)) fun(x_2:Sl)=>Cp.sp x_2 x H7 fun(there:Bool) H8=>next_1 (there,IntKind.i64.wrap (z_2.2+(1:Int))) H8) (br (!z_2.1) (aD H7 #[x.v] gw fun p_1 H9=>bS an Tryz.prog (Builtin.append_ #[fG,fG] fG #[u.v,(.slice (some p_1) 1 1)]) H9 fun(unlike:Sl) H10=>∃rs us,ax H10 H.size l rs ((rl.take (i+1)).map (cP 3))∧BP H10 H.size unlike us (oh ((rl.take (i+1)).map (cP 3)))∧(∀b,ai l b→¬ai unlike b)∧Ext H H10) (∃rs us,ax H7 H.size l rs ((rl.take (i+1)).map (cP 3))∧BP H7 H.size u us (oh ((rl.take (i+1)).map (cP 3)))∧(∀b,ai l b→¬ai u b)∧Ext H H7)))
  refine key fun l' D n' oD mD fD=>?_
  rw[←eU] at oD
  have zD:=mD.size
  have hly:∀b,ai l b→∃cur,A4[b]?=some (.cells cur gw (0,0)):=fun b hb=>ro4.out.obj b hb
  have unD:BP D H.size u us (oh ((rl.take i).map (cP 3))):=un4.mod mD (fun b hb q=>ap b q hb) fun b _ q=>hly b q
  have apD:∀b,ai l' b→¬ai u b:=fun b hb q=>by
   rcases fD b hb with v|v
   ·exact ap b v q
   ·have:=(un.out.block b q).2;omega
  have eD:Ext H D:=⟨by omega,fun b hb _=>(mD.same b (by omega) fun q=>by have:=(ro.block.1 b q).1;omega).trans ((eA4.same b (by omega) id).trans (eA.same b hb id))⟩
  have oxD:au D H.size fx 1 x ((cP 3 rl[i]).map (Value.int .u64)):=o4.mod mD fun b hb q=>by have:=f1 b hb;have:=(ro.block.1 b q).2;omega
  have hrU:=unD.rows
  refine aB (oh ((rl.take i).map (cP 3))).length (fun k z E=>D=E∧z.2=(k:Int)∧(z.1=true→cP 3 rl[i]∈oh ((rl.take i).map (cP 3)))∧(z.1=false→cP 3 rl[i]∉(oh ((rl.take i).map (cP 3))).take k)) ⟨rfl,rfl,fun q=>by simp at q,fun _=>by simp⟩ ?_
  rintro k ⟨t,_⟩ _ um hk ⟨rfl,rfl,ht1,ht2⟩ hnext1
  simp only at ht1 ht2 ⊢
  have hun:=unD.n
  refine aj (fun hc2=>?_) (fun hc2=>?_)
  ·have hc3:(k:Int)<(u.n:Int)∧t=false:=by simpa using hc2
   have hkl:k<(oh ((rl.take i).map (cP 3))).length:=by omega
   refine hrU.ld hkl fun ad2 r2 _ ir2=>?_
   refine jb ir2 (au.ints oxD) (by
    have hm:=List.getElem_mem hkl
    rw[AT] at hm
    obtain⟨y,_,e⟩:=List.mem_map.1 hm
    rw[←e,pS];decide) ?_
   refine hnext1 hkl _ _ ⟨rfl,aP k (by omega),fun q=>?_,fun q=>?_⟩
   ·have:(oh ((rl.take i).map (cP 3)))[k]=cP 3 rl[i]:=by simpa using q
    rw[←this];exact List.getElem_mem hkl
   ·have q2:(oh ((rl.take i).map (cP 3)))[k]≠cP 3 rl[i]:=by simpa using q
    rw[List.take_succ_eq_append_getElem hkl,List.mem_append,List.mem_singleton]
    rintro(v|v)
    ·exact ht2 hc3.2 v
    ·exact q2 v.symm
  ·refine aj (fun hc4=>?_) (fun hc4=>?_)
   ·have ht:t=false:=by simpa using hc4
    subst ht
    have hkge:(oh ((rl.take i).map (cP 3))).length≤k:=by
     have:¬(k:Int)<(u.n:Int):=by simpa using hc2
     omega
    have hno:=ht2 rfl
    rw[List.take_of_length_le hkge] at hno
    refine xI.push (base:=H.size) (s:=u) (v:=x.v) unD.out rfl (by omega) (by omega) (by omega) ?_
    intro u' E n2 oE mE fE _
    have bu:=un.out.block
    have hty:∀b,ai u b→∃cur,D[b]?=some (.cells cur gw (0,0)):=fun b hb=>unD.out.obj b hb
    have zE:=mE.size
    obtain⟨bl1,bl2⟩:=oD.block
    have oE2:ax E H.size l' (rs++[x]) ((rl.take (i+1)).map (cP 3)):=oD.mod mE (fun b hb q=>apD b hb q) fun r' hr' b hb q=>by
     obtain⟨j,hj⟩:=List.getElem?_of_mem hr'
     have hjl:j<((rl.take (i+1)).map (cP 3)).length:=by rw[←oD.len];exact(List.getElem?_eq_some_iff.1 hj).1
     obtain⟨cur,q1⟩:=(oD.row j _ _ hj (List.getElem?_eq_getElem hjl)).obj b hb
     obtain⟨cur',q2⟩:=hty b q
     rw[q1] at q2
     simp at q2
     exact absurd q2.2 (by decide)
    have eN:oh ((rl.take (i+1)).map (cP 3))=oh ((rl.take i).map (cP 3))++[cP 3 rl[i]]:=by
     rw[eU,kU];unfold yz;rw[if_neg hno]
    have unE:=unD.mod (B:=E) (F:=ai u) mE
    have hxu:∀b,ai x b→¬ai u b:=fun b hb q=>by have:=f1 b hb;have:=(bu b q).2;omega
    refine⟨rs++[x],us++[x],oE2,?_,fun b hb q=>?_,⟨by omega,fun b hb _=>(mE.same b (by omega) fun q=>by have:=(bu b q).1;omega).trans (eD.same b hb id)⟩⟩
    ·rw[eN]
     have off:∀r∈us,∀ad,r.a=some ad→¬ai u ad.block:=fun r hr ad ha f=>by
      obtain⟨cur,q⟩:=unD.at_ r hr ad ha
      obtain⟨cur',q'⟩:=hty _ f
      rw[q] at q'
      simp at q'
      exact absurd q'.2 (by decide)
     refine⟨by rw[List.map_append];exact oE,by simp[unD.len],fun j r y h1 h2=>?_,fun r hr ad ha=>?_⟩
     ·by_cases hj:j<us.length
      ·rw[List.getElem?_append_left hj] at h1
       rw[List.getElem?_append_left (by rw[←unD.len];exact hj)] at h2
       exact(unD.row j r y h1 h2).mod mE (off r (List.mem_of_getElem? h1))
      ·have hj2:j=us.length:=by
        have:=(List.getElem?_eq_some_iff.1 h1).1
        simp at this;omega
       subst hj2
       rw[List.getElem?_append_right (Nat.le_refl _),Nat.sub_self] at h1
       rw[unD.len,List.getElem?_append_right (Nat.le_refl _),Nat.sub_self] at h2
       simp at h1 h2
       subst h1;subst h2
       exact au.ints (oxD.mod mE fun b hb q=>hxu b hb q)
     ·rcases List.mem_append.1 hr with hr|hr
      ·obtain⟨cur,q⟩:=unD.at_ r hr ad ha
       exact⟨cur,mE.at q (off r hr ad ha)⟩
      ·rw[List.mem_singleton.1 hr] at ha
       have hb:ai x ad.block:=⟨ad,ha,rfl⟩
       obtain⟨cur,q⟩:=oxD.obj _ hb
       exact⟨cur,mE.at q (hxu _ hb)⟩
    ·rcases fE b q with v|v
     ·exact apD b hb v
     ·have:=(bl1 b hb).2;omega
   ·have ht:t=true:=by simpa using hc4
    subst ht
    have eN:oh ((rl.take (i+1)).map (cP 3))=oh ((rl.take i).map (cP 3)):=by
     rw[eU,kU];unfold yz;rw[if_pos (ht1 rfl)]
    exact⟨rs++[x],us,oD,by rw[eN];exact unD,apD,eD⟩
 ·have hie:i=rl.length:=by
   have:¬(i:Int)<(rows.n:Int):=by simpa using hc
   omega
  subst hie
  rw[List.take_length] at ro un
  exact hK l u rs A ro un.n eA
end
end Go.Proofs.YtacfhncgbgijhaaGreat
