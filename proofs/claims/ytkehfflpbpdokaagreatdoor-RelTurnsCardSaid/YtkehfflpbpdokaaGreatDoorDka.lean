/-
 The disk in memory.
-/
import Derived.Test.YtkehfflpbpdokaaGreatDoorVc
import Derived.Test.YtkehfflpbpdokaaGreatDoorFxm
import Derived.Test.YtkehfflpbpdokaaGreatDoorDkm
open List renaming getElem?_eq_getElem->Kg,mem_of_getElem?->Ki,getElem?_eq_some_iff->Kj,mem_iff_getElem?->Ko,mem_cons->Ku,mem_map->Kz,length_map->KM,getElem?_set->Le
namespace Go.Proofs.YtkehfflpbpdokaaGreatDoor
open Go.MapKept
def gO (p:List UInt8):List Value:=p.map λx=>.int .u8 (x.toNat:Int)
def xI:ja Pg:=⟨512,λp=>gO p.1,λp=>by rw[gO,KM];exact p.2,λp u hu=>by obtain⟨x,_,rfl⟩:=Kz.1 hu;rfl⟩
def HX:ja Wr:=⟨514,λw=>.int .i64 w.no::.int .i64 w.ab::gO w.b.1,λw=>by simp only[List.length_cons,gO,KM,w.b.2],λw u hu=>by
 rcases Ku.1 hu with e|hu
 ·rw[e];rfl
 ·rcases Ku.1 hu with e|hu
  ·rw[e];rfl
  ·obtain⟨x,_,rfl⟩:=Kz.1 hu;rfl⟩
structure FG where
 p:Nat
 now:Sl
 syn:Sl
 log:Sl
def FG.fp (g:FG)(b:Nat):Prop:=b=g.p\/ai g.now b\/ai g.syn b\/ai g.log b
structure db (H:aa)(g:FG)(f:Fl):Prop where
 row:ag H g.p Gu #[g.now.v,g.syn.v,g.log.v]
 now:cw xI xo H g.now f.aB
 syn:cw xI xo H g.syn f.synced
 log:cw HX Ek H g.log f.log
 apart:∀b,ai g.now b->¬ai g.syn b
theorem db.lt {H:aa}{g:FG}{f:Fl}(h:db H g f):∀b,g.fp b->b<H.size:=by
 rintro b (rfl|hb|hb|hb)
 ·exact aG h.row
 ·exact h.now.lt b hb
 ·exact h.syn.lt b hb
 ·exact h.log.lt b hb
theorem db.aA {H H':aa}{g:FG}{f:Fl}(h:db H g f)(k:∀b,g.fp b->b<H.size->H'[b]?=H[b]?):db H' g f:=
 ⟨(k _ (.inl rfl) (aG h.row)).trans h.row,h.now.aA λb hb=>k b (.inr (.inl hb)),h.syn.aA λb hb=>k b (.inr (.inr (.inl hb))),h.log.aA λb hb=>k b (.inr (.inr (.inr hb))),h.apart⟩
theorem db.obj {H:aa}{g:FG}{f:Fl}(h:db H g f):∀b,g.fp b->∃cs t,H[b]?=some (.cells cs t (0,0))/\(t=Gu\/t=xo\/t=Ek):=by
 rintro b (rfl|hb|hb|hb)
 ·exact⟨_,_,h.row,.inl rfl⟩
 ·obtain⟨c,q⟩:=h.now.obj b hb;exact⟨c,_,q,.inr (.inl rfl)⟩
 ·obtain⟨c,q⟩:=h.syn.obj b hb;exact⟨c,_,q,.inr (.inl rfl)⟩
 ·obtain⟨c,q⟩:=h.log.obj b hb;exact⟨c,_,q,.inr (.inr rfl)⟩
structure DG where
 m:Nat
 es:Array MapEntry
 clk:Nat
 gs:List FG
def DG.fp (x:DG)(b:Nat):Prop:=b=x.m\/∃g∈x.gs,g.fp b
def bX (p:Nat):Value:=.pointer (some ⟨p,0,none⟩)
structure bg (H:aa)(x:DG)(fs:List Fl):Prop where
 map:dq .string H x.m x.es x.clk
 len:x.gs.length=fs.length
 size:x.es.size=fs.length
 ent:∀(i:Nat) (f:Fl) (g:FG),fs[i]?=some f->x.gs[i]?=some g->dJ x.es (.string f.name) (bX g.p)/\db H g f
 ent':∀k v,dJ x.es k v->∃(i:Nat) (f:Fl) (g:FG),fs[i]?=some f/\x.gs[i]?=some g/\k=.string f.name/\v=bX g.p
 apart:∀(i j:Nat) (g g':FG),x.gs[i]?=some g->x.gs[j]?=some g'->i≠j->∀b,g.fp b->¬g'.fp b
theorem bg.Ji {H:aa}{x:DG}{fs:List Fl}(h:bg H x fs){i:Nat}{f:Fl}(hi:fs[i]?=some f):∃g,x.gs[i]?=some g/\dJ x.es (.string f.name) (bX g.p)/\db H g f:=by
 have hlt:=(Kj.1 hi).1
 have hg:x.gs[i]?=some (x.gs[i]'(by rw[h.len];exact hlt)):=Kg _
 exact⟨_,hg,h.ent i f _ hi hg⟩
theorem bg.G0 {H:aa}{x:DG}{fs:List Fl}(h:bg H x fs){i:Nat}{g:FG}(hi:x.gs[i]?=some g):∃f,fs[i]?=some f/\dJ x.es (.string f.name) (bX g.p)/\db H g f:=by
 have hlt:=(Kj.1 hi).1
 have hg:fs[i]?=some (fs[i]'(by rw[<-h.len];exact hlt)):=Kg _
 exact⟨_,hg,h.ent i _ g hg hi⟩
theorem bg.lt {H:aa}{x:DG}{fs:List Fl}(h:bg H x fs):∀b,x.fp b->b<H.size:=by
 rintro b (rfl|⟨g,hg,hb⟩)
 ·exact h.map.lt
 ·obtain⟨i,hi⟩:=Ko.1 hg
  obtain⟨f,_,_,q⟩:=h.G0 hi
  exact q.lt b hb
theorem bg.aA {H H':aa}{x:DG}{fs:List Fl}(h:bg H x fs)(k:∀b,x.fp b->b<H.size->H'[b]?=H[b]?):bg H' x fs:=
 ⟨h.map.aA (k _ (.inl rfl) h.map.lt),h.len,h.size,λi f g hf hg=>⟨(h.ent i f g hf hg).1,(h.ent i f g hf hg).2.aA λb hb=>k b (.inr ⟨g,Ki hg,hb⟩)⟩,h.ent',h.apart⟩
theorem bg.xj {H:aa}{x:DG}{fs:List Fl}(h:bg H x fs){g:FG}(hg:g∈x.gs):¬g.fp x.m:=by
 intro hb
 obtain⟨i,hi⟩:=Ko.1 hg
 obtain⟨f,_,_,q⟩:=h.G0 hi
 obtain⟨cs,t,e,_⟩:=q.obj _ hb
 rw[h.map.obj] at e;cases e
theorem bg.IU {H H':aa}{x:DG}{fs:List Fl}(h:bg H x fs){i:Nat}{f f':Fl}{g g':FG}(hf:fs[i]?=some f)(hg:x.gs[i]?=some g)(hp:g'.p=g.p)(hn:f'.name=f.name)(hq:db H' g' f')
  (hm:∀b,x.fp b->¬g.fp b->b<H.size->H'[b]?=H[b]?) (hb:∀b,g'.fp b->g.fp b\/H.size<=b):bg H' {x with gs:=x.gs.set i g'} (fs.set i f')/\(∀b,DG.fp {x with gs:=x.gs.set i g'} b->x.fp b\/H.size<=b):=by
 have hil:=(Kj.1 hf).1
 have hgl:=(Kj.1 hg).1
 have hgm:=Ki hg
 have others:∀j gj,x.gs[j]?=some gj->i≠j->∀b,gj.fp b->¬g.fp b:=λj gj hj hij b h1 h2=>h.apart i j g gj hg hj hij b h2 h1
 refine⟨⟨h.map.aA (hm _ (.inl rfl) (h.xj hgm) h.map.lt),by simp[h.len],by simp[h.size],?_,?_,?_⟩,?_⟩
 ·intro j fj gj h1 h2
  rw[Le] at h1
  simp only[Le] at h2
  by_cases hij:i=j
  ·subst hij
   rw[if_pos rfl,if_pos hil] at h1
   rw[if_pos rfl,if_pos hgl] at h2
   cases h1;cases h2
   refine⟨?_,hq⟩
   rw[hn,hp]
   exact(h.ent i f g hf hg).1
  ·rw[if_neg hij] at h1 h2
   refine⟨(h.ent j fj gj h1 h2).1,(h.ent j fj gj h1 h2).2.aA λb hb hbl=>hm b (.inr ⟨gj,Ki h2,hb⟩) (others j gj h2 hij b hb) hbl⟩
 ·intro k v hkv
  obtain⟨j,fj,gj,h1,h2,h3,h4⟩:=h.ent' k v hkv
  by_cases hij:i=j
  ·subst hij
   rw[hf] at h1;rw[hg] at h2;cases h1;cases h2
   exact⟨i,f',g',by simp[hil],by simp[hgl],by rw[hn];exact h3,by rw[hp];exact h4⟩
  ·exact⟨j,fj,gj,by rw[Le,if_neg hij];exact h1,by simp only[Le];rw[if_neg hij];exact h2,h3,h4⟩
 ·intro a c ga gc h1 h2 hac b hb1 hb2
  simp only[Le] at h1 h2
  by_cases hia:i=a
  ·subst hia
   rw[if_neg hac] at h2
   rw[if_pos rfl,if_pos hgl] at h1
   cases h1
   have hbl:b<H.size:=by obtain⟨fc,_,_,q⟩:=h.G0 h2;exact q.lt b hb2
   rcases hb b hb1 with q|q
   ·exact others c gc h2 hac b hb2 q
   ·omega
  ·rw[if_neg hia] at h1
   have hbl:b<H.size:=by obtain⟨fc,_,_,q⟩:=h.G0 h1;exact q.lt b hb1
   by_cases hic:i=c
   ·subst hic
    rw[if_pos rfl,if_pos hgl] at h2
    cases h2
    rcases hb b hb2 with q|q
    ·exact others a ga h1 hia b hb1 q
    ·omega
   ·rw[if_neg hic] at h2
    exact h.apart a c ga gc h1 h2 hac b hb1 hb2
 ·rintro b (rfl|⟨gj,hgj,hb1⟩)
  ·exact .inl (.inl rfl)
  ·rcases List.mem_or_eq_of_mem_set hgj with q|q
   ·exact .inl (.inr ⟨gj,q,hb1⟩)
   ·subst q
    exact(hb b hb1).imp (λq=>.inr ⟨g,hgm,q⟩) id
theorem bg.set {H H':aa}{x:DG}{fs:List Fl}(h:bg H x fs){i:Nat}{f f':Fl}{g g':FG}(hf:fs[i]?=some f)(hg:x.gs[i]?=some g)(hp:g'.p=g.p)(hn:f'.name=f.name)(hq:db H' g' f')
  (hm:Mod g.fp H H') (hb:∀b,g'.fp b->g.fp b\/H.size<=b):bg H' {x with gs:=x.gs.set i g'} (fs.set i f')/\(∀b,DG.fp {x with gs:=x.gs.set i g'} b->x.fp b\/H.size<=b):=
 h.IU hf hg hp hn hq (λb _ hn hl=>hm.same b hl hn) hb
def qN (m:Nat)(used most quota ops next:Int)(laid:Bool)(cin kp:Int)(down:Bool):Array Value:=
 #[.map (some m),.int .i64 used,.int .i64 most,.int .i64 quota,.int .i64 ops,.int .i64 next,.bool laid,.int .i64 cin,.int .u64 kp,.bool down]
def tj (s:Dk)(cin kp:Int):Prop:=∀i k,s.crash=some (i,k)->cin=i/\kp=k
structure eZ (x:DG)(cin kp:Int)(H:aa)(d:Nat)(s:Dk):Prop where
 head:ag H d Hg (qN x.m s.used s.most s.quota s.ops s.next s.crash.isSome cin kp s.down)
 crash:tj s cin kp
 files:bg H x s.files
 wf:s.WF
def bN (F:Nat->Prop)(H:aa)(d:Nat)(s:Dk):Prop:=∃x cin kp,eZ x cin kp H d s/\∀b,F b↔b=d\/x.fp b
structure Step (F F':Nat->Prop)(H H':aa):Prop where
 mod:Mod F H H'
 own:∀b,F' b->F b\/H.size<=b
theorem Step.refl (F:Nat->Prop)(H:aa):Step F F H H:=⟨.refl _ _,λ_ h=>.inl h⟩
theorem Step.trans {F G K:Nat->Prop}{A B C:aa}(h:Step F G A B)(k:Step G K B C):Step F K A C:=by
 refine⟨h.mod.trans' k.mod λb hb hg=>(h.own b hg).resolve_right (by omega),λb hb=>?_⟩
 rcases k.own b hb with q|q
 ·exact h.own b q
 ·exact .inr (Nat.le_trans h.mod.size q)
theorem eZ.pH {x:DG}{H:aa}{d:Nat}{fs:List Fl}{cs:Array Value}(hd:ag H d Hg cs)(h:bg H x fs):¬x.fp d:=by
 rintro(e|⟨g,hg,hb⟩)
 ·have:=h.map.obj
  rw[<-e,hd] at this;cases this
 ·obtain⟨i,hi⟩:=Ko.1 hg
  obtain⟨f,_,_,q⟩:=h.G0 hi
  obtain⟨c,t,e,ht⟩:=q.obj _ hb
  have:=aW hd e
  rw[<-this] at ht
  exact absurd ht (by decide)
theorem bN.lt {F:Nat->Prop}{H:aa}{d:Nat}{s:Dk}(h:bN F H d s):∀b,F b->b<H.size:=by
 obtain⟨x,cin,kp,g,hF⟩:=h
 intro b hb
 rcases (hF b).1 hb with rfl|q
 ·exact aG g.head
 ·exact g.files.lt b q
theorem bN.aA {F:Nat->Prop}{H H':aa}{d:Nat}{s:Dk}(h:bN F H d s)(k:∀b,F b->b<H.size->H'[b]?=H[b]?):bN F H' d s:=by
 obtain⟨x,cin,kp,g,hF⟩:=h
 exact⟨x,cin,kp,⟨(k d ((hF d).2 (.inl rfl)) (aG g.head)).trans g.head,g.crash,g.files.aA λb hb=>k b ((hF b).2 (.inr hb)),g.wf⟩,hF⟩
theorem bN.wf {F:Nat->Prop}{H:aa}{d:Nat}{s:Dk}(h:bN F H d s):s.WF:=by
 obtain⟨x,cin,kp,g,hF⟩:=h;exact g.wf
theorem eZ.out {x x':DG}{cin kp:Int}{F:Nat->Prop}{H H':aa}{d:Nat}{s:Dk}(h:eZ x' cin kp H' d s)(hF:∀b,F b↔b=d\/x.fp b)(hm:Mod F H H')(ho:∀b,x'.fp b->x.fp b\/H.size<=b):
  ∃F',bN F' H' d s/\Step F F' H H':=
 ⟨λb=>b=d\/x'.fp b,⟨x',cin,kp,h,λ_=>Iff.rfl⟩,hm,by
  rintro b (e|q)
  ·exact .inl ((hF b).2 (.inl e))
  ·exact(ho b q).imp (λq=>(hF b).2 (.inr q)) id⟩
theorem pz {d:Nat}{cs:Array Value}{down:Bool}{H:aa}{K:Int->aa->Prop}(h:ag H d Hg cs)(hd:cs[9]?=some (.bool down))(hK:K (if down then 4 else 0) H):Dm.sp (some ⟨d,0,none⟩) H K:=by
 refine Dm.of ?_
 unfold Dm.vc
 refine h.ld (c:=aw) (i:=9) (x:=down) hd ?_
 cases down with
 |true=>exact hK
 |false=>exact hK
theorem Bo {n:ByteArray}{H:aa}{K:Bool->aa->Prop}(hK:K (named n) H):EP.sp n H K:=by
 refine EP.of ?_
 unfold EP.vc
 have e:((!(n.toList==ByteArray.empty.toList))&&(decide ((n.size:Int)<=(100:Int))))=named n:=by
  unfold named
  congr 1
  ·rw[Bool.eq_iff_iff]
   simp only[Bool.not_eq_true',beq_eq_false_iff_ne,ne_eq,decide_eq_true_eq]
   rw[Hm]
   constructor
   ·intro h
    rcases Nat.eq_zero_or_pos n.size with q|q
    ·exact absurd (ByteArray.ext (Array.eq_empty_of_size_eq_zero q)) h
    ·exact q
   ·intro h e;subst e;simp at h
  ·rw[decide_eq_decide];omega
 rw[e];exact hK
end Go.Proofs.YtkehfflpbpdokaaGreatDoor
