/-
 The disk: files made, taken away, named anew.
-/
import Derived.Test.YtkehfflpbpdokaaGreatDoorDkb
open Go.Addr renaming add->QS
open Go.IntKind renaming i64->Qe
open Go.Proofs.Tryz renaming prog->Qf
open List renaming mem_of_getElem?->Qi,getElem?_eq_some_iff->Qk,getElem?_append_left->QR,getElem?_append_right->Re,getElem?_eraseIdx->R5,length_eraseIdx_of_lt->Sq
namespace Go.Proofs.YtkehfflpbpdokaaGreatDoor
open Go.MapKept
theorem jj {es:Array MapEntry}{k v a b:Value}{c:Nat}:fN (es.push {key:=k,val:=v,born:=c}) a b↔fN es a b\/(a=k/\b=v):=by
 constructor
 ·rintro⟨e,he,h1,d⟩;simp only[Array.toList_push,List.mem_append,List.mem_singleton] at he;rcases he with he|he
  ·exact .inl ⟨e,he,h1,d⟩
  ·subst he;exact .inr ⟨h1.symm,d.symm⟩
 ·rintro(⟨e,he,h1,d⟩|⟨rfl,rfl⟩)
  ·exact⟨e,by simp[Array.mem_toList_iff.1 he],h1,d⟩
  ·exact⟨⟨a,b,c⟩,by simp,rfl,rfl⟩
theorem str_inj {a b:ByteArray}(h:Value.string a=.string b):a=b:=by cases h;rfl
theorem FP {a b:Nat}(h:cG a=cG b):a=b:=by unfold cG at h;simp at h;exact h
theorem bu.push {H H':aa}{x:DG}{fs:List Fl}(h:bu H x fs){f:Fl}{g:FG}(t:dU H' g f)(hm:eU .string H' x.m (x.es.push {key:=.string f.name,val:=cG g.p,born:=x.clk}) (x.clk+1))
  (hk:∀b,x.fp b->b≠x.m->b<H.size->H'[b]?=H[b]?) (r:∀b,g.fp b->H.size<=b):bu H' ⟨x.m,x.es.push {key:=.string f.name,val:=cG g.p,born:=x.clk},x.clk+1,x.gs++[g]⟩ (fs++[f]):=by
 have old:∀(i:Nat) (f:Fl) (g:FG),fs[i]?=some f->x.gs[i]?=some g->fN x.es (.string f.name) (cG g.p)/\dU H' g f:=λi f g h1 a=>
  ⟨(h.ent i f g h1 a).1,(h.ent i f g h1 a).2.aE λb s o=>hk b (.inr ⟨g,Qi a,s⟩) (λe=>h.Cm (Qi a) (e▸s)) o⟩
 have hlen:=h.len;have split:∀(i:Nat) (f':Fl) (g':FG),(fs++[f])[i]?=some f'->(x.gs++[g])[i]?=some g'->(fs[i]?=some f'/\x.gs[i]?=some g')\/(i=fs.length/\f'=f/\g'=g):=by
  intro i f' g' h1 a;by_cases hi:i<fs.length
  ·rw[QR hi] at h1;rw[QR (by omega)] at a;exact .inl ⟨h1,a⟩
  ·rw[Re (by omega)] at h1 a;have:i=fs.length:=by
    have:=(Qk.1 h1).1;simp at this;omega
   subst this;simp[hlen] at h1 a;exact .inr ⟨rfl,h1.symm,a.symm⟩
 refine⟨hm,by simp[hlen],by simp[h.size],?_,?_,?_⟩
 ·intro i f' g' h1 a;rcases split i f' g' h1 a with ⟨m,n⟩|⟨_,rfl,rfl⟩
  ·exact⟨jj.2 (.inl (old i f' g' m n).1),(old i f' g' m n).2⟩
  ·exact⟨jj.2 (.inr ⟨rfl,rfl⟩),t⟩
 ·intro k v c;rcases jj.1 c with c|⟨rfl,rfl⟩
  ·obtain⟨i,f',g',h1,a,u,w⟩:=h.ent' k v c;have hi:=(Qk.1 h1).1;exact⟨i,f',g',by rw[QR hi];exact h1,by simp only;rw[QR (by omega)];exact a,u,w⟩
  ·exact⟨fs.length,f,g,by simp,by simp[<-hlen],rfl,rfl⟩
 ·intro i j g1 g2 h1 a p b d l;have ex:∀(i:Nat) (g1:FG),(x.gs++[g])[i]?=some g1->(x.gs[i]?=some g1/\i<x.gs.length)\/(i=x.gs.length/\g1=g):=by
   intro i g1 h1;by_cases hi:i<x.gs.length
   ·rw[QR hi] at h1;exact .inl ⟨h1,hi⟩
   ·rw[Re (by omega)] at h1;have:i=x.gs.length:=by
     have:=(Qk.1 h1).1;simp at this;omega
    subst this;simp at h1;exact .inr ⟨rfl,h1.symm⟩
  rcases ex i g1 h1 with ⟨m,y⟩|⟨z,rfl⟩<;>rcases ex j g2 a with ⟨n,l2⟩|⟨e2,rfl⟩
  ·exact h.apart i j g1 g2 m n p b d l
  ·obtain⟨_,_,_,q⟩:=h.No m;have:=q.lt b d;have:=r b l;omega
  ·obtain⟨_,_,_,q⟩:=h.No n;have:=q.lt b l;have:=r b d;omega
  ·omega
theorem bu.erase {H H':aa}{x:DG}{fs:List Fl}{d:Array MapEntry}(h:bu H x fs){i:Nat}{f:Fl}(y:fs[i]?=some f)(n:∀(j:Nat) (f':Fl),fs[j]?=some f'->f'.name=f.name->i=j)
  (hm:eU .string H' x.m d x.clk) (o:∀k v,fN d k v↔fN x.es k v/\k≠.string f.name) (z:∀u,fN x.es (.string f.name) u->d.size+1=x.es.size)
  (hk:∀b,x.fp b->b≠x.m->b<H.size->H'[b]?=H[b]?):bu H' ⟨x.m,d,x.clk,x.gs.eraseIdx i⟩ (fs.eraseIdx i):=by
 have old:∀(i:Nat) (f:Fl) (g:FG),fs[i]?=some f->x.gs[i]?=some g->dU H' g f:=λi f g h1 m=>
  (h.ent i f g h1 m).2.aE λb G A=>hk b (.inr ⟨g,Qi m,G⟩) (λe=>h.Cm (Qi m) (e▸G)) A
 have p:=(Qk.1 y).1;have hlen:=h.len;have back:∀{α:Type} (l:List α) (j:Nat) (a:α),(l.eraseIdx i)[j]?=some a->∃B,B≠i/\l[B]?=some a/\B=if j<i then j else j+1:=by
  intro α l j a s;rw[R5] at s;split at s
  ·rename_i q;exact⟨j,by omega,s,by rw[if_pos q]⟩
  ·rename_i q;exact⟨j+1,by omega,s,by rw[if_neg q]⟩
 obtain⟨g0,L,C,_⟩:=h.O8 y;have D:=z _ C;refine⟨hm,?_,?_,?_,?_,?_⟩
 ·simp only;rw[Sq (by omega),Sq p,hlen]
 ·simp only;rw[Sq p];have:=h.size;omega
 ·intro j f' g' h1 m;obtain⟨j1,I,r,E⟩:=back fs j f' h1;obtain⟨j2,M,t,e2⟩:=back x.gs j g' m;have:j1=j2:=by rw[E,e2]
  subst this;refine⟨(o _ _).2 ⟨(h.ent j1 f' g' r t).1,λe=>I (n j1 f' r (str_inj e)).symm⟩,old j1 f' g' r t⟩
 ·intro k v F;obtain⟨h1,m⟩:=(o k v).1 F;obtain⟨j,f',g',w,r2,J,N⟩:=h.ent' k v h1;have O:j≠i:=by
   intro e;subst e;rw[y] at w;cases w;exact m J
  refine⟨if j<i then j else j - 1,f',g',?_,?_,J,N⟩
  ·by_cases q:j<i
   ·rw[if_pos q,R5,if_pos q];exact w
   ·rw[if_neg q,R5,if_neg (by omega),show j - 1+1=j by omega];exact w
  ·simp only;by_cases q:j<i
   ·rw[if_pos q,R5,if_pos q];exact r2
   ·rw[if_neg q,R5,if_neg (by omega),show j - 1+1=j by omega];exact r2
 ·intro a c K gc h1 m P;obtain⟨j1,I,r,E⟩:=back x.gs a K h1;obtain⟨j2,M,t,e2⟩:=back x.gs c gc m;refine h.apart j1 j2 K gc r t ?_;rw[E,e2];split<;>split<;>omega
theorem xP {x:DG}{a:Array MapEntry}{i:Nat}:∀b,DG.fp ⟨x.m,a,x.clk,x.gs.eraseIdx i⟩ b->x.fp b:=by
 rintro b (e|⟨g,c,d⟩)
 ·exact .inl e
 ·exact .inr ⟨g,List.mem_of_mem_eraseIdx c,d⟩
theorem Dk.WF.sub {s a:Dk}(h:s.WF){i:Nat}(hi:i<s.files.length)(b:a.files=s.files.eraseIdx i)(hm:a.most=s.most)(c:a.quota=s.quota)(d:a.crash=s.crash)(hd:a.down=s.down):a.WF:=by
 have hu:a.used<=s.used:=by
  have:=jg (λf:Fl=>f.aG.length) s.files i _ (List.getElem?_eq_getElem hi);unfold Dk.used;rw[b];omega
 refine⟨?_,by rw[hm];exact Nat.le_trans hu h.used,by rw[hm,c];exact h.most,by rw[c];exact h.quota,?_,by rw[hd,d];exact h.down,by rw[d];exact h.cin⟩
 ·rw[b];exact List.Nodup.sublist ((List.eraseIdx_sublist s.files i).map _) h.nodup
 ·rw[b,Sq hi];have:=h.files;omega
theorem Jf {x:DG}{cin kp:Int}{d:Nat}{s:Dk}{H:aa}{n:ByteArray}{K:Unit->aa->Prop}(h:gL x cin kp H d s)
  (D:s.idx n=none->K () H)
  (E:∀i l H',s.idx n=some i->gL ⟨x.m,l,x.clk,x.gs.eraseIdx i⟩ cin kp H' d (s.drop n)->Mod (λb=>b=d\/b=x.m) H H'->H'.size=H.size->K () H'):LD.sp (av d) n H K:=by
 refine LD.of ?_;unfold LD.vc;simp only[aw];refine h.head.ld (c:=dB) (i:=0) (x:=some x.m) rfl ?_;refine qd h.files rfl h.wf (λi f g hi r y L z=>?_) (λhi=>az rfl (D hi));refine aT rfl ?_;refine h.head.ld (c:=ai .i64) (i:=1) (x:=s.used) rfl ?_;simp only[aw];refine z.row.ld (c:=au) (i:=0) (x:=g.now) rfl ?_;have o:=z.now.n (by decide);refine h.head.st (i:=1) (by decide:1<10) (by rfl) λH1 A m1 s1=>?_;refine A.ld (c:=dB) (i:=0) (x:=some x.m) rfl ?_;have p:=gL.uL h.head h.files;have f1:bu H1 x s.files:=h.files.aE λb B t=>m1.same b t λe=>p (e▸B);obtain⟨M,inf,hu,hd,F,hz⟩:=tZ;refine sQ hu hd f1.map (k:=.string n) trivial λl G m2 it I m s2=>?_;have u:d≠x.m:=λe=>p (.inl e);have a:s.drop n={s with files:=s.files.eraseIdx i}:=by unfold Dk.drop;rw[hi]
 have v:=(Qk.1 r).1;have q:=jg (λf:Fl=>f.aG.length) s.files i f r;refine E i l G hi ⟨?_,by rw[a];exact h.crash,?_,?_⟩ ((m1.mono λb _ e=>.inl e).trans (m.mono λb _ e=>.inr e)) (by omega)
 ·have J:Qe.wrap ((s.used:Int) - (g.now.n:Int))=((s.drop n).used:Int):=by
   have h1:(s.drop n).used+f.aG.length=s.used:=by rw[a];exact q
   have C:=h.wf.used;have N:=h.wf.most;have O:=h.wf.quota;rw[o,wrap64 (by omega) (by omega)];omega
  have r2:=m.at A u;rw[J] at r2;rw[a] at r2 ⊢;exact r2
 ·rw[a];refine bu.erase (H:=H1) f1 r (λj f' h1 C=>(h.wf.inj r h1 C.symm)) m2 (by rw[y];exact it) (by rw[y];exact I) λb B w t=>m.same b t w
 ·rw[a];exact h.wf.sub v rfl rfl rfl rfl rfl
theorem Dk.WF.push {s:Dk}(h:s.WF){n:ByteArray}(d:s.idx n=none)(j:s.files.length≠4096):({s with files:=s.files++[⟨n,[],[]⟩]}:Dk).WF:=by
 have hu:({s with files:=s.files++[⟨n,[],[]⟩]}:Dk).used=s.used:=by simp[Dk.used,Fl.aG]
 refine⟨?_,by rw[hu];exact h.used,h.most,h.quota,?_,h.down,h.cin⟩
 ·simp only[List.map_append,List.map_cons,List.map_nil];rw[List.nodup_append];refine⟨h.nodup,by simp,?_⟩;intro a g b c e;simp at c;subst c;obtain⟨f,i,rfl⟩:=List.mem_map.1 g;exact Dk.tD d f i (ka e)
 ·have:=h.files;simp;omega
theorem DR {F:Nat->Prop}{d:Nat}{s:Dk}{H:aa}{n:ByteArray}{K:Int->aa->Prop}(h:cC F H d s)
  (o:∀F' H',cC F' H' d (s.create n).1->Step F F' H H'->K (s.create n).2 H'):LP.sp (av d) n H K:=by
 have h0:=h;obtain⟨x,cin,kp,g,C⟩:=h;refine LP.of ?_;unfold LP.vc;simp only[aw];refine tU g.head (down:=s.down) rfl ?_;have stay:∀e:Int,s.create n=(s,e)->K e H:=by
  intro e he;have:=o F H (by rw[he];exact h0) (.refl _ _);rw[he] at this;exact this
 cases hd:s.down with
 |true=>exact stay 4 (by unfold Dk.create;rw[hd];rfl)
 |false=>
   refine az rfl ?_;refine g.head.ld (c:=dB) (i:=0) (x:=some x.m) rfl ?_;have next:∀p:Option Addr×Bool,p.2=(s.idx n).isSome->Jh.sp n H (λ(r:Bool) A=>br (!r) (K (2:Int) A) (br p.2 (K (10:Int) A) (ld dB A (QS ⟨d,0,none⟩ 0) λ(O:Option Nat)=>Eo A O λ(P:Nat)=>br ((P:Int)==(4096:Int)) (K (3:Int) A) (FT.sp (av d) A λ(v:Int) a=>br (v==0) (ld dB a (QS ⟨d,0,none⟩ 0) λ(Q:Option Nat)=>aB a #[(.slice none 0 0),(.slice none 0 0),(.slice none 0 0)] MM λp R=>xJ Qf (Instr.mapUpdate LK (.map Q) (.string n) (.pointer (some p))) R λD=>K v D) (K v a))))):=by
    intro p hp;refine Hp ?_;refine ao (λw=>stay 2 ?_) (λw=>?_)
    ·unfold Dk.create;rw[hd];simp at w;simp[w]
    ·simp at w;rw[hp];refine ao (λhi=>stay 10 ?_) (λhi=>?_)
     ·unfold Dk.create;rw[hd];simp[w,hi]
     ·refine g.head.ld (c:=dB) (i:=0) (x:=some x.m) rfl ?_;refine⟨s.files.length,⟨x.es,x.clk,g.files.map.obj,g.files.size⟩,?_⟩;refine ao (λy=>stay 3 ?_) (λy=>?_)
      ·unfold Dk.create;rw[hd];simp at y;simp[w,hi,show s.files.length=4096 by omega]
      ·have E:s.files.length≠4096:=by simp at y;omega
       have G:s.idx n=none:=by simpa using hi
       have S:s.create n=s.step λt=>{t with files:=t.files++[⟨n,[],[]⟩]}:=by unfold Dk.create;rw[hd];simp[w,hi,E]
       rw[S] at o;refine ql g λI a g3 m3 s3=>?_;unfold Dk.step at o;refine ao (λhz=>?_) (λhz=>?_)
       ·have j:s.change.2=0:=by simpa using hz
        rw[if_pos j] at o;rw[j];refine g3.head.ld (c:=dB) (i:=0) (x:=some x.m) rfl ?_;refine aj λR s4 r4 M=>?_;obtain⟨et,inf,hu,T,af,hz⟩:=tZ;have z:=s.fC;have U:∀u,¬fN x.es (.string n) u:=by
         intro u V;obtain⟨i,f,W,B,_,q3,_⟩:=g3.files.ent' _ _ V;rw[z] at B;exact Dk.tD G f (Qi B) (str_inj q3).symm
        have f4:bu R x s.change.1.files:=g3.files.aE λb N y=>M.same b y id;refine ot hu T f4.map (k:=.string n) trivial U λD m5 l s5=>?_;have J:=M.at g3.head id;have X:=gL.uL J f4;have Y:d≠x.m:=λe=>X (.inl e);have Z:a.size≠x.m:=by have:=g3.files.map.lt;omega
        have r5:=l.at r4 Z;have hq:dU D ⟨a.size,Sl.mk none 0 0,Sl.mk none 0 0,Sl.mk none 0 0⟩ ⟨n,[],[]⟩:=
         ⟨r5,dm.nil _ _ _,dm.nil _ _ _,dm.nil _ _ _,by rintro b ⟨ad,q,_⟩;cases q⟩
        have f5:=bu.push (H:=a) g3.files (f:=⟨n,[],[]⟩) (g:=⟨a.size,Sl.mk none 0 0,Sl.mk none 0 0,Sl.mk none 0 0⟩) hq m5 (λb N ae y=>(l.same b (by omega) ae).trans (M.same b y id)) (by
         rintro b (e|⟨ad,q,_⟩|⟨ad,q,_⟩|⟨ad,q,_⟩)
         ·rw[e];exact Nat.le_refl _
         ·cases q
         ·cases q
         ·cases q)
        have L:s.change.1.idx n=none:=by unfold Dk.idx;rw[z];exact G
        have gg:gL ⟨x.m,_,_,_⟩ I kp D d {s.change.1 with files:=s.change.1.files++[⟨n,[],[]⟩]}:=
         ⟨by
          have:=l.at J Y;have hu:({s.change.1 with files:=s.change.1.files++[⟨n,[],[]⟩]}:Dk).used=s.change.1.used:=by simp[Dk.used,Fl.aG]
          rw[hu];exact this,g3.crash,f5,g3.wf.push L (by rw[z];exact E)⟩
        obtain⟨F',B,q2⟩:=gg.out (x:=x) (F:=F) (H:=H) C (((m3.mono λb _ e=>(C b).2 (.inl e)).trans (Ext.mod M)).trans (l.mono λb _ e=>(C b).2 (.inr (.inl e)))) (by
         rintro b (e|⟨W,m,N⟩)
         ·exact .inl (.inl e)
         ·simp at m;rcases m with m|rfl
          ·exact .inl (.inr ⟨W,m,N⟩)
          ·rcases N with e|⟨ad,q,_⟩|⟨ad,q,_⟩|⟨ad,q,_⟩
           ·right;rw[e];simp only;omega
           ·cases q
           ·cases q
           ·cases q)
        exact o F' D B q2
       ·have j:s.change.2≠0:=by simpa using hz
        rw[if_neg j] at o;obtain⟨F',B,q2⟩:=g3.out (x:=x) (F:=F) (H:=H) C (m3.mono λb _ e=>(C b).2 (.inl e)) (λb q=>.inl q);exact o F' a B q2
   refine qd g.files rfl g.wf (λi f W h1 h2 h3 h4 h5=>next _ (by rw[h1];rfl)) (λh1=>next _ (by rw[h1];rfl))
end Go.Proofs.YtkehfflpbpdokaaGreatDoor
