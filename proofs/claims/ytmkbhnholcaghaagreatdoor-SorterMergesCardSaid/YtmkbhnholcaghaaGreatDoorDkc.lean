/-
 The disk: files made, taken away, named anew.
-/
import Derived.Test.YtmkbhnholcaghaaGreatDoorDkb
open Go.Addr renaming add->O4
open Go.IntKind renaming i64->Ol
open Go.Proofs.Tryz renaming prog->Oj
open List renaming getElem?_eq_some_iff->Om,mem_of_getElem?->Oo,getElem?_append_left->OP,getElem?_append_right->Pr,length_eraseIdx_of_lt->Qp,getElem?_eraseIdx->Qw
open List.Nodup renaming sublist->Zp
namespace Go.Proofs.YtmkbhnholcaghaaGreatDoor
open Go.MapKept
theorem iz {es:Array MapEntry}{k v a b:Value}{c:Nat}:eU (es.push {key:=k,val:=v,born:=c}) a b↔eU es a b\/(a=k/\b=v):=by
 constructor
 ·rintro⟨e,he,h1,d⟩;simp only[Array.toList_push,List.mem_append,List.mem_singleton] at he;rcases he with he|he
  ·exact .inl ⟨e,he,h1,d⟩
  ·subst he;exact .inr ⟨h1.symm,d.symm⟩
 ·rintro(⟨e,he,h1,d⟩|⟨rfl,rfl⟩)
  ·exact⟨e,by simp[Array.mem_toList_iff.1 he],h1,d⟩
  ·exact⟨⟨a,b,c⟩,by simp,rfl,rfl⟩
theorem str_inj {a b:ByteArray}(h:Value.string a=.string b):a=b:=by cases h;rfl
theorem sN {a b:Nat}(h:dg a=dg b):a=b:=by unfold dg at h;simp at h;exact h
theorem aX.push {H H':aa}{x:DG}{fs:List Fl}(h:aX H x fs){f:Fl}{g:FG}(t:cD H' g f)(hm:cc .string H' x.m (x.es.push {key:=.string f.name,val:=dg g.p,born:=x.clk}) (x.clk+1))
  (hk:∀b,x.fp b->b≠x.m->b<H.size->H'[b]?=H[b]?) (r:∀b,g.fp b->H.size<=b):aX H' ⟨x.m,x.es.push {key:=.string f.name,val:=dg g.p,born:=x.clk},x.clk+1,x.gs++[g]⟩ (fs++[f]):=by
 have old:∀(i:Nat) (f:Fl) (g:FG),fs[i]?=some f->x.gs[i]?=some g->eU x.es (.string f.name) (dg g.p)/\cD H' g f:=λi f g h1 a=>
  ⟨(h.ent i f g h1 a).1,(h.ent i f g h1 a).2.keep λb s o=>hk b (.inr ⟨g,Oo a,s⟩) (λe=>h.wL (Oo a) (e▸s)) o⟩
 have hlen:=h.len;have split:∀(i:Nat) (f':Fl) (g':FG),(fs++[f])[i]?=some f'->(x.gs++[g])[i]?=some g'->(fs[i]?=some f'/\x.gs[i]?=some g')\/(i=fs.length/\f'=f/\g'=g):=by
  intro i f' g' h1 a;by_cases hi:i<fs.length
  ·rw[OP hi] at h1;rw[OP (by omega)] at a;exact .inl ⟨h1,a⟩
  ·rw[Pr (by omega)] at h1 a;have:i=fs.length:=by
    have:=(Om.1 h1).1;simp at this;omega
   subst this;simp[hlen] at h1 a;exact .inr ⟨rfl,h1.symm,a.symm⟩
 refine⟨hm,by simp[hlen],by simp[h.size],?_,?_,?_⟩
 ·intro i f' g' h1 a;rcases split i f' g' h1 a with ⟨m,n⟩|⟨_,rfl,rfl⟩
  ·exact⟨iz.2 (.inl (old i f' g' m n).1),(old i f' g' m n).2⟩
  ·exact⟨iz.2 (.inr ⟨rfl,rfl⟩),t⟩
 ·intro k v c;rcases iz.1 c with c|⟨rfl,rfl⟩
  ·obtain⟨i,f',g',h1,a,u,w⟩:=h.ent' k v c;have hi:=(Om.1 h1).1;exact⟨i,f',g',by rw[OP hi];exact h1,by simp only;rw[OP (by omega)];exact a,u,w⟩
  ·exact⟨fs.length,f,g,by simp,by simp[<-hlen],rfl,rfl⟩
 ·intro i j g1 g2 h1 a p b d l;have ex:∀(i:Nat) (g1:FG),(x.gs++[g])[i]?=some g1->(x.gs[i]?=some g1/\i<x.gs.length)\/(i=x.gs.length/\g1=g):=by
   intro i g1 h1;by_cases hi:i<x.gs.length
   ·rw[OP hi] at h1;exact .inl ⟨h1,hi⟩
   ·rw[Pr (by omega)] at h1;have:i=x.gs.length:=by
     have:=(Om.1 h1).1;simp at this;omega
    subst this;simp at h1;exact .inr ⟨rfl,h1.symm⟩
  rcases ex i g1 h1 with ⟨m,y⟩|⟨z,rfl⟩<;>rcases ex j g2 a with ⟨n,A⟩|⟨e2,rfl⟩
  ·exact h.apart i j g1 g2 m n p b d l
  ·obtain⟨_,_,_,q⟩:=h.yd m;have:=q.lt b d;have:=r b l;omega
  ·obtain⟨_,_,_,q⟩:=h.yd n;have:=q.lt b l;have:=r b d;omega
  ·omega
theorem aX.erase {H H':aa}{x:DG}{fs:List Fl}{d:Array MapEntry}(h:aX H x fs){i:Nat}{f:Fl}(z:fs[i]?=some f)(o:∀(j:Nat) (f':Fl),fs[j]?=some f'->f'.name=f.name->i=j)
  (hm:cc .string H' x.m d x.clk) (p:∀k v,eU d k v↔eU x.es k v/\k≠.string f.name) (A:∀u,eU x.es (.string f.name) u->d.size+1=x.es.size)
  (hk:∀b,x.fp b->b≠x.m->b<H.size->H'[b]?=H[b]?):aX H' ⟨x.m,d,x.clk,x.gs.eraseIdx i⟩ (fs.eraseIdx i):=by
 have old:∀(i:Nat) (f:Fl) (g:FG),fs[i]?=some f->x.gs[i]?=some g->cD H' g f:=λi f g h1 m=>
  (h.ent i f g h1 m).2.keep λb J B=>hk b (.inr ⟨g,Oo m,J⟩) (λe=>h.wL (Oo m) (e▸J)) B
 have r:=(Om.1 z).1;have hlen:=h.len;have back:∀{α:Type} (l:List α) (j:Nat) (a:α),(l.eraseIdx i)[j]?=some a->∃C,C≠i/\l[C]?=some a/\C=if j<i then j else j+1:=by
  intro α l j a t;rw[Qw] at t;split at t
  ·rename_i q;exact⟨j,by omega,t,by rw[if_pos q]⟩
  ·rename_i q;exact⟨j+1,by omega,t,by rw[if_neg q]⟩
 obtain⟨g0,M,D,_⟩:=h.BT z;have E:=A _ D;refine⟨hm,?_,?_,?_,?_,?_⟩
 ·simp only;rw[Qp (by omega),Qp r,hlen]
 ·simp only;rw[Qp r];have:=h.size;omega
 ·intro j f' g' h1 m;obtain⟨n,n1,s,F⟩:=back fs j f' h1;obtain⟨G,n2,w,e2⟩:=back x.gs j g' m;have:n=G:=by rw[F,e2]
  subst this;refine⟨(p _ _).2 ⟨(h.ent n f' g' s w).1,λe=>n1 (o n f' s (str_inj e)).symm⟩,old n f' g' s w⟩
 ·intro k v I;obtain⟨h1,m⟩:=(p k v).1 I;obtain⟨j,f',g',y,r2,K,N⟩:=h.ent' k v h1;have O:j≠i:=by
   intro e;subst e;rw[z] at y;cases y;exact m K
  refine⟨if j<i then j else j - 1,f',g',?_,?_,K,N⟩
  ·by_cases q:j<i
   ·rw[if_pos q,Qw,if_pos q];exact y
   ·rw[if_neg q,Qw,if_neg (by omega),show j - 1+1=j by omega];exact y
  ·simp only;by_cases q:j<i
   ·rw[if_pos q,Qw,if_pos q];exact r2
   ·rw[if_neg q,Qw,if_neg (by omega),show j - 1+1=j by omega];exact r2
 ·intro a c L gc h1 m P;obtain⟨n,n1,s,F⟩:=back x.gs a L h1;obtain⟨G,n2,w,e2⟩:=back x.gs c gc m;refine h.apart n G L gc s w ?_;rw[F,e2];split<;>split<;>omega
theorem wo {x:DG}{a:Array MapEntry}{i:Nat}:∀b,DG.fp ⟨x.m,a,x.clk,x.gs.eraseIdx i⟩ b->x.fp b:=by
 rintro b (e|⟨g,c,d⟩)
 ·exact .inl e
 ·exact .inr ⟨g,List.mem_of_mem_eraseIdx c,d⟩
theorem Dk.WF.sub {s s':Dk}(h:s.WF){i:Nat}(hi:i<s.files.length)(a:s'.files=s.files.eraseIdx i)(hm:s'.most=s.most)(b:s'.quota=s.quota)(c:s'.crash=s.crash)(hd:s'.down=s.down):s'.WF:=by
 have hu:s'.used<=s.used:=by
  have:=jL (λf:Fl=>f.aq.length) s.files i _ (List.getElem?_eq_getElem hi);unfold Dk.used;rw[a];omega
 refine⟨?_,by rw[hm];exact Nat.le_trans hu h.used,by rw[hm,b];exact h.most,by rw[b];exact h.quota,?_,by rw[hd,c];exact h.down,by rw[c];exact h.cin⟩
 ·rw[a];exact Zp ((List.eraseIdx_sublist s.files i).map _) h.nodup
 ·rw[a,Qp hi];have:=h.files;omega
theorem Ir {x:DG}{cin kp:Int}{d:Nat}{s:Dk}{H:aa}{n:ByteArray}{K:Unit->aa->Prop}(h:dj x cin kp H d s)
  (C:s.idx n=none->K () H)
  (D:∀i l H',s.idx n=some i->dj ⟨x.m,l,x.clk,x.gs.eraseIdx i⟩ cin kp H' d (s.drop n)->Mod (λb=>b=d\/b=x.m) H H'->H'.size=H.size->K () H'):Jo.sp (aE d) n H K:=by
 refine Jo.of ?_;unfold Jo.vc;simp only[al];refine h.head.ld (c:=bU) (i:=0) (x:=some x.m) rfl ?_;refine qe h.files rfl h.wf (λi f g hi r w J y=>?_) (λhi=>aC rfl (C hi));refine aP rfl ?_;refine h.head.ld (c:=ab .i64) (i:=1) (x:=s.used) rfl ?_;simp only[al];refine y.row.ld (c:=ak) (i:=0) (x:=g.now) rfl ?_;have o:=y.now.n (by decide);refine h.head.st (i:=1) (by decide:1<10) (by rfl) λH1 z m1 s1=>?_;refine z.ld (c:=bU) (i:=0) (x:=some x.m) rfl ?_;have p:=dj.lV h.head h.files;have f1:aX H1 x s.files:=h.files.keep λb A hl=>m1.same b hl λe=>p (e▸A);obtain⟨L,inf,hu,hd,E,M⟩:=lO;refine tt hu hd f1.map (k:=.string n) trivial λl F m2 it G m s2=>?_;have t:d≠x.m:=λe=>p (.inl e);have a:s.drop n={s with files:=s.files.eraseIdx i}:=by unfold Dk.drop;rw[hi]
 have u:=(Om.1 r).1;have q:=jL (λf:Fl=>f.aq.length) s.files i f r;refine D i l F hi ⟨?_,by rw[a];exact h.crash,?_,?_⟩ ((m1.mono λb _ e=>.inl e).trans (m.mono λb _ e=>.inr e)) (by omega)
 ·have I:Ol.wrap ((s.used:Int) - (g.now.n:Int))=((s.drop n).used:Int):=by
   have h1:(s.drop n).used+f.aq.length=s.used:=by rw[a];exact q
   have B:=h.wf.used;have N:=h.wf.most;have O:=h.wf.quota;rw[o,wrap64 (by omega) (by omega)];omega
  have r2:=m.at z t;rw[I] at r2;rw[a] at r2 ⊢;exact r2
 ·rw[a];refine aX.erase (H:=H1) f1 r (λj f' h1 B=>(h.wf.inj r h1 B.symm)) m2 (by rw[w];exact it) (by rw[w];exact G) λb A v hl=>m.same b hl v
 ·rw[a];exact h.wf.sub u rfl rfl rfl rfl rfl
theorem Dk.WF.push {s:Dk}(h:s.WF){n:ByteArray}(d:s.idx n=none)(hl:s.files.length≠4096):({s with files:=s.files++[⟨n,[],[]⟩]}:Dk).WF:=by
 have hu:({s with files:=s.files++[⟨n,[],[]⟩]}:Dk).used=s.used:=by simp[Dk.used,Fl.aq]
 refine⟨?_,by rw[hu];exact h.used,h.most,h.quota,?_,h.down,h.cin⟩
 ·simp only[List.map_append,List.map_cons,List.map_nil];rw[List.nodup_append];refine⟨h.nodup,by simp,?_⟩;intro a g b c e;simp at c;subst c;obtain⟨f,i,rfl⟩:=List.mem_map.1 g;exact Dk.rT d f i (gM e)
 ·have:=h.files;simp;omega
theorem Dq {F:Nat->Prop}{d:Nat}{s:Dk}{H:aa}{n:ByteArray}{K:Int->aa->Prop}(h:bo F H d s)
  (o:∀F' H',bo F' H' d (s.create n).1->Step F F' H H'->K (s.create n).2 H'):JQ.sp (aE d) n H K:=by
 have h0:=h;obtain⟨x,cin,kp,g,B⟩:=h;refine JQ.of ?_;unfold JQ.vc;simp only[al];refine lR g.head (down:=s.down) rfl ?_;have stay:∀e:Int,s.create n=(s,e)->K e H:=by
  intro e he;have:=o F H (by rw[he];exact h0) (.refl _ _);rw[he] at this;exact this
 cases hd:s.down with
 |true=>exact stay 4 (by unfold Dk.create;rw[hd];rfl)
 |false=>
   refine aC rfl ?_;refine g.head.ld (c:=bU) (i:=0) (x:=some x.m) rfl ?_;have next:∀p:Option Addr×Bool,p.2=(s.idx n).isSome->IM.sp n H (λ(r:Bool) z=>br (!r) (K (2:Int) z) (br p.2 (K (10:Int) z) (ld bU z (O4 ⟨d,0,none⟩ 0) λ(O:Option Nat)=>AY z O λ(P:Nat)=>br ((P:Int)==(4096:Int)) (K (3:Int) z) (DF.sp (aE d) z λ(v:Int) a=>br (v==0) (ld bU a (O4 ⟨d,0,none⟩ 0) λ(Q:Option Nat)=>aJ a #[(.slice none 0 0),(.slice none 0 0),(.slice none 0 0)] C0 λp R=>jo Oj (Instr.mapUpdate yX (.map Q) (.string n) (.pointer (some p))) R λC=>K v C) (K v a))))):=by
    intro p hp;refine EA ?_;refine ag (λw=>stay 2 ?_) (λw=>?_)
    ·unfold Dk.create;rw[hd];simp at w;simp[w]
    ·simp at w;rw[hp];refine ag (λhi=>stay 10 ?_) (λhi=>?_)
     ·unfold Dk.create;rw[hd];simp[w,hi]
     ·refine g.head.ld (c:=bU) (i:=0) (x:=some x.m) rfl ?_;refine⟨s.files.length,⟨x.es,x.clk,g.files.map.obj,g.files.size⟩,?_⟩;refine ag (λhl=>stay 3 ?_) (λhl=>?_)
      ·unfold Dk.create;rw[hd];simp at hl;simp[w,hi,show s.files.length=4096 by omega]
      ·have D:s.files.length≠4096:=by simp at hl;omega
       have E:s.idx n=none:=by simpa using hi
       have S:s.create n=s.step λt=>{t with files:=t.files++[⟨n,[],[]⟩]}:=by unfold Dk.create;rw[hd];simp[w,hi,D]
       rw[S] at o;refine nf g λG a g3 m3 s3=>?_;unfold Dk.step at o;refine ag (λL=>?_) (λL=>?_)
       ·have j:s.change.2=0:=by simpa using L
        rw[if_pos j] at o;rw[j];refine g3.head.ld (c:=bU) (i:=0) (x:=some x.m) rfl ?_;refine av λR s4 r4 M=>?_;obtain⟨et,inf,hu,T,an,L⟩:=lO;have y:=s.bm;have U:∀u,¬eU x.es (.string n) u:=by
         intro u V;obtain⟨i,f,W,A,_,q3,_⟩:=g3.files.ent' _ _ V;rw[y] at A;exact Dk.rT E f (Oo A) (str_inj q3).symm
        have f4:aX R x s.change.1.files:=g3.files.keep λb N hl=>M.same b hl id;refine nM hu T f4.map (k:=.string n) trivial U λC m5 l s5=>?_;have I:=M.at g3.head id;have X:=dj.lV I f4;have Y:d≠x.m:=λe=>X (.inl e);have Z:a.size≠x.m:=by have:=g3.files.map.lt;omega
        have r5:=l.at r4 Z;have hq:cD C ⟨a.size,Sl.mk none 0 0,Sl.mk none 0 0,Sl.mk none 0 0⟩ ⟨n,[],[]⟩:=
         ⟨r5,az.nil _ _ _,az.nil _ _ _,az.nil _ _ _,by rintro b ⟨ad,q,_⟩;cases q⟩
        have f5:=aX.push (H:=a) g3.files (f:=⟨n,[],[]⟩) (g:=⟨a.size,Sl.mk none 0 0,Sl.mk none 0 0,Sl.mk none 0 0⟩) hq m5 (λb N af hl=>(l.same b (by omega) af).trans (M.same b hl id)) (by
         rintro b (e|⟨ad,q,_⟩|⟨ad,q,_⟩|⟨ad,q,_⟩)
         ·rw[e];exact Nat.le_refl _
         ·cases q
         ·cases q
         ·cases q)
        have J:s.change.1.idx n=none:=by unfold Dk.idx;rw[y];exact E
        have gg:dj ⟨x.m,_,_,_⟩ G kp C d {s.change.1 with files:=s.change.1.files++[⟨n,[],[]⟩]}:=
         ⟨by
          have:=l.at I Y;have hu:({s.change.1 with files:=s.change.1.files++[⟨n,[],[]⟩]}:Dk).used=s.change.1.used:=by simp[Dk.used,Fl.aq]
          rw[hu];exact this,g3.crash,f5,g3.wf.push J (by rw[y];exact D)⟩
        obtain⟨F',A,q2⟩:=gg.out (x:=x) (F:=F) (H:=H) B (((m3.mono λb _ e=>(B b).2 (.inl e)).trans (Ext.mod M)).trans (l.mono λb _ e=>(B b).2 (.inr (.inl e)))) (by
         rintro b (e|⟨W,m,N⟩)
         ·exact .inl (.inl e)
         ·simp at m;rcases m with m|rfl
          ·exact .inl (.inr ⟨W,m,N⟩)
          ·rcases N with e|⟨ad,q,_⟩|⟨ad,q,_⟩|⟨ad,q,_⟩
           ·right;rw[e];simp only;omega
           ·cases q
           ·cases q
           ·cases q)
        exact o F' C A q2
       ·have j:s.change.2≠0:=by simpa using L
        rw[if_neg j] at o;obtain⟨F',A,q2⟩:=g3.out (x:=x) (F:=F) (H:=H) B (m3.mono λb _ e=>(B b).2 (.inl e)) (λb q=>.inl q);exact o F' a A q2
   refine qe g.files rfl g.wf (λi f W h1 h2 h3 h4 h5=>next _ (by rw[h1];rfl)) (λh1=>next _ (by rw[h1];rfl))
end Go.Proofs.YtmkbhnholcaghaaGreatDoor
