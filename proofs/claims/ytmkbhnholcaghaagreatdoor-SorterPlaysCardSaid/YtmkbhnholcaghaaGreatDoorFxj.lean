/-
 Ground, tenth text: elements, rows and variables of one cell, texts.
-/
import Derived.Test.YtmkbhnholcaghaaGreatDoorFxg
open Array renaming getElem?_eq_getElem->OJ
open Bool renaming and_eq_true->Oj
open Go.Instr renaming storeAt->Ot
open Go.Value renaming int->On
open Go.Value.slice renaming injEq->Ov
open Nat renaming eq_of_beq_eq_true->Om,beq->OC,zero_add->Pt
open UInt8 renaming ofNat->OQ
namespace Go.Proofs.YtmkbhnholcaghaaGreatDoor
def MJ (P:Program)(t e:TypeId)(bytes:Nat)(z:Value->Bool):Bool:=
 (match P.underlying t with|some (.slice a)=>OC a e|_=>false)&&
 (match P.info? e with|some inf=>(match inf.zero with|some v=>z v&&OC v.cells.size 1|none=>false)&&(OC inf.size 1&&OC inf.bytes bytes)|none=>false)
theorem Bb {P:Program}{t e:TypeId}{bytes:Nat}{z:Value}{zb:Value->Bool}(d:∀v,zb v=true->v=z)(c:z.cells=#[z]) (h:MJ P t e bytes zb=true):El P t e bytes z:=by
 unfold MJ at h;simp only[Oj] at h;obtain⟨h1,a⟩:=h;split at h1
 ·rename_i j he;split at a
  ·rename_i inf hi;simp only[Oj] at a;obtain⟨b,f,g⟩:=a;split at b
   ·rename_i v i;simp only[Oj] at b;have:=Om h1;subst this;exact⟨inf,he,hi,by rw[i,d v b.1],c,Om f,Om g⟩
   ·cases b
  ·cases a
 ·cases h1
def rV (k:IntKind)(v:Value):Bool:=match v with|.int a n=>a==k&&decide (n=0)|_=>false
theorem qb {k:IntKind}(v:Value)(h:rV k v=true):v=.int k 0:=by
 unfold rV at h;split at h
 ·simp at h;rw[h.1,h.2]
 ·cases h
def DM (v:Value):Bool:=match v with|.slice none n c=>OC n 0&&OC c 0|_=>false
theorem Ec (v:Value)(h:DM v=true):v=.slice none 0 0:=by
 unfold DM at h;split at h
 ·simp at h;rw[h.1,h.2]
 ·cases h
theorem lk (a:Option Addr)(c:Nat):cA a c 0 1=a:=by
 unfold cA;split
 ·rfl
 ·cases a<;>simp[add_zero']
theorem nc (k:IntKind)(l:List Int):∀u∈l.map (On k),u.oneCell'=true:=by
 intro u hu;obtain⟨x,_,rfl⟩:=List.mem_map.1 hu;rfl
theorem aM.cap {H:aa}{base:Nat}{e:TypeId}{size:Nat}{s:Sl}{xs:List Value}(h:aM H base e size s xs):s.n<=s.c:=by
 rcases h.2 with ⟨a,e2⟩|⟨g,cap,cur,a,c,d,b,f,i,j⟩
 ·omega
 ·cases s;simp only[Sl.v,Ov] at a;simp only at b ⊢;omega
def jz (H:aa)(p:Addr)(cs:Array Value):Prop:=p.spot=none/\p.off=0/\∃t,H[p.block]?=some (.cells cs t (0,0))
theorem jz.cell {H:aa}{p:Addr}{cs:Array Value}(h:jz H p cs){i:Nat}(hi:i<cs.size):cK H (p.add i)=some cs[i]:=by
 obtain⟨b,o,sp⟩:=p;obtain⟨h1,a,t,c⟩:=h;simp only at h1 a c;subst h1;subst a;rw[add_lit,Pt];exact cq c (OJ hi)
theorem jz.lt {H:aa}{p:Addr}{cs:Array Value}(h:jz H p cs):p.block<H.size:=by
 obtain⟨_,_,t,a⟩:=h;rcases Nat.lt_or_ge p.block H.size with h1|h1
 ·exact h1
 ·rw[Array.getElem?_eq_none h1] at a;cases a
theorem jz.mod {F:Nat->Prop}{H H':aa}{p:Addr}{cs:Array Value}(h:jz H p cs)(hm:Mod F H H')(a:¬F p.block):jz H' p cs:=by
 have hl:=h.lt;obtain⟨h1,b,t,c⟩:=h;exact⟨h1,b,t,(hm.same _ hl a).trans c⟩
theorem jz.c8 {H:aa}{p:Addr}{cs:Array Value}(h:jz H p cs){n:Nat}(a:cs.size=n){K:Array Value->Prop}(b:K cs):c8 jQ n H p K:=
 ⟨cs,⟨cs,rfl,a,λi hi=>by rw[h.cell (by omega),OJ (by omega)]⟩,b⟩
theorem jz.st {H:aa}{p:Addr}{cs:Array Value}{v:Value}{K:aa->Prop}(h:jz H p cs){i:Nat}(hi:i<cs.size)(e:jl v=true)
  (f:∀H',jz H' p (cs.setIfInBounds i v)->Mod (λb=>b=p.block) H H'->H'.size=H.size->K H'):st H (p.add i) v K:=by
 have g:=h.cell hi;obtain⟨b,o,sp⟩:=p;obtain⟨h1,d,t,c⟩:=h;simp only at h1 d c;subst h1;subst d;refine⟨e,⟨_,g⟩,?_,f _ ⟨rfl,rfl,t,?_⟩ (Mod.set (dz _ _)) (iy _ _ _)⟩
 ·rw[add_lit];exact dv c
 ·rw[add_lit,Pt];exact ot (a:=⟨b,i,none⟩) c rfl
theorem th {H:aa}{cs:Array Value}{t:TypeId}{K:Addr->aa->Prop}(a:∀p H',p.block=H.size->H'.size=H.size+1->jz H' p cs->Ext H H'->K p H'):aI H cs t K:=
 a _ _ rfl (by simp) ⟨rfl,rfl,t,by simp⟩ (Mod.push _ _ _)
def nv (P:Program)(ty:TypeId)(n:Nat):Bool:=match P.info? ty with|some i=>OC i.size n|none=>false
theorem jz.iF {P:Program}{ty:TypeId}{H:aa}{p:Addr}{old cs:Array Value}{K:aa->Prop}(h:jz H p old)(hi:nv P ty cs.size=true)(f:old.size=cs.size)(h1:cs.all (·.oneCell')=true)
  (g:∀H',jz H' p cs->Mod (λb=>b=p.block) H H'->H'.size=H.size->K H'):jk P (Ot ty (.pointer (some p)) (.agg cs)) H K:=by
 intro w hw;subst hw;obtain⟨b,o,sp⟩:=p;obtain⟨d,e,t,a⟩:=h;simp only at d e a;subst d;subst e;have c:(P.info? ty).map (·.size)=some cs.size:=by
  unfold nv at hi;split at hi
  ·rename_i i he;rw[he];simp[Om hi]
  ·cases hi
 have j:=run_storeVar_row (P:=P) w b t ty old cs a c f h1;refine⟨(),w.setRow b cs,?_,g _ ⟨rfl,rfl,t,setRow_heap w b old cs t _ a⟩ ⟨by simp,λk _ hk=>setRow_other w b k cs hk⟩ (by simp),(.of_le rfl (Nat.le_refl _))⟩;simp only[Ot,Instr.sureAddr,Sem.run_bind,Sem.run_pure,Result.andThen_ok,j]
theorem jz.reads {H:aa}{p:Addr}{cs:Array Value}(h:jz H p cs):Reads H (some p) cs.toList:=by
 intro i v b;refine⟨p,rfl,?_⟩;have a:i<cs.size:=by have:=(List.getElem?_eq_some_iff.1 b).1;simpa using this
 rw[h.cell a];rw[<-b];simp[a]
theorem aM.obj {H:aa}{base:Nat}{e:TypeId}{size:Nat}{s:Sl}{xs:List Value}(h:aM H base e size s xs):∀b,ag s b->∃cur,H[b]?=some (.cells cur e (0,0)):=by
 rintro b ⟨ad,a,rfl⟩;rcases h.2 with ⟨c,_⟩|⟨g,cap,cur,c,f,d,_⟩
 ·cases s;simp only[Sl.v,Ov] at c a;rw[c.1] at a;cases a
 ·cases s;simp only[Sl.v,Ov] at c a;rw[c.1] at a;cases a;exact⟨cur,d⟩
theorem aM.apart {H:aa}{base a:Nat}{e i:TypeId}{size c:Nat}{s s':Sl}{xs d:List Value}(h:aM H base e size s xs)(k:aM H a i c s' d)(f:e≠i):∀b,ag s b->¬ag s' b:=by
 intro b h1 j;obtain⟨c1,l⟩:=h.obj b h1;obtain⟨c2,g⟩:=k.obj b j;rw[l] at g;simp at g;exact f g.2
theorem aM.Ml {H:aa}{base:Nat}{e:TypeId}{size:Nat}{s:Sl}{xs:List Value}(h:aM H base e size s xs)(a:s.a=none):s.n=0:=by
 rcases h.2 with ⟨_,e2⟩|⟨g,cap,cur,b,_⟩
 ·exact e2
 ·cases s;simp only[Sl.v,Ov] at b a;rw[b.1] at a;cases a
theorem jy {k:IntKind}{H:aa}{s:Sl}{l:List Int}(h:Ints k H s l){i:Int}{j:Nat}(e:i=(j:Int))(h1:j<l.length){K:Addr->Int->Prop}(b:∀ad,s.a=some ad->K ad (l.getD j 0)):
  ae s.a λa=>(0<=i/\i<(s.n:Int))/\ld (ab k) H (a.add (i.toNat*1)) λx=>K a x:=by
 subst e;exact h.ld (by omega) (by omega) (by simpa using b)
structure dM (H:aa)(p:Addr)(t:TypeId)(v:Value):Prop where
 spot:p.spot=none
 off:p.off=0
 obj:H[p.block]?=some (.cells #[v] t (0,0))
theorem dM.var {H:aa}{p:Addr}{t:TypeId}{v:Value}(h:dM H p t v):Var H p v:=⟨h.spot,h.off,t,h.obj⟩
theorem dM.lt {H:aa}{p:Addr}{t:TypeId}{v:Value}(h:dM H p t v):p.block<H.size:=h.var.lt
theorem dM.mod {F:Nat->Prop}{H H':aa}{p:Addr}{t:TypeId}{v:Value}(h:dM H p t v)(hm:Mod F H H')(a:¬F p.block):dM H' p t v:=⟨h.spot,h.off,(hm.same _ h.lt a).trans h.obj⟩
theorem dM.ext {H H':aa}{p:Addr}{t:TypeId}{v:Value}(h:dM H p t v)(hm:Ext H H'):dM H' p t v:=h.mod hm id
theorem dM.ld {c:eO}{H:aa}{p:Addr}{t:TypeId}{x:c.α}{K:c.α->Prop}(h:dM H p t (c.enc x))(a:K x):Go.Proofs.YtmkbhnholcaghaaGreatDoor.ld c H p K:=h.var.ld a
theorem dM.st {H:aa}{p:Addr}{t:TypeId}{u v:Value}{K:aa->Prop}(h:dM H p t u)(e:jl v=true)(f:∀H',dM H' p t v->Mod (λb=>b=p.block) H H'->H'.size=H.size->K H'):Go.Proofs.YtmkbhnholcaghaaGreatDoor.st H p v K:=by
 have g:=h.var.cell;obtain⟨b,o,sp⟩:=p;obtain⟨h1,d,c⟩:=h;simp only at h1 d c;subst h1;subst d;refine⟨e,⟨_,g⟩,dv c,f _ ⟨rfl,rfl,?_⟩ (Mod.set rfl) (iy _ _ _)⟩;rw[ot (a:=⟨b,0,none⟩) c rfl];rfl
theorem iA {H:aa}{v:Value}{t:TypeId}{K:Addr->aa->Prop}(a:∀p H',p.block=H.size->H'.size=H.size+1->dM H' p t v->Ext H H'->K p H'):aI H #[v] t K:=
 a _ _ rfl (by simp) ⟨rfl,rfl,by simp⟩ (Mod.push _ _ _)
theorem Mod.setObj {F:Nat->Prop}{H:aa}{l:Nat}{o:Obj}(h:F l):Mod F H (H.setIfInBounds l o):=
 ⟨by simp,λb _ a=>Array.getElem?_setIfInBounds_ne (by intro e;subst e;exact a h)⟩
theorem gk {H:aa}{l:Nat}{o a:Obj}(h:H[l]?=some o):(H.setIfInBounds l a)[l]?=some a:=by
 have:=(Array.getElem?_eq_some_iff.1 h).1;simp[this]
theorem aF {H:aa}{b:Nat}{c e:Array Value}{t d:TypeId}{f f':Nat×Nat}(h:H[b]?=some (.cells c t f))(a:H[b]?=some (.cells e d f')):t=d:=by
 rw[h] at a;simp at a;exact a.2.1
theorem uR {k:IntKind}{H:aa}{t:TypeId}(l:List Int){K:Addr->aa->Prop}(a:∀p H',H'.size=H.size+1->p.block=H.size->(∀c,Ints k H' ⟨some p,l.length,c⟩ l)->Ext H H'->K p H'):
  aI H (l.map (On k)).toArray t K:=by
 refine a _ _ (by simp) rfl (λc=>⟨rfl,?_⟩) (Mod.push _ _ _);intro i v b;refine⟨_,rfl,?_⟩;rw[add_lit,Pt];exact cq (c:=(l.map (On k)).toArray) (t:=t) (fz:=(0,0)) (by simp) (by simpa using b)
def bytesOf (l:List Int):ByteArray:=⟨(l.map λx=>OQ x.toNat).toArray⟩
theorem ofNat_toNat {x:Int}(h:0<=x/\x<256):((OQ x.toNat).toNat:Int)=x:=by
 rw[UInt8.toNat_ofNat'];omega
theorem Ints.fH {H:aa}{s:Sl}{l:List Int}(h:Ints .u8 H s l)(c:∀x∈l,0<=x/\x<256):Go.Proofs.YtmkbhnholcaghaaGreatDoor.fH H s.a s.n (bytesOf l):=by
 have d:=h.len;unfold Go.Proofs.YtmkbhnholcaghaaGreatDoor.fH;split
 ·rename_i b;have:l=[]:=by
   cases l with
   |nil=>rfl
   |cons x r=>
     obtain⟨ad,e,_⟩:=h.at (i:=0) (by simp);rw[b] at e;cases e
  subst this;rfl
 ·rename_i ad b;refine⟨by simp[bytesOf,ByteArray.size,d],λi hi=>?_⟩;have a:i<l.length:=by omega
  obtain⟨f,e,g⟩:=h.at a;rw[b] at e;cases e;rw[g];have:pZ (bytesOf l) i=OQ (l[i]).toNat:=by simp[pZ,bytesOf,a]
  rw[this,ofNat_toNat (c _ (List.getElem_mem a))]
theorem KV {H:aa}{s:Sl}{l:List Int}{K:ByteArray->Prop}(h:Ints .u8 H s l)(a:∀x∈l,0<=x/\x<256)(b:K (bytesOf l)):vM H s.a s.n K:=⟨_,h.fH a,b⟩
end Go.Proofs.YtmkbhnholcaghaaGreatDoor
