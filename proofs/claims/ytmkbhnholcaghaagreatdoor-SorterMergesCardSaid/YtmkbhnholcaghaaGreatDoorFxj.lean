/-
 Ground, tenth text: elements, rows and variables of one cell, texts.
-/
import Derived.Test.YtmkbhnholcaghaaGreatDoorFxg
open Array renaming getElem?_eq_getElem->OX
open Bool renaming and_eq_true->OB
open Go.Instr renaming storeAt->OI
open Go.Value renaming int->OF
open Go.Value.slice renaming injEq->ON
open Nat renaming eq_of_beq_eq_true->OD,beq->OQ,zero_add->PI
open UInt8 renaming ofNat->O5
namespace Go.Proofs.YtmkbhnholcaghaaGreatDoor
def MS (P:Program)(t e:TypeId)(bytes:Nat)(z:Value->Bool):Bool:=
 (match P.underlying t with|some (.slice a)=>OQ a e|_=>false)&&
 (match P.info? e with|some inf=>(match inf.zero with|some v=>z v&&OQ v.cells.size 1|none=>false)&&(OQ inf.size 1&&OQ inf.bytes bytes)|none=>false)
theorem Bp {P:Program}{t e:TypeId}{bytes:Nat}{z:Value}{zb:Value->Bool}(d:∀v,zb v=true->v=z)(c:z.cells=#[z]) (h:MS P t e bytes zb=true):El P t e bytes z:=by
 unfold MS at h;simp only[OB] at h;obtain⟨h1,a⟩:=h;split at h1
 ·rename_i j he;split at a
  ·rename_i inf hi;simp only[OB] at a;obtain⟨b,f,g⟩:=a;split at b
   ·rename_i v i;simp only[OB] at b;have:=OD h1;subst this;exact⟨inf,he,hi,by rw[i,d v b.1],c,OD f,OD g⟩
   ·cases b
  ·cases a
 ·cases h1
def sh (k:IntKind)(v:Value):Bool:=match v with|.int a n=>a==k&&decide (n=0)|_=>false
theorem qm {k:IntKind}(v:Value)(h:sh k v=true):v=.int k 0:=by
 unfold sh at h;split at h
 ·simp at h;rw[h.1,h.2]
 ·cases h
def DZ (v:Value):Bool:=match v with|.slice none n c=>OQ n 0&&OQ c 0|_=>false
theorem Er (v:Value)(h:DZ v=true):v=.slice none 0 0:=by
 unfold DZ at h;split at h
 ·simp at h;rw[h.1,h.2]
 ·cases h
theorem rV (a:Option Addr)(c:Nat):cE a c 0 1=a:=by
 unfold cE;split
 ·rfl
 ·cases a<;>simp[add_zero']
theorem ph (k:IntKind)(l:List Int):∀u∈l.map (OF k),u.oneCell'=true:=by
 intro u hu;obtain⟨x,_,rfl⟩:=List.mem_map.1 hu;rfl
theorem aO.cap {H:aa}{base:Nat}{e:TypeId}{size:Nat}{s:Sl}{xs:List Value}(h:aO H base e size s xs):s.n<=s.c:=by
 rcases h.2 with ⟨a,e2⟩|⟨g,cap,cur,a,c,d,b,f,i,j⟩
 ·omega
 ·cases s;simp only[Sl.v,ON] at a;simp only at b ⊢;omega
def jD (H:aa)(p:Addr)(cs:Array Value):Prop:=p.spot=none/\p.off=0/\∃t,H[p.block]?=some (.cells cs t (0,0))
theorem jD.cell {H:aa}{p:Addr}{cs:Array Value}(h:jD H p cs){i:Nat}(hi:i<cs.size):cI H (p.add i)=some cs[i]:=by
 obtain⟨b,o,sp⟩:=p;obtain⟨h1,a,t,c⟩:=h;simp only at h1 a c;subst h1;subst a;rw[add_lit,PI];exact cC c (OX hi)
theorem jD.lt {H:aa}{p:Addr}{cs:Array Value}(h:jD H p cs):p.block<H.size:=by
 obtain⟨_,_,t,a⟩:=h;rcases Nat.lt_or_ge p.block H.size with h1|h1
 ·exact h1
 ·rw[Array.getElem?_eq_none h1] at a;cases a
theorem jD.mod {F:Nat->Prop}{H H':aa}{p:Addr}{cs:Array Value}(h:jD H p cs)(hm:Mod F H H')(a:¬F p.block):jD H' p cs:=by
 have hl:=h.lt;obtain⟨h1,b,t,c⟩:=h;exact⟨h1,b,t,(hm.same _ hl a).trans c⟩
theorem jD.c9 {H:aa}{p:Addr}{cs:Array Value}(h:jD H p cs){n:Nat}(a:cs.size=n){K:Array Value->Prop}(b:K cs):c9 jU n H p K:=
 ⟨cs,⟨cs,rfl,a,λi hi=>by rw[h.cell (by omega),OX (by omega)]⟩,b⟩
theorem jD.st {H:aa}{p:Addr}{cs:Array Value}{v:Value}{K:aa->Prop}(h:jD H p cs){i:Nat}(hi:i<cs.size)(e:jq v=true)
  (f:∀H',jD H' p (cs.setIfInBounds i v)->Mod (λb=>b=p.block) H H'->H'.size=H.size->K H'):st H (p.add i) v K:=by
 have g:=h.cell hi;obtain⟨b,o,sp⟩:=p;obtain⟨h1,d,t,c⟩:=h;simp only at h1 d c;subst h1;subst d;refine⟨e,⟨_,g⟩,?_,f _ ⟨rfl,rfl,t,?_⟩ (Mod.set (dE _ _)) (iA _ _ _)⟩
 ·rw[add_lit];exact dx c
 ·rw[add_lit,PI];exact oy (a:=⟨b,i,none⟩) c rfl
theorem tB {H:aa}{cs:Array Value}{t:TypeId}{K:Addr->aa->Prop}(a:∀p H',p.block=H.size->H'.size=H.size+1->jD H' p cs->Ext H H'->K p H'):aJ H cs t K:=
 a _ _ rfl (by simp) ⟨rfl,rfl,t,by simp⟩ (Mod.push _ _ _)
def nJ (P:Program)(ty:TypeId)(n:Nat):Bool:=match P.info? ty with|some i=>OQ i.size n|none=>false
theorem jD.iI {P:Program}{ty:TypeId}{H:aa}{p:Addr}{old cs:Array Value}{K:aa->Prop}(h:jD H p old)(hi:nJ P ty cs.size=true)(f:old.size=cs.size)(h1:cs.all (·.oneCell')=true)
  (g:∀H',jD H' p cs->Mod (λb=>b=p.block) H H'->H'.size=H.size->K H'):jo P (OI ty (.pointer (some p)) (.agg cs)) H K:=by
 intro w hw;subst hw;obtain⟨b,o,sp⟩:=p;obtain⟨d,e,t,a⟩:=h;simp only at d e a;subst d;subst e;have c:(P.info? ty).map (·.size)=some cs.size:=by
  unfold nJ at hi;split at hi
  ·rename_i i he;rw[he];simp[OD hi]
  ·cases hi
 have j:=run_storeVar_row (P:=P) w b t ty old cs a c f h1;refine⟨(),w.setRow b cs,?_,g _ ⟨rfl,rfl,t,setRow_heap w b old cs t _ a⟩ ⟨by simp,λk _ hk=>setRow_other w b k cs hk⟩ (by simp),(.of_le rfl (Nat.le_refl _))⟩;simp only[OI,Instr.sureAddr,Sem.run_bind,Sem.run_pure,Result.andThen_ok,j]
theorem jD.reads {H:aa}{p:Addr}{cs:Array Value}(h:jD H p cs):Reads H (some p) cs.toList:=by
 intro i v b;refine⟨p,rfl,?_⟩;have a:i<cs.size:=by have:=(List.getElem?_eq_some_iff.1 b).1;simpa using this
 rw[h.cell a];rw[<-b];simp[a]
theorem aO.obj {H:aa}{base:Nat}{e:TypeId}{size:Nat}{s:Sl}{xs:List Value}(h:aO H base e size s xs):∀b,ah s b->∃cur,H[b]?=some (.cells cur e (0,0)):=by
 rintro b ⟨ad,a,rfl⟩;rcases h.2 with ⟨c,_⟩|⟨g,cap,cur,c,f,d,_⟩
 ·cases s;simp only[Sl.v,ON] at c a;rw[c.1] at a;cases a
 ·cases s;simp only[Sl.v,ON] at c a;rw[c.1] at a;cases a;exact⟨cur,d⟩
theorem aO.apart {H:aa}{base a:Nat}{e i:TypeId}{size c:Nat}{s s':Sl}{xs d:List Value}(h:aO H base e size s xs)(k:aO H a i c s' d)(f:e≠i):∀b,ah s b->¬ah s' b:=by
 intro b h1 j;obtain⟨c1,l⟩:=h.obj b h1;obtain⟨c2,g⟩:=k.obj b j;rw[l] at g;simp at g;exact f g.2
theorem aO.Mu {H:aa}{base:Nat}{e:TypeId}{size:Nat}{s:Sl}{xs:List Value}(h:aO H base e size s xs)(a:s.a=none):s.n=0:=by
 rcases h.2 with ⟨_,e2⟩|⟨g,cap,cur,b,_⟩
 ·exact e2
 ·cases s;simp only[Sl.v,ON] at b a;rw[b.1] at a;cases a
theorem jC {k:IntKind}{H:aa}{s:Sl}{l:List Int}(h:Ints k H s l){i:Int}{j:Nat}(e:i=(j:Int))(h1:j<l.length){K:Addr->Int->Prop}(b:∀ad,s.a=some ad->K ad (l.getD j 0)):
  ae s.a λa=>(0<=i/\i<(s.n:Int))/\ld (ab k) H (a.add (i.toNat*1)) λx=>K a x:=by
 subst e;exact h.ld (by omega) (by omega) (by simpa using b)
structure dO (H:aa)(p:Addr)(t:TypeId)(v:Value):Prop where
 spot:p.spot=none
 off:p.off=0
 obj:H[p.block]?=some (.cells #[v] t (0,0))
theorem dO.var {H:aa}{p:Addr}{t:TypeId}{v:Value}(h:dO H p t v):Var H p v:=⟨h.spot,h.off,t,h.obj⟩
theorem dO.lt {H:aa}{p:Addr}{t:TypeId}{v:Value}(h:dO H p t v):p.block<H.size:=h.var.lt
theorem dO.mod {F:Nat->Prop}{H H':aa}{p:Addr}{t:TypeId}{v:Value}(h:dO H p t v)(hm:Mod F H H')(a:¬F p.block):dO H' p t v:=⟨h.spot,h.off,(hm.same _ h.lt a).trans h.obj⟩
theorem dO.ext {H H':aa}{p:Addr}{t:TypeId}{v:Value}(h:dO H p t v)(hm:Ext H H'):dO H' p t v:=h.mod hm id
theorem dO.ld {c:eM}{H:aa}{p:Addr}{t:TypeId}{x:c.α}{K:c.α->Prop}(h:dO H p t (c.enc x))(a:K x):Go.Proofs.YtmkbhnholcaghaaGreatDoor.ld c H p K:=h.var.ld a
theorem dO.st {H:aa}{p:Addr}{t:TypeId}{u v:Value}{K:aa->Prop}(h:dO H p t u)(e:jq v=true)(f:∀H',dO H' p t v->Mod (λb=>b=p.block) H H'->H'.size=H.size->K H'):Go.Proofs.YtmkbhnholcaghaaGreatDoor.st H p v K:=by
 have g:=h.var.cell;obtain⟨b,o,sp⟩:=p;obtain⟨h1,d,c⟩:=h;simp only at h1 d c;subst h1;subst d;refine⟨e,⟨_,g⟩,dx c,f _ ⟨rfl,rfl,?_⟩ (Mod.set rfl) (iA _ _ _)⟩;rw[oy (a:=⟨b,0,none⟩) c rfl];rfl
theorem iC {H:aa}{v:Value}{t:TypeId}{K:Addr->aa->Prop}(a:∀p H',p.block=H.size->H'.size=H.size+1->dO H' p t v->Ext H H'->K p H'):aJ H #[v] t K:=
 a _ _ rfl (by simp) ⟨rfl,rfl,by simp⟩ (Mod.push _ _ _)
theorem Mod.setObj {F:Nat->Prop}{H:aa}{l:Nat}{o:Obj}(h:F l):Mod F H (H.setIfInBounds l o):=
 ⟨by simp,λb _ a=>Array.getElem?_setIfInBounds_ne (by intro e;subst e;exact a h)⟩
theorem gr {H:aa}{l:Nat}{o a:Obj}(h:H[l]?=some o):(H.setIfInBounds l a)[l]?=some a:=by
 have:=(Array.getElem?_eq_some_iff.1 h).1;simp[this]
theorem aG {H:aa}{b:Nat}{c e:Array Value}{t d:TypeId}{f f':Nat×Nat}(h:H[b]?=some (.cells c t f))(a:H[b]?=some (.cells e d f')):t=d:=by
 rw[h] at a;simp at a;exact a.2.1
theorem u4 {k:IntKind}{H:aa}{t:TypeId}(l:List Int){K:Addr->aa->Prop}(a:∀p H',H'.size=H.size+1->p.block=H.size->(∀c,Ints k H' ⟨some p,l.length,c⟩ l)->Ext H H'->K p H'):
  aJ H (l.map (OF k)).toArray t K:=by
 refine a _ _ (by simp) rfl (λc=>⟨rfl,?_⟩) (Mod.push _ _ _);intro i v b;refine⟨_,rfl,?_⟩;rw[add_lit,PI];exact cC (c:=(l.map (OF k)).toArray) (t:=t) (fz:=(0,0)) (by simp) (by simpa using b)
def bytesOf (l:List Int):ByteArray:=⟨(l.map λx=>O5 x.toNat).toArray⟩
theorem ofNat_toNat {x:Int}(h:0<=x/\x<256):((O5 x.toNat).toNat:Int)=x:=by
 rw[UInt8.toNat_ofNat'];omega
theorem Ints.fL {H:aa}{s:Sl}{l:List Int}(h:Ints .u8 H s l)(c:∀x∈l,0<=x/\x<256):Go.Proofs.YtmkbhnholcaghaaGreatDoor.fL H s.a s.n (bytesOf l):=by
 have d:=h.len;unfold Go.Proofs.YtmkbhnholcaghaaGreatDoor.fL;split
 ·rename_i b;have:l=[]:=by
   cases l with
   |nil=>rfl
   |cons x r=>
     obtain⟨ad,e,_⟩:=h.at (i:=0) (by simp);rw[b] at e;cases e
  subst this;rfl
 ·rename_i ad b;refine⟨by simp[bytesOf,ByteArray.size,d],λi hi=>?_⟩;have a:i<l.length:=by omega
  obtain⟨f,e,g⟩:=h.at a;rw[b] at e;cases e;rw[g];have:qj (bytesOf l) i=O5 (l[i]).toNat:=by simp[qj,bytesOf,a]
  rw[this,ofNat_toNat (c _ (List.getElem_mem a))]
theorem K0 {H:aa}{s:Sl}{l:List Int}{K:ByteArray->Prop}(h:Ints .u8 H s l)(a:∀x∈l,0<=x/\x<256)(b:K (bytesOf l)):vU H s.a s.n K:=⟨_,h.fL a,b⟩
end Go.Proofs.YtmkbhnholcaghaaGreatDoor
