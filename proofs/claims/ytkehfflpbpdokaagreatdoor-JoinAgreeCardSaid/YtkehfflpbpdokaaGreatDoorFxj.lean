/-
 Ground, tenth text: elements, rows and variables of one cell, texts.
-/
import Derived.Test.YtkehfflpbpdokaaGreatDoorFxg
open Array renaming getElem?_eq_getElem->Q8
open Bool renaming and_eq_true->Qz
open Go.Instr renaming storeAt->RL
open Go.Value renaming int->Ql
open Go.Value.slice renaming injEq->Q3
open Nat renaming eq_of_beq_eq_true->QH,beq->QQ,zero_add->Ry
open UInt8 renaming ofNat->Qx
namespace Go.Proofs.YtkehfflpbpdokaaGreatDoor
def O5 (P:Program)(t e:TypeId)(bytes:Nat)(z:Value->Bool):Bool:=
 (match P.underlying t with|some (.slice a)=>QQ a e|_=>false)&&
 (match P.info? e with|some inf=>(match inf.zero with|some v=>z v&&QQ v.cells.size 1|none=>false)&&(QQ inf.size 1&&QQ inf.bytes bytes)|none=>false)
theorem re {P:Program}{t e:TypeId}{bytes:Nat}{z:Value}{zb:Value->Bool}(hz:∀v,zb v=true->v=z)(c:z.cells=#[z]) (h:O5 P t e bytes zb=true):El P t e bytes z:=by
 unfold O5 at h;simp only[Qz] at h;obtain⟨h1,a⟩:=h;split at h1
 ·rename_i i he;split at a
  ·rename_i inf hi;simp only[Qz] at a;obtain⟨b,d,f⟩:=a;split at b
   ·rename_i v g;simp only[Qz] at b;have:=QH h1;subst this;exact⟨inf,he,hi,by rw[g,hz v b.1],c,QH d,QH f⟩
   ·cases b
  ·cases a
 ·cases h1
def qt (k:IntKind)(v:Value):Bool:=match v with|.int a n=>a==k&&decide (n=0)|_=>false
theorem nI {k:IntKind}(v:Value)(h:qt k v=true):v=.int k 0:=by
 unfold qt at h;split at h
 ·simp at h;rw[h.1,h.2]
 ·cases h
def CR (v:Value):Bool:=match v with|.slice none n c=>QQ n 0&&QQ c 0|_=>false
theorem As (v:Value)(h:CR v=true):v=.slice none 0 0:=by
 unfold CR at h;split at h
 ·simp at h;rw[h.1,h.2]
 ·cases h
theorem iE (a:Option Addr)(c:Nat):bF a c 0 1=a:=by
 unfold bF;split
 ·rfl
 ·cases a<;>simp[add_zero']
theorem iy (k:IntKind)(l:List Int):∀u∈l.map (Ql k),u.oneCell'=true:=by
 intro u hu;obtain⟨x,_,rfl⟩:=List.mem_map.1 hu;rfl
theorem aA.cap {H:aa}{base:Nat}{e:TypeId}{size:Nat}{s:Sl}{xs:List Value}(h:aA H base e size s xs):s.n<=s.c:=by
 rcases h.2 with ⟨a,e2⟩|⟨g,cap,cur,a,c,d,b,f,i,j⟩
 ·omega
 ·cases s;simp only[Sl.v,Q3] at a;simp only at b ⊢;omega
def ke (H:aa)(p:Addr)(cs:Array Value):Prop:=p.spot=none/\p.off=0/\∃t,H[p.block]?=some (.cells cs t (0,0))
theorem ke.cell {H:aa}{p:Addr}{cs:Array Value}(h:ke H p cs){i:Nat}(hi:i<cs.size):cg H (p.add i)=some cs[i]:=by
 obtain⟨b,o,sp⟩:=p;obtain⟨h1,a,t,c⟩:=h;simp only at h1 a c;subst h1;subst a;rw[add_lit,Ry];exact dh c (Q8 hi)
theorem ke.lt {H:aa}{p:Addr}{cs:Array Value}(h:ke H p cs):p.block<H.size:=by
 obtain⟨_,_,t,a⟩:=h;rcases Nat.lt_or_ge p.block H.size with h1|h1
 ·exact h1
 ·rw[Array.getElem?_eq_none h1] at a;cases a
theorem ke.mod {F:Nat->Prop}{H H':aa}{p:Addr}{cs:Array Value}(h:ke H p cs)(hm:Mod F H H')(a:¬F p.block):ke H' p cs:=by
 have b:=h.lt;obtain⟨h1,c,t,d⟩:=h;exact⟨h1,c,t,(hm.same _ b a).trans d⟩
theorem ke.kN {H:aa}{p:Addr}{cs:Array Value}(h:ke H p cs){n:Nat}(a:cs.size=n){K:Array Value->Prop}(b:K cs):kN rU n H p K:=
 ⟨cs,⟨cs,rfl,a,λi hi=>by rw[h.cell (by omega),Q8 (by omega)]⟩,b⟩
theorem ke.st {H:aa}{p:Addr}{cs:Array Value}{v:Value}{K:aa->Prop}(h:ke H p cs){i:Nat}(hi:i<cs.size)(e:mU v=true)
  (f:∀H',ke H' p (cs.setIfInBounds i v)->Mod (λb=>b=p.block) H H'->H'.size=H.size->K H'):st H (p.add i) v K:=by
 have g:=h.cell hi;obtain⟨b,o,sp⟩:=p;obtain⟨h1,d,t,c⟩:=h;simp only at h1 d c;subst h1;subst d;refine⟨e,⟨_,g⟩,?_,f _ ⟨rfl,rfl,t,?_⟩ (Mod.set (cj _ _)) (ji _ _ _)⟩
 ·rw[add_lit];exact fV c
 ·rw[add_lit,Ry];exact oI (a:=⟨b,i,none⟩) c rfl
theorem uk {H:aa}{cs:Array Value}{t:TypeId}{K:Addr->aa->Prop}(a:∀p H',p.block=H.size->H'.size=H.size+1->ke H' p cs->Ext H H'->K p H'):aB H cs t K:=
 a _ _ rfl (by simp) ⟨rfl,rfl,t,by simp⟩ (Mod.push _ _ _)
def oW (P:Program)(ty:TypeId)(n:Nat):Bool:=match P.info? ty with|some i=>QQ i.size n|none=>false
theorem ke.zV {P:Program}{ty:TypeId}{H:aa}{p:Addr}{old cs:Array Value}{K:aa->Prop}(h:ke H p old)(hi:oW P ty cs.size=true)(f:old.size=cs.size)(h1:cs.all (·.oneCell')=true)
  (g:∀H',ke H' p cs->Mod (λb=>b=p.block) H H'->H'.size=H.size->K H'):xJ P (RL ty (.pointer (some p)) (.agg cs)) H K:=by
 intro w hw;subst hw;obtain⟨b,o,sp⟩:=p;obtain⟨d,e,t,a⟩:=h;simp only at d e a;subst d;subst e;have c:(P.info? ty).map (·.size)=some cs.size:=by
  unfold oW at hi;split at hi
  ·rename_i i he;rw[he];simp[QH hi]
  ·cases hi
 have hr:=run_storeVar_row (P:=P) w b t ty old cs a c f h1;refine⟨(),w.setRow b cs,?_,g _ ⟨rfl,rfl,t,setRow_heap w b old cs t _ a⟩ ⟨by simp,λk _ hk=>setRow_other w b k cs hk⟩ (by simp),(.of_le rfl (Nat.le_refl _))⟩;simp only[RL,Instr.sureAddr,Sem.run_bind,Sem.run_pure,Result.andThen_ok,hr]
theorem ke.reads {H:aa}{p:Addr}{cs:Array Value}(h:ke H p cs):Reads H (some p) cs.toList:=by
 intro i v b;refine⟨p,rfl,?_⟩;have a:i<cs.size:=by have:=(List.getElem?_eq_some_iff.1 b).1;simpa using this
 rw[h.cell a];rw[<-b];simp[a]
theorem aA.obj {H:aa}{base:Nat}{e:TypeId}{size:Nat}{s:Sl}{xs:List Value}(h:aA H base e size s xs):∀b,al s b->∃cur,H[b]?=some (.cells cur e (0,0)):=by
 rintro b ⟨ad,a,rfl⟩;rcases h.2 with ⟨c,_⟩|⟨g,cap,cur,c,f,d,_⟩
 ·cases s;simp only[Sl.v,Q3] at c a;rw[c.1] at a;cases a
 ·cases s;simp only[Sl.v,Q3] at c a;rw[c.1] at a;cases a;exact⟨cur,d⟩
theorem aA.apart {H:aa}{base base':Nat}{e g:TypeId}{size a:Nat}{s i:Sl}{xs c:List Value}(h:aA H base e size s xs)(k:aA H base' g a i c)(d:e≠g):∀b,al s b->¬al i b:=by
 intro b h1 j;obtain⟨c1,l⟩:=h.obj b h1;obtain⟨c2,f⟩:=k.obj b j;rw[l] at f;simp at f;exact d f.2
theorem aA.OH {H:aa}{base:Nat}{e:TypeId}{size:Nat}{s:Sl}{xs:List Value}(h:aA H base e size s xs)(a:s.a=none):s.n=0:=by
 rcases h.2 with ⟨_,e2⟩|⟨g,cap,cur,b,_⟩
 ·exact e2
 ·cases s;simp only[Sl.v,Q3] at b a;rw[b.1] at a;cases a
theorem bM {k:IntKind}{H:aa}{s:Sl}{l:List Int}(h:Ints k H s l){i:Int}{j:Nat}(e:i=(j:Int))(h1:j<l.length){K:Addr->Int->Prop}(b:∀ad,s.a=some ad->K ad (l.getD j 0)):
  ah s.a λa=>(0<=i/\i<(s.n:Int))/\ld (ai k) H (a.add (i.toNat*1)) λx=>K a x:=by
 subst e;exact h.ld (by omega) (by omega) (by simpa using b)
structure dV (H:aa)(p:Addr)(t:TypeId)(v:Value):Prop where
 spot:p.spot=none
 off:p.off=0
 obj:H[p.block]?=some (.cells #[v] t (0,0))
theorem dV.var {H:aa}{p:Addr}{t:TypeId}{v:Value}(h:dV H p t v):Var H p v:=⟨h.spot,h.off,t,h.obj⟩
theorem dV.lt {H:aa}{p:Addr}{t:TypeId}{v:Value}(h:dV H p t v):p.block<H.size:=h.var.lt
theorem dV.mod {F:Nat->Prop}{H H':aa}{p:Addr}{t:TypeId}{v:Value}(h:dV H p t v)(hm:Mod F H H')(a:¬F p.block):dV H' p t v:=⟨h.spot,h.off,(hm.same _ h.lt a).trans h.obj⟩
theorem dV.ext {H H':aa}{p:Addr}{t:TypeId}{v:Value}(h:dV H p t v)(hm:Ext H H'):dV H' p t v:=h.mod hm id
theorem dV.ld {c:gz}{H:aa}{p:Addr}{t:TypeId}{x:c.α}{K:c.α->Prop}(h:dV H p t (c.enc x))(a:K x):Go.Proofs.YtkehfflpbpdokaaGreatDoor.ld c H p K:=h.var.ld a
theorem dV.st {H:aa}{p:Addr}{t:TypeId}{u v:Value}{K:aa->Prop}(h:dV H p t u)(e:mU v=true)(f:∀H',dV H' p t v->Mod (λb=>b=p.block) H H'->H'.size=H.size->K H'):Go.Proofs.YtkehfflpbpdokaaGreatDoor.st H p v K:=by
 have g:=h.var.cell;obtain⟨b,o,sp⟩:=p;obtain⟨h1,d,c⟩:=h;simp only at h1 d c;subst h1;subst d;refine⟨e,⟨_,g⟩,fV c,f _ ⟨rfl,rfl,?_⟩ (Mod.set rfl) (ji _ _ _)⟩;rw[oI (a:=⟨b,0,none⟩) c rfl];rfl
theorem eO {H:aa}{v:Value}{t:TypeId}{K:Addr->aa->Prop}(a:∀p H',p.block=H.size->H'.size=H.size+1->dV H' p t v->Ext H H'->K p H'):aB H #[v] t K:=
 a _ _ rfl (by simp) ⟨rfl,rfl,by simp⟩ (Mod.push _ _ _)
theorem Mod.setObj {F:Nat->Prop}{H:aa}{l:Nat}{o:Obj}(h:F l):Mod F H (H.setIfInBounds l o):=
 ⟨by simp,λb _ a=>Array.getElem?_setIfInBounds_ne (by intro e;subst e;exact a h)⟩
theorem ib {H:aa}{l:Nat}{o a:Obj}(h:H[l]?=some o):(H.setIfInBounds l a)[l]?=some a:=by
 have:=(Array.getElem?_eq_some_iff.1 h).1;simp[this]
theorem aR {H:aa}{b:Nat}{c a:Array Value}{t t':TypeId}{f f':Nat×Nat}(h:H[b]?=some (.cells c t f))(h':H[b]?=some (.cells a t' f')):t=t':=by
 rw[h] at h';simp at h';exact h'.2.1
theorem kC {k:IntKind}{H:aa}{t:TypeId}(l:List Int){K:Addr->aa->Prop}(a:∀p H',H'.size=H.size+1->p.block=H.size->(∀c,Ints k H' ⟨some p,l.length,c⟩ l)->Ext H H'->K p H'):
  aB H (l.map (Ql k)).toArray t K:=by
 refine a _ _ (by simp) rfl (λc=>⟨rfl,?_⟩) (Mod.push _ _ _);intro i v b;refine⟨_,rfl,?_⟩;rw[add_lit,Ry];exact dh (c:=(l.map (Ql k)).toArray) (t:=t) (fz:=(0,0)) (by simp) (by simpa using b)
def bytesOf (l:List Int):ByteArray:=⟨(l.map λx=>Qx x.toNat).toArray⟩
theorem ofNat_toNat {x:Int}(h:0<=x/\x<256):((Qx x.toNat).toNat:Int)=x:=by
 rw[UInt8.toNat_ofNat'];omega
theorem Ints.jf {H:aa}{s:Sl}{l:List Int}(h:Ints .u8 H s l)(c:∀x∈l,0<=x/\x<256):Go.Proofs.YtkehfflpbpdokaaGreatDoor.jf H s.a s.n (bytesOf l):=by
 have d:=h.len;unfold Go.Proofs.YtkehfflpbpdokaaGreatDoor.jf;split
 ·rename_i b;have:l=[]:=by
   cases l with
   |nil=>rfl
   |cons x r=>
     obtain⟨ad,e,_⟩:=h.at (i:=0) (by simp);rw[b] at e;cases e
  subst this;rfl
 ·rename_i ad b;refine⟨by simp[bytesOf,ByteArray.size,d],λi hi=>?_⟩;have a:i<l.length:=by omega
  obtain⟨f,e,g⟩:=h.at a;rw[b] at e;cases e;rw[g];have:cZ (bytesOf l) i=Qx (l[i]).toNat:=by simp[cZ,bytesOf,a]
  rw[this,ofNat_toNat (c _ (List.getElem_mem a))]
theorem MX {H:aa}{s:Sl}{l:List Int}{K:ByteArray->Prop}(h:Ints .u8 H s l)(a:∀x∈l,0<=x/\x<256)(b:K (bytesOf l)):Nt H s.a s.n K:=⟨_,h.jf a,b⟩
end Go.Proofs.YtkehfflpbpdokaaGreatDoor
