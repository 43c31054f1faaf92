/-
 Ground, tenth text: elements, rows and variables of one cell, texts.
-/
import Derived.Test.YtkehfflpbpdokaaGreatDoorFxg
open Array renaming getElem?_eq_getElem->Lb
open Bool renaming and_eq_true->KD
open Go.Instr renaming storeAt->LD
open Go.Value renaming int->Km
open Go.Value.slice renaming injEq->K5
open Nat renaming eq_of_beq_eq_true->KR,beq->K3,zero_add->LB
open UInt8 renaming ofNat->Ky
namespace Go.Proofs.YtkehfflpbpdokaaGreatDoor
def Js (P:Program)(t e:TypeId)(bytes:Nat)(z:Value->Bool):Bool:=
 (match P.underlying t with|some (.slice e')=>K3 e' e|_=>false)&&
 (match P.info? e with|some inf=>(match inf.zero with|some v=>z v&&K3 v.cells.size 1|none=>false)&&(K3 inf.size 1&&K3 inf.bytes bytes)|none=>false)
theorem nL {P:Program}{t e:TypeId}{bytes:Nat}{z:Value}{zb:Value->Bool}(hz:∀v,zb v=true->v=z)(hzc:z.cells=#[z]) (h:Js P t e bytes zb=true):El P t e bytes z:=by
 unfold Js at h
 simp only[KD] at h
 obtain⟨h1,h2⟩:=h
 split at h1
 ·rename_i e' he
  split at h2
  ·rename_i inf hi
   simp only[KD] at h2
   obtain⟨h3,h4,h5⟩:=h2
   split at h3
   ·rename_i v hv
    simp only[KD] at h3
    have:=KR h1
    subst this
    exact⟨inf,he,hi,by rw[hv,hz v h3.1],hzc,KR h4,KR h5⟩
   ·cases h3
  ·cases h2
 ·cases h1
def mX (k:IntKind)(v:Value):Bool:=match v with|.int k' n=>k'==k&&decide (n=0)|_=>false
theorem kK {k:IntKind}(v:Value)(h:mX k v=true):v=.int k 0:=by
 unfold mX at h
 split at h
 ·simp at h;rw[h.1,h.2]
 ·cases h
def yK (v:Value):Bool:=match v with|.slice none n c=>K3 n 0&&K3 c 0|_=>false
theorem wu (v:Value)(h:yK v=true):v=.slice none 0 0:=by
 unfold yK at h
 split at h
 ·simp at h;rw[h.1,h.2]
 ·cases h
theorem fS (a:Option Addr)(c:Nat):bw a c 0 1=a:=by
 unfold bw
 split
 ·rfl
 ·cases a<;>simp[add_zero']
theorem ic (k:IntKind)(l:List Int):∀u∈l.map (Km k),u.oneCell'=true:=by
 intro u hu
 obtain⟨x,_,rfl⟩:=List.mem_map.1 hu
 rfl
theorem az.cap {H:aa}{base:Nat}{e:TypeId}{size:Nat}{s:Sl}{xs:List Value}(h:az H base e size s xs):s.n<=s.c:=by
 rcases h.2 with ⟨e1,e2⟩|⟨g,cap,cur,e1,hb,hg,h4,h5,h6,h7⟩
 ·omega
 ·cases s;simp only[Sl.v,K5] at e1;simp only at h4 ⊢;omega
def iJ (H:aa)(p:Addr)(cs:Array Value):Prop:=p.spot=none/\p.off=0/\∃t,H[p.block]?=some (.cells cs t (0,0))
theorem iJ.cell {H:aa}{p:Addr}{cs:Array Value}(h:iJ H p cs){i:Nat}(hi:i<cs.size):bI H (p.add i)=some cs[i]:=by
 obtain⟨b,o,sp⟩:=p
 obtain⟨h1,h2,t,h3⟩:=h
 simp only at h1 h2 h3
 subst h1;subst h2
 rw[add_lit,LB]
 exact cv h3 (Lb hi)
theorem iJ.lt {H:aa}{p:Addr}{cs:Array Value}(h:iJ H p cs):p.block<H.size:=by
 obtain⟨_,_,t,h3⟩:=h
 rcases Nat.lt_or_ge p.block H.size with h1|h1
 ·exact h1
 ·rw[Array.getElem?_eq_none h1] at h3;cases h3
theorem iJ.mod {F:Nat->Prop}{H H':aa}{p:Addr}{cs:Array Value}(h:iJ H p cs)(hm:Mod F H H')(hn:¬F p.block):iJ H' p cs:=by
 have hl:=h.lt
 obtain⟨h1,h2,t,h3⟩:=h
 exact⟨h1,h2,t,(hm.same _ hl hn).trans h3⟩
theorem iJ.jq {H:aa}{p:Addr}{cs:Array Value}(h:iJ H p cs){n:Nat}(hn:cs.size=n){K:Array Value->Prop}(hK:K cs):jq oq n H p K:=
 ⟨cs,⟨cs,rfl,hn,λi hi=>by rw[h.cell (by omega),Lb (by omega)]⟩,hK⟩
theorem iJ.st {H:aa}{p:Addr}{cs:Array Value}{v:Value}{K:aa->Prop}(h:iJ H p cs){i:Nat}(hi:i<cs.size)(hp:ka v=true)
  (hK:∀H',iJ H' p (cs.setIfInBounds i v)->Mod (λb=>b=p.block) H H'->H'.size=H.size->K H'):st H (p.add i) v K:=by
 have hc:=h.cell hi
 obtain⟨b,o,sp⟩:=p
 obtain⟨h1,h2,t,h3⟩:=h
 simp only at h1 h2 h3
 subst h1;subst h2
 refine⟨hp,⟨_,hc⟩,?_,hK _ ⟨rfl,rfl,t,?_⟩ (Mod.set (bO _ _)) (gB _ _ _)⟩
 ·rw[add_lit];exact dV h3
 ·rw[add_lit,LB];exact lO (a:=⟨b,i,none⟩) h3 rfl
theorem pw {H:aa}{cs:Array Value}{t:TypeId}{K:Addr->aa->Prop}(hK:∀p H',p.block=H.size->H'.size=H.size+1->iJ H' p cs->Ext H H'->K p H'):aM H cs t K:=
 hK _ _ rfl (by simp) ⟨rfl,rfl,t,by simp⟩ (Mod.push _ _ _)
def mF (P:Program)(ty:TypeId)(n:Nat):Bool:=match P.info? ty with|some i=>K3 i.size n|none=>false
theorem iJ.wb {P:Program}{ty:TypeId}{H:aa}{p:Addr}{old cs:Array Value}{K:aa->Prop}(h:iJ H p old)(hi:mF P ty cs.size=true)(ho:old.size=cs.size)(h1:cs.all (·.oneCell')=true)
  (hK:∀H',iJ H' p cs->Mod (λb=>b=p.block) H H'->H'.size=H.size->K H'):ur P (LD ty (.pointer (some p)) (.agg cs)) H K:=by
 intro w hw
 subst hw
 obtain⟨b,o,sp⟩:=p
 obtain⟨q1,q2,t,h3⟩:=h
 simp only at q1 q2 h3
 subst q1;subst q2
 have hi':(P.info? ty).map (·.size)=some cs.size:=by
  unfold mF at hi
  split at hi
  ·rename_i i he;rw[he];simp[KR hi]
  ·cases hi
 have hr:=run_storeVar_row (P:=P) w b t ty old cs h3 hi' ho h1
 refine⟨(),w.setRow b cs,?_,hK _ ⟨rfl,rfl,t,setRow_heap w b old cs t _ h3⟩ ⟨by simp,λk _ hk=>setRow_other w b k cs hk⟩ (by simp),(.of_le rfl (Nat.le_refl _))⟩
 simp only[LD,Instr.sureAddr,Sem.run_bind,Sem.run_pure,Result.andThen_ok,hr]
theorem iJ.reads {H:aa}{p:Addr}{cs:Array Value}(h:iJ H p cs):Reads H (some p) cs.toList:=by
 intro i v hv
 refine⟨p,rfl,?_⟩
 have hlt:i<cs.size:=by have:=(List.getElem?_eq_some_iff.1 hv).1;simpa using this
 rw[h.cell hlt]
 rw[<-hv];simp[hlt]
theorem az.obj {H:aa}{base:Nat}{e:TypeId}{size:Nat}{s:Sl}{xs:List Value}(h:az H base e size s xs):∀b,ai s b->∃cur,H[b]?=some (.cells cur e (0,0)):=by
 rintro b ⟨ad,ha,rfl⟩
 rcases h.2 with ⟨e1,_⟩|⟨g,cap,cur,e1,hb,hg,_⟩
 ·cases s;simp only[Sl.v,K5] at e1 ha;rw[e1.1] at ha;cases ha
 ·cases s
  simp only[Sl.v,K5] at e1 ha
  rw[e1.1] at ha
  cases ha
  exact⟨cur,hg⟩
theorem az.apart {H:aa}{base base':Nat}{e e':TypeId}{size size':Nat}{s s':Sl}{xs xs':List Value}(h:az H base e size s xs)(k:az H base' e' size' s' xs')(hne:e≠e'):∀b,ai s b->¬ai s' b:=by
 intro b h1 h2
 obtain⟨c1,q1⟩:=h.obj b h1
 obtain⟨c2,q2⟩:=k.obj b h2
 rw[q1] at q2
 simp at q2
 exact hne q2.2
theorem az.Jc {H:aa}{base:Nat}{e:TypeId}{size:Nat}{s:Sl}{xs:List Value}(h:az H base e size s xs)(ha:s.a=none):s.n=0:=by
 rcases h.2 with ⟨_,e2⟩|⟨g,cap,cur,e1,_⟩
 ·exact e2
 ·cases s;simp only[Sl.v,K5] at e1 ha;rw[e1.1] at ha;cases ha
theorem bB {k:IntKind}{H:aa}{s:Sl}{l:List Int}(h:Ints k H s l){i:Int}{j:Nat}(e:i=(j:Int))(h1:j<l.length){K:Addr->Int->Prop}(hK:∀ad,s.a=some ad->K ad (l.getD j 0)):
  ae s.a λa=>(0<=i/\i<(s.n:Int))/\ld (af k) H (a.add (i.toNat*1)) λx=>K a x:=by
 subst e
 exact h.ld (by omega) (by omega) (by simpa using hK)
structure dd (H:aa)(p:Addr)(t:TypeId)(v:Value):Prop where
 spot:p.spot=none
 off:p.off=0
 obj:H[p.block]?=some (.cells #[v] t (0,0))
theorem dd.var {H:aa}{p:Addr}{t:TypeId}{v:Value}(h:dd H p t v):Var H p v:=⟨h.spot,h.off,t,h.obj⟩
theorem dd.lt {H:aa}{p:Addr}{t:TypeId}{v:Value}(h:dd H p t v):p.block<H.size:=h.var.lt
theorem dd.mod {F:Nat->Prop}{H H':aa}{p:Addr}{t:TypeId}{v:Value}(h:dd H p t v)(hm:Mod F H H')(hn:¬F p.block):dd H' p t v:=⟨h.spot,h.off,(hm.same _ h.lt hn).trans h.obj⟩
theorem dd.ext {H H':aa}{p:Addr}{t:TypeId}{v:Value}(h:dd H p t v)(hm:Ext H H'):dd H' p t v:=h.mod hm id
theorem dd.ld {c:eJ}{H:aa}{p:Addr}{t:TypeId}{x:c.α}{K:c.α->Prop}(h:dd H p t (c.enc x))(hK:K x):Go.Proofs.YtkehfflpbpdokaaGreatDoor.ld c H p K:=h.var.ld hK
theorem dd.st {H:aa}{p:Addr}{t:TypeId}{u v:Value}{K:aa->Prop}(h:dd H p t u)(hp:ka v=true)(hK:∀H',dd H' p t v->Mod (λb=>b=p.block) H H'->H'.size=H.size->K H'):Go.Proofs.YtkehfflpbpdokaaGreatDoor.st H p v K:=by
 have hc:=h.var.cell
 obtain⟨b,o,sp⟩:=p
 obtain⟨h1,h2,h3⟩:=h
 simp only at h1 h2 h3
 subst h1;subst h2
 refine⟨hp,⟨_,hc⟩,dV h3,hK _ ⟨rfl,rfl,?_⟩ (Mod.set rfl) (gB _ _ _)⟩
 rw[lO (a:=⟨b,0,none⟩) h3 rfl]
 rfl
theorem dm {H:aa}{v:Value}{t:TypeId}{K:Addr->aa->Prop}(hK:∀p H',p.block=H.size->H'.size=H.size+1->dd H' p t v->Ext H H'->K p H'):aM H #[v] t K:=
 hK _ _ rfl (by simp) ⟨rfl,rfl,by simp⟩ (Mod.push _ _ _)
theorem Mod.setObj {F:Nat->Prop}{H:aa}{l:Nat}{o:Obj}(h:F l):Mod F H (H.setIfInBounds l o):=
 ⟨by simp,λb _ hn=>Array.getElem?_setIfInBounds_ne (by intro e;subst e;exact hn h)⟩
theorem fy {H:aa}{l:Nat}{o o':Obj}(h:H[l]?=some o):(H.setIfInBounds l o')[l]?=some o':=by
 have:=(Array.getElem?_eq_some_iff.1 h).1
 simp[this]
theorem aW {H:aa}{b:Nat}{c c':Array Value}{t t':TypeId}{f f':Nat×Nat}(h:H[b]?=some (.cells c t f))(h':H[b]?=some (.cells c' t' f')):t=t':=by
 rw[h] at h';simp at h';exact h'.2.1
theorem iG {k:IntKind}{H:aa}{t:TypeId}(l:List Int){K:Addr->aa->Prop}(hK:∀p H',H'.size=H.size+1->p.block=H.size->(∀c,Ints k H' ⟨some p,l.length,c⟩ l)->Ext H H'->K p H'):
  aM H (l.map (Km k)).toArray t K:=by
 refine hK _ _ (by simp) rfl (λc=>⟨rfl,?_⟩) (Mod.push _ _ _)
 intro i v hv
 refine⟨_,rfl,?_⟩
 rw[add_lit,LB]
 exact cv (c:=(l.map (Km k)).toArray) (t:=t) (fz:=(0,0)) (by simp) (by simpa using hv)
def bytesOf (l:List Int):ByteArray:=⟨(l.map λx=>Ky x.toNat).toArray⟩
theorem ofNat_toNat {x:Int}(h:0<=x/\x<256):((Ky x.toNat).toNat:Int)=x:=by
 rw[UInt8.toNat_ofNat'];omega
theorem Ints.gv {H:aa}{s:Sl}{l:List Int}(h:Ints .u8 H s l)(hb:∀x∈l,0<=x/\x<256):Go.Proofs.YtkehfflpbpdokaaGreatDoor.gv H s.a s.n (bytesOf l):=by
 have hn:=h.len
 unfold Go.Proofs.YtkehfflpbpdokaaGreatDoor.gv
 split
 ·rename_i ha
  have:l=[]:=by
   cases l with
   |nil=>rfl
   |cons x r=>
     obtain⟨ad,e,_⟩:=h.at (i:=0) (by simp)
     rw[ha] at e;cases e
  subst this;rfl
 ·rename_i ad ha
  refine⟨by simp[bytesOf,ByteArray.size,hn],λi hi=>?_⟩
  have hi2:i<l.length:=by omega
  obtain⟨ad',e,hc⟩:=h.at hi2
  rw[ha] at e;cases e
  rw[hc]
  have:ca (bytesOf l) i=Ky (l[i]).toNat:=by simp[ca,bytesOf,hi2]
  rw[this,ofNat_toNat (hb _ (List.getElem_mem hi2))]
theorem Gy {H:aa}{s:Sl}{l:List Int}{K:ByteArray->Prop}(h:Ints .u8 H s l)(hb:∀x∈l,0<=x/\x<256)(hK:K (bytesOf l)):Hv H s.a s.n K:=⟨_,h.gv hb,hK⟩
end Go.Proofs.YtkehfflpbpdokaaGreatDoor
