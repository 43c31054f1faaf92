/-
 The disk in plain words: what a disk is, and what each call makes of it.
-/
import Derived.Test.YtkehfflpbpdokaaGreatDoorFxk
open Go.ByteArray renaming toList_eq->Nr
open Go.IntKind renaming i64->Ke
open List renaming getElem?_eq_some_iff->Kj,getElem?_map->KC,replicate->KG,getElem?_set->Le,map_cons->Ln,ext_getElem?->MG,sum_cons->Ny,getElem?_modify->Pp
namespace Go.Proofs.YtkehfflpbpdokaaGreatDoor
abbrev Pg:={l:List UInt8 // l.length=512}
def ID:Pg:=⟨KG 512 0,List.length_replicate⟩
structure Wr where
 no:Int
 ab:Nat
 b:Pg
structure Fl where
 name:ByteArray
 synced:List Pg
 log:List Wr
structure Dk where
 files:List Fl
 most:Nat
 quota:Nat
 ops:Int
 next:Int
 crash:Option (Int×Int)
 down:Bool
def qW (l:List Pg)(w:Wr):List Pg:=(l++KG (w.ab+1 - l.length) ID).set w.ab w.b
def Fl.aB (f:Fl):List Pg:=f.log.foldl qW f.synced
def Dk.idx (s:Dk)(n:ByteArray):Option Nat:=s.files.findIdx? λf=>f.name.toList==n.toList
def Dk.used (s:Dk):Nat:=(s.files.map λf=>f.aB.length).sum
def Dk.file (s:Dk)(i:Nat):Fl:=s.files.getD i ⟨ByteArray.empty,[],[]⟩
def ff (x:Int):Int:=Ke.wrap x
def Dk.Jt (t:Dk)(i:Nat)(u:Fl->Fl):Dk:={t with files:=t.files.modify i u}
def Dk.qF (t:Dk)(i:Nat)(w:Wr):Dk:=⟨t.files.modify i (λf=>{f with log:=f.log++[w]}),t.most,t.quota,t.ops,ff (t.next+1),t.crash,t.down⟩
def Dk.kF (t:Dk)(m:Nat):Dk:=⟨t.files,m,t.quota,t.ops,t.next,t.crash,t.down⟩
def named (n:ByteArray):Bool:=decide (1<=n.size)&&decide (n.size<=100)
def Dk.change (s:Dk):Dk×Int:=
 match s.crash with
 |none=>({s with ops:=ff (s.ops+1)},0)
 |some (i,k)=>if i=0 then ({s with down:=true},4) else ({s with crash:=some (ff (i - 1),k),ops:=ff (s.ops+1)},0)
def Dk.step (s:Dk)(f:Dk->Dk):Dk×Int:=if s.change.2=0 then (f s.change.1,0) else s.change
def Dk.open (s:Dk)(n:ByteArray):Option Nat×Int:=
 if s.down then (none,4) else match s.idx n with|some i=>(some i,0)|none=>(none,11)
def Dk.create (s:Dk)(n:ByteArray):Dk×Int:=
 if s.down then (s,4) else if named n=false then (s,2) else if (s.idx n).isSome then (s,10) else if s.files.length=4096 then (s,3)
 else s.step λt=>{t with files:=t.files++[⟨n,[],[]⟩]}
def Dk.drop (s:Dk)(n:ByteArray):Dk:=match s.idx n with|some i=>{s with files:=s.files.eraseIdx i}|none=>s
def Dk.remove (s:Dk)(n:ByteArray):Dk×Int:=
 if s.down then (s,4) else if (s.idx n).isNone then (s,11) else s.step λt=>t.drop n
def Dk.write (s:Dk)(n:ByteArray)(ab:Int)(b:List UInt8):Dk×Int:=
 if s.down then (s,4) else if h:b.length=512 then
  match s.idx n with
  |none=>(s,11)
  |some i=>
    if ab<0\/ab>(s.file i).aB.length then (s,12)
    else if ab=(s.file i).aB.length/\s.used>=s.quota then (s,5)
    else s.step λt=>(t.qF i ⟨t.next,ab.toNat,⟨b,h⟩⟩).kF (max t.most (t.qF i ⟨t.next,ab.toNat,⟨b,h⟩⟩).used)
 else (s,2)
def Dk.read (s:Dk)(n:ByteArray)(ab:Int):List UInt8×Int:=
 match s.open n with
 |(some i,_)=>if ab<0 then ([],12) else match ((s.file i).aB)[ab.toNat]? with|some p=>(p.1,0)|none=>([],12)
 |(none,e)=>([],e)
def Dk.len (s:Dk)(n:ByteArray):Nat×Int:=
 match s.open n with
 |(some i,_)=>((s.file i).aB.length,0)
 |(none,e)=>(0,e)
def uM (q:Int):Dk:=⟨[],0,(min (max q 0) 1048576).toNat,0,0,none,false⟩
def names (s:Dk):List ByteArray:=s.files.map (·.name)
structure Dk.WF (s:Dk):Prop where
 nodup:(s.files.map λf=>f.name.toList).Nodup
 used:s.used<=s.most
 most:s.most<=s.quota
 quota:s.quota<=1048576
 files:s.files.length<=4096
 down:s.down=true->s.crash.isSome
 cin:∀i k,s.crash=some (i,k)->0<=i/\i<=9223372036854775807
def Dk.bf (s:Dk):Nat:=(s.files.map λf=>f.log.length).sum
theorem jW (l:List Pg)(w:Wr):(qW l w).length=max l.length (w.ab+1):=by
 simp[qW];omega
theorem gA {α:Type}(f:α->Nat):∀(l:List α) (i:Nat) (x:α),l[i]?=some x->((l.eraseIdx i).map f).sum+f x=(l.map f).sum
 |[],i,x,h=>by simp at h
 |a::l,0,x,h=>by simp at h;subst h;simp;omega
 |a::l,i+1,x,h=>by
   have:=gA f l i x (by simpa using h)
   simp only[List.eraseIdx_cons_succ,Ln,Ny];omega
theorem fq {α:Type}(f:α->Nat)(g:α->α):∀(l:List α) (i:Nat) (x:α),l[i]?=some x->((l.modify i g).map f).sum+f x=(l.map f).sum+f (g x)
 |[],i,x,h=>by simp at h
 |a::l,0,x,h=>by simp at h;subst h;simp;omega
 |a::l,i+1,x,h=>by
   have:=fq f g l i x (by simpa using h)
   simp only[List.modify_succ_cons,Ln,Ny];omega
theorem pW {α:Type}(f:α->Nat)(l:List α)(i:Nat)(x:α)(h:l[i]?=some x):f x<=(l.map f).sum:=by
 have:=gA f l i x h;omega
theorem bt {α:Type}{l:List α}{i:Nat}{a:α}{g:α->α}(h:l[i]?=some a):(l.modify i g)[i]?=some (g a):=by
 rw[Pp,h];simp
theorem bh {α:Type}{l:List α}{i j:Nat}{g:α->α}(h:i≠j):(l.modify i g)[j]?=l[j]?:=by
 rw[Pp];simp[h]
theorem bY {α:Type}{l:List α}{i:Nat}{a:α}{g:α->α}(h:l[i]?=some a):l.modify i g=l.set i (g a):=by
 have hi:=(Kj.1 h).1
 apply MG
 intro j
 by_cases hij:i=j
 ·subst hij;rw[bt h];simp[hi]
 ·rw[bh hij,Le,if_neg hij]
theorem iP {a b:ByteArray}(h:a.toList=b.toList):a=b:=by
 rw[Nr,Nr] at h
 exact ByteArray.ext (Array.toList_inj.1 h)
theorem Hm {a b:ByteArray}:a.toList=b.toList↔a=b:=⟨iP,λh=>by rw[h]⟩
theorem Dk.jU {s:Dk}{n:ByteArray}{i:Nat}(h:s.idx n=some i):∃f,s.files[i]?=some f/\f.name=n:=by
 unfold Dk.idx at h
 rw[List.findIdx?_eq_some_iff_getElem] at h
 obtain⟨h1,h2,_⟩:=h
 exact⟨s.files[i],List.getElem?_eq_getElem h1,iP (by simpa using h2)⟩
theorem Dk.pf {s:Dk}{n:ByteArray}(h:s.idx n=none):∀f∈s.files,f.name≠n:=by
 unfold Dk.idx at h
 rw[List.findIdx?_eq_none_iff] at h
 intro f hf e
 have:=h f hf
 rw[e] at this;simp at this
theorem Dk.WF.inj {s:Dk}(h:s.WF){i j:Nat}{f g:Fl}(hi:s.files[i]?=some f)(hj:s.files[j]?=some g)(e:f.name=g.name):i=j:=by
 have h1:=h.nodup
 have hi':=(Kj.1 hi).1
 refine(List.getElem?_inj (l:=s.files.map λf=>f.name.toList) (by simpa using hi') h1).1 ?_
 rw[KC,KC,hi,hj];simp[e]
theorem Dk.idx_eq {s:Dk}(hw:s.WF){i:Nat}{f:Fl}(h:s.files[i]?=some f):s.idx f.name=some i:=by
 cases hx:s.idx f.name with
 |none=>exact absurd rfl (Dk.pf hx f (List.mem_of_getElem? h))
 |some j=>
   obtain⟨g,hg,he⟩:=Dk.jU hx
   rw[hw.inj hg h he]
theorem Dk.gu {s:Dk}{i:Nat}{f:Fl}(h:s.files[i]?=some f):s.file i=f:=by simp[Dk.file,h]
theorem Dk.uZ {s:Dk}{i:Nat}{f:Fl}{g:Fl->Fl}(hf:s.files[i]?=some f):(s.Jt i g).used+f.aB.length=s.used+(g f).aB.length:=
 fq (λf:Fl=>f.aB.length) g s.files i f hf
theorem Dk.vG {s:Dk}{i:Nat}{f:Fl}(hf:s.files[i]?=some f):f.aB.length<=s.used:=pW (λf:Fl=>f.aB.length) s.files i f hf
theorem Dk.Gv {s:Dk}{i:Nat}{f:Fl}(hf:s.files[i]?=some f):f.log.length<=s.bf:=pW (λf:Fl=>f.log.length) s.files i f hf
theorem Dk.WF.modify {s t:Dk}(h:s.WF){i:Nat}{f:Fl}{g:Fl->Fl}(hf:s.files[i]?=some f)(hn:(g f).name=f.name)(ht:t.files=s.files.modify i g)(hu:t.used<=t.most)(hm:t.most<=t.quota)(hq:t.quota=s.quota)(hc:t.crash=s.crash)(hd:t.down=s.down):t.WF:=by
 refine⟨?_,hu,hm,by rw[hq];exact h.quota,by rw[ht];simp;exact h.files,by rw[hd,hc];exact h.down,by rw[hc];exact h.cin⟩
 rw[ht]
 have:(s.files.modify i g).map (λf=>f.name.toList)=s.files.map (λf=>f.name.toList):=by
  rw[bY hf]
  apply MG
  intro j
  rw[KC,KC]
  by_cases hij:i=j
  ·subst hij
   have hi:=(Kj.1 hf).1
   rw[hf];simp[hi,hn]
  ·rw[Le,if_neg hij]
 rw[this];exact h.nodup
end Go.Proofs.YtkehfflpbpdokaaGreatDoor
