/-
 The disk in plain words: what a disk is, and what each call makes of it.
-/
import Derived.Test.YtdpdmbceakdlmaaGreatDoorFxk
open Go.ByteArray renaming toList_eq->Oq
open Go.IntKind renaming i64->KG
open List renaming getElem?_eq_some_iff->KI,replicate->KY,getElem?_map->Le,map_cons->Lp,getElem?_set->LD,sum_cons->Mp,ext_getElem?->MT,getElem?_modify->NZ
namespace Go.Proofs.YtdpdmbceakdlmaaGreatDoor
abbrev Pg:={l:List UInt8 // l.length=512}
def D0:Pg:=⟨KY 512 0,List.length_replicate⟩
structure Wr where
 no:Int
 page:Nat
 b:Pg
structure Fl where
 name:ByteArray
 synced:List Pg
 log:List Wr
structure Dk where
 files:List Fl
 most:Nat
 quota:Nat
 ops:Int
 next:Int
 crash:Option (Int×Int)
 down:Bool
def dq (l:List Pg)(w:Wr):List Pg:=(l++KY (w.page+1 - l.length) D0).set w.page w.b
def Fl.au (f:Fl):List Pg:=f.log.foldl dq f.synced
def Dk.idx (s:Dk)(n:ByteArray):Option Nat:=s.files.findIdx? λf=>f.name.toList==n.toList
def Dk.used (s:Dk):Nat:=(s.files.map λf=>f.au.length).sum
def Dk.file (s:Dk)(i:Nat):Fl:=s.files.getD i ⟨ByteArray.empty,[],[]⟩
def da (x:Int):Int:=KG.wrap x
def Dk.yI (t:Dk)(i:Nat)(u:Fl->Fl):Dk:={t with files:=t.files.modify i u}
def Dk.ff (t:Dk)(i:Nat)(w:Wr):Dk:=⟨t.files.modify i (λf=>{f with log:=f.log++[w]}),t.most,t.quota,t.ops,da (t.next+1),t.crash,t.down⟩
def Dk.gk (t:Dk)(m:Nat):Dk:=⟨t.files,m,t.quota,t.ops,t.next,t.crash,t.down⟩
def named (n:ByteArray):Bool:=decide (1<=n.size)&&decide (n.size<=100)
def Dk.change (s:Dk):Dk×Int:=
 match s.crash with
 |none=>({s with ops:=da (s.ops+1)},0)
 |some (i,k)=>if i=0 then ({s with down:=true},4) else ({s with crash:=some (da (i - 1),k),ops:=da (s.ops+1)},0)
def Dk.step (s:Dk)(f:Dk->Dk):Dk×Int:=if s.change.2=0 then (f s.change.1,0) else s.change
def Dk.open (s:Dk)(n:ByteArray):Option Nat×Int:=
 if s.down then (none,4) else match s.idx n with|some i=>(some i,0)|none=>(none,11)
def Dk.create (s:Dk)(n:ByteArray):Dk×Int:=
 if s.down then (s,4) else if named n=false then (s,2) else if (s.idx n).isSome then (s,10) else if s.files.length=4096 then (s,3)
 else s.step λt=>{t with files:=t.files++[⟨n,[],[]⟩]}
def Dk.write (s:Dk)(n:ByteArray)(page:Int)(b:List UInt8):Dk×Int:=
 if s.down then (s,4) else if h:b.length=512 then
  match s.idx n with
  |none=>(s,11)
  |some i=>
    if page<0\/page>(s.file i).au.length then (s,12)
    else if page=(s.file i).au.length/\s.used>=s.quota then (s,5)
    else s.step λt=>(t.ff i ⟨t.next,page.toNat,⟨b,h⟩⟩).gk (max t.most (t.ff i ⟨t.next,page.toNat,⟨b,h⟩⟩).used)
 else (s,2)
def Dk.read (s:Dk)(n:ByteArray)(page:Int):List UInt8×Int:=
 match s.open n with
 |(some i,_)=>if page<0 then ([],12) else match ((s.file i).au)[page.toNat]? with|some p=>(p.1,0)|none=>([],12)
 |(none,e)=>([],e)
def Dk.len (s:Dk)(n:ByteArray):Nat×Int:=
 match s.open n with
 |(some i,_)=>((s.file i).au.length,0)
 |(none,e)=>(0,e)
def Dk.sync (s:Dk)(n:ByteArray):Dk×Int:=
 if s.down then (s,4) else match s.idx n with
  |none=>(s,11)
  |some i=>s.step λt=>t.yI i λf=>{f with synced:=f.au,log:=[]}
def Dk.cD (s:Dk)(i k:Int):Dk:=if s.down then s else {s with crash:=some (max i 0,k)}
def Dk.D8 (s:Dk):List Int:=s.files.flatMap λf=>f.log.map (·.no)
def Dk.ve (s:Dk)(no:Int):Nat:=(s.D8.filter λx=>decide (x<no)).length
def iO (k:Int)(r:Nat):Bool:=kS .u64 (cI .u64 k (Int.tmod (r:Int) 64)) 1==1
def Dk.ak (s:Dk):Int:=match s.crash with|some (_,k)=>k|none=>0
def Dk.after (s:Dk)(f:Fl):Fl:=⟨f.name,(f.log.filter λw=>iO s.ak (s.ve w.no)).foldl dq f.synced,[]⟩
def Dk.cG (s:Dk):Dk:=if s.down then {s with files:=s.files.map s.after,down:=false,crash:=none} else s
def gm (q:Int):Dk:=⟨[],0,(min (max q 0) 1048576).toNat,0,0,none,false⟩
def names (s:Dk):List ByteArray:=s.files.map (·.name)
structure Dk.WF (s:Dk):Prop where
 nodup:(s.files.map λf=>f.name.toList).Nodup
 used:s.used<=s.most
 most:s.most<=s.quota
 quota:s.quota<=1048576
 files:s.files.length<=4096
 down:s.down=true->s.crash.isSome
 cin:∀i k,s.crash=some (i,k)->0<=i/\i<=9223372036854775807
def Dk.logs (s:Dk):Nat:=(s.files.map λf=>f.log.length).sum
theorem ct (l:List Pg)(w:Wr):(dq l w).length=max l.length (w.page+1):=by
 simp[dq];omega
theorem kC (ws:List Wr):∀l:List Pg,l.length<=(ws.foldl dq l).length:=by
 induction ws with
 |nil=>intro l;exact Nat.le_refl _
 |cons w ws ih=>intro l;exact Nat.le_trans (by rw[ct];omega) (ih (dq l w))
theorem sK (ws:List Wr)(p:Wr->Bool):∀l r:List Pg,l.length<=r.length->((ws.filter p).foldl dq l).length<=(ws.foldl dq r).length:=by
 induction ws with
 |nil=>intro l r h;exact h
 |cons w ws ih=>
   intro l r h
   rw[List.filter_cons]
   split
   ·exact ih _ _ (by rw[ct,ct];omega)
   ·exact ih _ _ (by rw[ct];omega)
theorem mK {α:Type}(f g:α->Nat)(l:List α)(h:∀x∈l,f x<=g x):(l.map f).sum<=(l.map g).sum:=by
 induction l with
 |nil=>simp
 |cons a l ih=>
   simp only[Lp,Mp]
   exact Nat.add_le_add (h a List.mem_cons_self) (ih λx hx=>h x (List.mem_cons_of_mem _ hx))
theorem tB {α:Type}(f:α->Nat):∀(l:List α) (i:Nat) (x:α),l[i]?=some x->((l.eraseIdx i).map f).sum+f x=(l.map f).sum
 |[],i,x,h=>by simp at h
 |a::l,0,x,h=>by simp at h;subst h;simp;omega
 |a::l,i+1,x,h=>by
   have:=tB f l i x (by simpa using h)
   simp only[List.eraseIdx_cons_succ,Lp,Mp];omega
theorem eM {α:Type}(f:α->Nat)(g:α->α):∀(l:List α) (i:Nat) (x:α),l[i]?=some x->((l.modify i g).map f).sum+f x=(l.map f).sum+f (g x)
 |[],i,x,h=>by simp at h
 |a::l,0,x,h=>by simp at h;subst h;simp;omega
 |a::l,i+1,x,h=>by
   have:=eM f g l i x (by simpa using h)
   simp only[List.modify_succ_cons,Lp,Mp];omega
theorem ki {α:Type}(f:α->Nat)(l:List α)(i:Nat)(x:α)(h:l[i]?=some x):f x<=(l.map f).sum:=by
 have:=tB f l i x h;omega
theorem bo {α:Type}{l:List α}{i:Nat}{a:α}{g:α->α}(h:l[i]?=some a):(l.modify i g)[i]?=some (g a):=by
 rw[NZ,h];simp
theorem bq {α:Type}{l:List α}{i j:Nat}{g:α->α}(h:i≠j):(l.modify i g)[j]?=l[j]?:=by
 rw[NZ];simp[h]
theorem aS {α:Type}{l:List α}{i:Nat}{a:α}{g:α->α}(h:l[i]?=some a):l.modify i g=l.set i (g a):=by
 have hi:=(KI.1 h).1
 apply MT
 intro j
 by_cases hij:i=j
 ·subst hij;rw[bo h];simp[hi]
 ·rw[bq hij,LD,if_neg hij]
theorem iP {a b:ByteArray}(h:a.toList=b.toList):a=b:=by
 rw[Oq,Oq] at h
 exact ByteArray.ext (Array.toList_inj.1 h)
theorem HT {a b:ByteArray}:a.toList=b.toList↔a=b:=⟨iP,λh=>by rw[h]⟩
theorem Dk.cY {s:Dk}{n:ByteArray}{i:Nat}(h:s.idx n=some i):∃f,s.files[i]?=some f/\f.name=n:=by
 unfold Dk.idx at h
 rw[List.findIdx?_eq_some_iff_getElem] at h
 obtain⟨h1,h2,_⟩:=h
 exact⟨s.files[i],List.getElem?_eq_getElem h1,iP (by simpa using h2)⟩
theorem Dk.ra {s:Dk}{n:ByteArray}(h:s.idx n=none):∀f∈s.files,f.name≠n:=by
 unfold Dk.idx at h
 rw[List.findIdx?_eq_none_iff] at h
 intro f hf e
 have:=h f hf
 rw[e] at this;simp at this
theorem Dk.WF.inj {s:Dk}(h:s.WF){i j:Nat}{f g:Fl}(hi:s.files[i]?=some f)(hj:s.files[j]?=some g)(e:f.name=g.name):i=j:=by
 have h1:=h.nodup
 have hi':=(KI.1 hi).1
 refine(List.getElem?_inj (l:=s.files.map λf=>f.name.toList) (by simpa using hi') h1).1 ?_
 rw[Le,Le,hi,hj];simp[e]
theorem Dk.idx_eq {s:Dk}(hw:s.WF){i:Nat}{f:Fl}(h:s.files[i]?=some f):s.idx f.name=some i:=by
 cases hx:s.idx f.name with
 |none=>exact absurd rfl (Dk.ra hx f (List.mem_of_getElem? h))
 |some j=>
   obtain⟨g,hg,he⟩:=Dk.cY hx
   rw[hw.inj hg h he]
theorem Dk.dd {s:Dk}{i:Nat}{f:Fl}(h:s.files[i]?=some f):s.file i=f:=by simp[Dk.file,h]
theorem Dk.iN {s:Dk}{i:Nat}{f:Fl}{g:Fl->Fl}(hf:s.files[i]?=some f):(s.yI i g).used+f.au.length=s.used+(g f).au.length:=
 eM (λf:Fl=>f.au.length) g s.files i f hf
theorem Dk.eH {s:Dk}{i:Nat}{f:Fl}(hf:s.files[i]?=some f):f.au.length<=s.used:=ki (λf:Fl=>f.au.length) s.files i f hf
theorem Fl.sg (f:Fl):f.synced.length<=f.au.length:=kC f.log f.synced
theorem Dk.jy {s:Dk}{i:Nat}{f:Fl}(hf:s.files[i]?=some f):f.log.length<=s.logs:=ki (λf:Fl=>f.log.length) s.files i f hf
theorem Dk.WF.modify {s t:Dk}(h:s.WF){i:Nat}{f:Fl}{g:Fl->Fl}(hf:s.files[i]?=some f)(hn:(g f).name=f.name)(ht:t.files=s.files.modify i g)(hu:t.used<=t.most)(hm:t.most<=t.quota)(hq:t.quota=s.quota)(hc:t.crash=s.crash)(hd:t.down=s.down):t.WF:=by
 refine⟨?_,hu,hm,by rw[hq];exact h.quota,by rw[ht];simp;exact h.files,by rw[hd,hc];exact h.down,by rw[hc];exact h.cin⟩
 rw[ht]
 have:(s.files.modify i g).map (λf=>f.name.toList)=s.files.map (λf=>f.name.toList):=by
  rw[aS hf]
  apply MT
  intro j
  rw[Le,Le]
  by_cases hij:i=j
  ·subst hij
   have hi:=(KI.1 hf).1
   rw[hf];simp[hi,hn]
  ·rw[LD,if_neg hij]
 rw[this];exact h.nodup
end Go.Proofs.YtdpdmbceakdlmaaGreatDoor
