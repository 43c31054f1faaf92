/-
 The disk in plain words: what a disk is, and what each call makes of it.
-/
import Derived.Test.YtmkbhnholcaghaaGreatDoorFxk
open Go.ByteArray renaming toList_eq->Tu
open Go.IntKind renaming i64->Ol
open List renaming getElem?_eq_some_iff->Om,getElem?_map->Oy,map_cons->OJ,replicate->OR,getElem?_set->O6,sum_cons->Py,ext_getElem?->Qa,getElem?_modify->Ux
namespace Go.Proofs.YtmkbhnholcaghaaGreatDoor
abbrev Pg:={l:List UInt8 // l.length=512}
def GO:Pg:=⟨OR 512 0,List.length_replicate⟩
structure Wr where
 no:Int
 page:Nat
 b:Pg
structure Fl where
 name:ByteArray
 synced:List Pg
 log:List Wr
structure Dk where
 files:List Fl
 most:Nat
 quota:Nat
 ops:Int
 next:Int
 crash:Option (Int×Int)
 down:Bool
def dP (l:List Pg)(w:Wr):List Pg:=(l++OR (w.page+1 - l.length) GO).set w.page w.b
def Fl.aq (f:Fl):List Pg:=f.log.foldl dP f.synced
def Dk.idx (s:Dk)(n:ByteArray):Option Nat:=s.files.findIdx? λf=>f.name.toList==n.toList
def Dk.used (s:Dk):Nat:=(s.files.map λf=>f.aq.length).sum
def Dk.file (s:Dk)(i:Nat):Fl:=s.files.getD i ⟨ByteArray.empty,[],[]⟩
def fC (x:Int):Int:=Ol.wrap x
def Dk.G0 (t:Dk)(i:Nat)(u:Fl->Fl):Dk:={t with files:=t.files.modify i u}
def Dk.fW (t:Dk)(i:Nat)(w:Wr):Dk:=⟨t.files.modify i (λf=>{f with log:=f.log++[w]}),t.most,t.quota,t.ops,fC (t.next+1),t.crash,t.down⟩
def Dk.jb (t:Dk)(m:Nat):Dk:=⟨t.files,m,t.quota,t.ops,t.next,t.crash,t.down⟩
def named (n:ByteArray):Bool:=decide (1<=n.size)&&decide (n.size<=100)
def Dk.change (s:Dk):Dk×Int:=
 match s.crash with
 |none=>({s with ops:=fC (s.ops+1)},0)
 |some (i,k)=>if i=0 then ({s with down:=true},4) else ({s with crash:=some (fC (i - 1),k),ops:=fC (s.ops+1)},0)
def Dk.step (s:Dk)(f:Dk->Dk):Dk×Int:=if s.change.2=0 then (f s.change.1,0) else s.change
def Dk.open (s:Dk)(n:ByteArray):Option Nat×Int:=
 if s.down then (none,4) else match s.idx n with|some i=>(some i,0)|none=>(none,11)
def Dk.create (s:Dk)(n:ByteArray):Dk×Int:=
 if s.down then (s,4) else if named n=false then (s,2) else if (s.idx n).isSome then (s,10) else if s.files.length=4096 then (s,3)
 else s.step λt=>{t with files:=t.files++[⟨n,[],[]⟩]}
def Dk.drop (s:Dk)(n:ByteArray):Dk:=match s.idx n with|some i=>{s with files:=s.files.eraseIdx i}|none=>s
def Dk.remove (s:Dk)(n:ByteArray):Dk×Int:=
 if s.down then (s,4) else if (s.idx n).isNone then (s,11) else s.step λt=>t.drop n
def Dk.write (s:Dk)(n:ByteArray)(page:Int)(b:List UInt8):Dk×Int:=
 if s.down then (s,4) else if h:b.length=512 then
  match s.idx n with
  |none=>(s,11)
  |some i=>
    if page<0\/page>(s.file i).aq.length then (s,12)
    else if page=(s.file i).aq.length/\s.used>=s.quota then (s,5)
    else s.step λt=>(t.fW i ⟨t.next,page.toNat,⟨b,h⟩⟩).jb (max t.most (t.fW i ⟨t.next,page.toNat,⟨b,h⟩⟩).used)
 else (s,2)
def Dk.read (s:Dk)(n:ByteArray)(page:Int):List UInt8×Int:=
 match s.open n with
 |(some i,_)=>if page<0 then ([],12) else match ((s.file i).aq)[page.toNat]? with|some p=>(p.1,0)|none=>([],12)
 |(none,e)=>([],e)
def Dk.len (s:Dk)(n:ByteArray):Nat×Int:=
 match s.open n with
 |(some i,_)=>((s.file i).aq.length,0)
 |(none,e)=>(0,e)
def Dk.sync (s:Dk)(n:ByteArray):Dk×Int:=
 if s.down then (s,4) else match s.idx n with
  |none=>(s,11)
  |some i=>s.step λt=>t.G0 i λf=>{f with synced:=f.aq,log:=[]}
def Dk.db (s:Dk)(i k:Int):Dk:=if s.down then s else {s with crash:=some (max i 0,k)}
def Dk.G8 (s:Dk):List Int:=s.files.flatMap λf=>f.log.map (·.no)
def Dk.xM (s:Dk)(no:Int):Nat:=(s.G8.filter λx=>decide (x<no)).length
def jh (k:Int)(r:Nat):Bool:=lQ .u64 (dI .u64 k (Int.tmod (r:Int) 64)) 1==1
def Dk.keep (s:Dk):Int:=match s.crash with|some (_,k)=>k|none=>0
def Dk.after (s:Dk)(f:Fl):Fl:=⟨f.name,(f.log.filter λw=>jh s.keep (s.xM w.no)).foldl dP f.synced,[]⟩
def Dk.cU (s:Dk):Dk:=if s.down then {s with files:=s.files.map s.after,down:=false,crash:=none} else s
def ry (q:Int):Dk:=⟨[],0,(min (max q 0) 1048576).toNat,0,0,none,false⟩
def names (s:Dk):List ByteArray:=s.files.map (·.name)
structure Dk.WF (s:Dk):Prop where
 nodup:(s.files.map λf=>f.name.toList).Nodup
 used:s.used<=s.most
 most:s.most<=s.quota
 quota:s.quota<=1048576
 files:s.files.length<=4096
 down:s.down=true->s.crash.isSome
 cin:∀i k,s.crash=some (i,k)->0<=i/\i<=9223372036854775807
def Dk.aB (s:Dk):Nat:=(s.files.map λf=>f.log.length).sum
theorem da (l:List Pg)(w:Wr):(dP l w).length=max l.length (w.page+1):=by
 simp[dP];omega
theorem lU (ws:List Wr):∀l:List Pg,l.length<=(ws.foldl dP l).length:=by
 induction ws with
 |nil=>intro l;exact Nat.le_refl _
 |cons w ws a=>intro l;exact Nat.le_trans (by rw[da];omega) (a (dP l w))
theorem vz (ws:List Wr)(p:Wr->Bool):∀l r:List Pg,l.length<=r.length->((ws.filter p).foldl dP l).length<=(ws.foldl dP r).length:=by
 induction ws with
 |nil=>intro l r h;exact h
 |cons w ws a=>
   intro l r h;rw[List.filter_cons];split
   ·exact a _ _ (by rw[da,da];omega)
   ·exact a _ _ (by rw[da];omega)
theorem nN {α:Type}(f g:α->Nat)(l:List α)(h:∀x∈l,f x<=g x):(l.map f).sum<=(l.map g).sum:=by
 induction l with
 |nil=>simp
 |cons a l b=>
   simp only[OJ,Py];exact Nat.add_le_add (h a List.mem_cons_self) (b λx c=>h x (List.mem_cons_of_mem _ c))
theorem jL {α:Type}(f:α->Nat):∀(l:List α) (i:Nat) (x:α),l[i]?=some x->((l.eraseIdx i).map f).sum+f x=(l.map f).sum
 |[],i,x,h=>by simp at h
 |a::l,0,x,h=>by simp at h;subst h;simp;omega
 |a::l,i+1,x,h=>by
   have:=jL f l i x (by simpa using h);simp only[List.eraseIdx_cons_succ,OJ,Py];omega
theorem fi {α:Type}(f:α->Nat)(g:α->α):∀(l:List α) (i:Nat) (x:α),l[i]?=some x->((l.modify i g).map f).sum+f x=(l.map f).sum+f (g x)
 |[],i,x,h=>by simp at h
 |a::l,0,x,h=>by simp at h;subst h;simp;omega
 |a::l,i+1,x,h=>by
   have:=fi f g l i x (by simpa using h);simp only[List.modify_succ_cons,OJ,Py];omega
theorem lk {α:Type}(f:α->Nat)(l:List α)(i:Nat)(x:α)(h:l[i]?=some x):f x<=(l.map f).sum:=by
 have:=jL f l i x h;omega
theorem dV {α:Type}{l:List α}{i:Nat}{a:α}{g:α->α}(h:l[i]?=some a):(l.modify i g)[i]?=some (g a):=by
 rw[Ux,h];simp
theorem dX {α:Type}{l:List α}{i j:Nat}{g:α->α}(h:i≠j):(l.modify i g)[j]?=l[j]?:=by
 rw[Ux];simp[h]
theorem aZ {α:Type}{l:List α}{i:Nat}{a:α}{g:α->α}(h:l[i]?=some a):l.modify i g=l.set i (g a):=by
 have hi:=(Om.1 h).1;apply Qa;intro j;by_cases b:i=j
 ·subst b;rw[dV h];simp[hi]
 ·rw[dX b,O6,if_neg b]
theorem gM {a b:ByteArray}(h:a.toList=b.toList):a=b:=by
 rw[Tu,Tu] at h;exact ByteArray.ext (Array.toList_inj.1 h)
theorem KT {a b:ByteArray}:a.toList=b.toList↔a=b:=⟨gM,λh=>by rw[h]⟩
theorem Dk.cp {s:Dk}{n:ByteArray}{i:Nat}(h:s.idx n=some i):∃f,s.files[i]?=some f/\f.name=n:=by
 unfold Dk.idx at h;rw[List.findIdx?_eq_some_iff_getElem] at h;obtain⟨h1,a,_⟩:=h;exact⟨s.files[i],List.getElem?_eq_getElem h1,gM (by simpa using a)⟩
theorem Dk.rT {s:Dk}{n:ByteArray}(h:s.idx n=none):∀f∈s.files,f.name≠n:=by
 unfold Dk.idx at h;rw[List.findIdx?_eq_none_iff] at h;intro f a e;have:=h f a;rw[e] at this;simp at this
theorem Dk.WF.inj {s:Dk}(h:s.WF){i j:Nat}{f g:Fl}(hi:s.files[i]?=some f)(b:s.files[j]?=some g)(e:f.name=g.name):i=j:=by
 have h1:=h.nodup;have a:=(Om.1 hi).1;refine(List.getElem?_inj (l:=s.files.map λf=>f.name.toList) (by simpa using a) h1).1 ?_;rw[Oy,Oy,hi,b];simp[e]
theorem Dk.idx_eq {s:Dk}(hw:s.WF){i:Nat}{f:Fl}(h:s.files[i]?=some f):s.idx f.name=some i:=by
 cases a:s.idx f.name with
 |none=>exact absurd rfl (Dk.rT a f (List.mem_of_getElem? h))
 |some j=>
   obtain⟨g,b,he⟩:=Dk.cp a;rw[hw.inj b h he]
theorem Dk.dw {s:Dk}{i:Nat}{f:Fl}(h:s.files[i]?=some f):s.file i=f:=by simp[Dk.file,h]
theorem Dk.jg {s:Dk}{i:Nat}{f:Fl}{g:Fl->Fl}(a:s.files[i]?=some f):(s.G0 i g).used+f.aq.length=s.used+(g f).aq.length:=
 fi (λf:Fl=>f.aq.length) g s.files i f a
theorem Dk.eR {s:Dk}{i:Nat}{f:Fl}(a:s.files[i]?=some f):f.aq.length<=s.used:=lk (λf:Fl=>f.aq.length) s.files i f a
theorem Fl.uH (f:Fl):f.synced.length<=f.aq.length:=lU f.log f.synced
theorem Dk.ki {s:Dk}{i:Nat}{f:Fl}(a:s.files[i]?=some f):f.log.length<=s.aB:=lk (λf:Fl=>f.log.length) s.files i f a
theorem Dk.WF.modify {s t:Dk}(h:s.WF){i:Nat}{f:Fl}{g:Fl->Fl}(b:s.files[i]?=some f)(e:(g f).name=f.name)(c:t.files=s.files.modify i g)(hu:t.used<=t.most)(hm:t.most<=t.quota)(k:t.quota=s.quota)(d:t.crash=s.crash)(hd:t.down=s.down):t.WF:=by
 refine⟨?_,hu,hm,by rw[k];exact h.quota,by rw[c];simp;exact h.files,by rw[hd,d];exact h.down,by rw[d];exact h.cin⟩;rw[c];have:(s.files.modify i g).map (λf=>f.name.toList)=s.files.map (λf=>f.name.toList):=by
  rw[aZ b];apply Qa;intro j;rw[Oy,Oy];by_cases a:i=j
  ·subst a;have hi:=(Om.1 b).1;rw[b];simp[hi,e]
  ·rw[O6,if_neg a]
 rw[this];exact h.nodup
end Go.Proofs.YtmkbhnholcaghaaGreatDoor
