/-
 The disk in plain words: what a disk is, and what each call makes of it.
-/
import Derived.Test.YtmkbhnholcaghaaGreatDoorFxk
open Go.ByteArray renaming toList_eq->Te
open Go.IntKind renaming i64->N6
open List renaming getElem?_eq_some_iff->N7,getElem?_map->Oi,map_cons->Ox,replicate->OD,getElem?_set->OS,sum_cons->Ph,ext_getElem?->PT,getElem?_modify->Uk
namespace Go.Proofs.YtmkbhnholcaghaaGreatDoor
abbrev Pg:={l:List UInt8 // l.length=512}
def GF:Pg:=⟨OD 512 0,List.length_replicate⟩
structure Wr where
 no:Int
 page:Nat
 b:Pg
structure Fl where
 name:ByteArray
 synced:List Pg
 log:List Wr
structure Dk where
 files:List Fl
 most:Nat
 quota:Nat
 ops:Int
 next:Int
 crash:Option (Int×Int)
 down:Bool
def dN (l:List Pg)(w:Wr):List Pg:=(l++OD (w.page+1 - l.length) GF).set w.page w.b
def Fl.aq (f:Fl):List Pg:=f.log.foldl dN f.synced
def Dk.idx (s:Dk)(n:ByteArray):Option Nat:=s.files.findIdx? λf=>f.name.toList==n.toList
def Dk.used (s:Dk):Nat:=(s.files.map λf=>f.aq.length).sum
def Dk.file (s:Dk)(i:Nat):Fl:=s.files.getD i ⟨ByteArray.empty,[],[]⟩
def fw (x:Int):Int:=N6.wrap x
def Dk.GS (t:Dk)(i:Nat)(u:Fl->Fl):Dk:={t with files:=t.files.modify i u}
def Dk.fS (t:Dk)(i:Nat)(w:Wr):Dk:=⟨t.files.modify i (λf=>{f with log:=f.log++[w]}),t.most,t.quota,t.ops,fw (t.next+1),t.crash,t.down⟩
def Dk.iY (t:Dk)(m:Nat):Dk:=⟨t.files,m,t.quota,t.ops,t.next,t.crash,t.down⟩
def named (n:ByteArray):Bool:=decide (1<=n.size)&&decide (n.size<=100)
def Dk.change (s:Dk):Dk×Int:=
 match s.crash with
 |none=>({s with ops:=fw (s.ops+1)},0)
 |some (i,k)=>if i=0 then ({s with down:=true},4) else ({s with crash:=some (fw (i - 1),k),ops:=fw (s.ops+1)},0)
def Dk.step (s:Dk)(f:Dk->Dk):Dk×Int:=if s.change.2=0 then (f s.change.1,0) else s.change
def Dk.open (s:Dk)(n:ByteArray):Option Nat×Int:=
 if s.down then (none,4) else match s.idx n with|some i=>(some i,0)|none=>(none,11)
def Dk.create (s:Dk)(n:ByteArray):Dk×Int:=
 if s.down then (s,4) else if named n=false then (s,2) else if (s.idx n).isSome then (s,10) else if s.files.length=4096 then (s,3)
 else s.step λt=>{t with files:=t.files++[⟨n,[],[]⟩]}
def Dk.drop (s:Dk)(n:ByteArray):Dk:=match s.idx n with|some i=>{s with files:=s.files.eraseIdx i}|none=>s
def Dk.remove (s:Dk)(n:ByteArray):Dk×Int:=
 if s.down then (s,4) else if (s.idx n).isNone then (s,11) else s.step λt=>t.drop n
def Dk.write (s:Dk)(n:ByteArray)(page:Int)(b:List UInt8):Dk×Int:=
 if s.down then (s,4) else if h:b.length=512 then
  match s.idx n with
  |none=>(s,11)
  |some i=>
    if page<0\/page>(s.file i).aq.length then (s,12)
    else if page=(s.file i).aq.length/\s.used>=s.quota then (s,5)
    else s.step λt=>(t.fS i ⟨t.next,page.toNat,⟨b,h⟩⟩).iY (max t.most (t.fS i ⟨t.next,page.toNat,⟨b,h⟩⟩).used)
 else (s,2)
def Dk.read (s:Dk)(n:ByteArray)(page:Int):List UInt8×Int:=
 match s.open n with
 |(some i,_)=>if page<0 then ([],12) else match ((s.file i).aq)[page.toNat]? with|some p=>(p.1,0)|none=>([],12)
 |(none,e)=>([],e)
def Dk.len (s:Dk)(n:ByteArray):Nat×Int:=
 match s.open n with
 |(some i,_)=>((s.file i).aq.length,0)
 |(none,e)=>(0,e)
def Dk.sync (s:Dk)(n:ByteArray):Dk×Int:=
 if s.down then (s,4) else match s.idx n with
  |none=>(s,11)
  |some i=>s.step λt=>t.GS i λf=>{f with synced:=f.aq,log:=[]}
def Dk.da (s:Dk)(i k:Int):Dk:=if s.down then s else {s with crash:=some (max i 0,k)}
def Dk.G3 (s:Dk):List Int:=s.files.flatMap λf=>f.log.map (·.no)
def Dk.xC (s:Dk)(no:Int):Nat:=(s.G3.filter λx=>decide (x<no)).length
def jd (k:Int)(r:Nat):Bool:=lJ .u64 (dG .u64 k (Int.tmod (r:Int) 64)) 1==1
def Dk.keep (s:Dk):Int:=match s.crash with|some (_,k)=>k|none=>0
def Dk.after (s:Dk)(f:Fl):Fl:=⟨f.name,(f.log.filter λw=>jd s.keep (s.xC w.no)).foldl dN f.synced,[]⟩
def Dk.cS (s:Dk):Dk:=if s.down then {s with files:=s.files.map s.after,down:=false,crash:=none} else s
def re (q:Int):Dk:=⟨[],0,(min (max q 0) 1048576).toNat,0,0,none,false⟩
def names (s:Dk):List ByteArray:=s.files.map (·.name)
structure Dk.WF (s:Dk):Prop where
 nodup:(s.files.map λf=>f.name.toList).Nodup
 used:s.used<=s.most
 most:s.most<=s.quota
 quota:s.quota<=1048576
 files:s.files.length<=4096
 down:s.down=true->s.crash.isSome
 cin:∀i k,s.crash=some (i,k)->0<=i/\i<=9223372036854775807
def Dk.aB (s:Dk):Nat:=(s.files.map λf=>f.log.length).sum
theorem c9 (l:List Pg)(w:Wr):(dN l w).length=max l.length (w.page+1):=by
 simp[dN];omega
theorem lN (ws:List Wr):∀l:List Pg,l.length<=(ws.foldl dN l).length:=by
 induction ws with
 |nil=>intro l;exact Nat.le_refl _
 |cons w ws a=>intro l;exact Nat.le_trans (by rw[c9];omega) (a (dN l w))
theorem vn (ws:List Wr)(p:Wr->Bool):∀l r:List Pg,l.length<=r.length->((ws.filter p).foldl dN l).length<=(ws.foldl dN r).length:=by
 induction ws with
 |nil=>intro l r h;exact h
 |cons w ws a=>
   intro l r h;rw[List.filter_cons];split
   ·exact a _ _ (by rw[c9,c9];omega)
   ·exact a _ _ (by rw[c9];omega)
theorem nE {α:Type}(f g:α->Nat)(l:List α)(h:∀x∈l,f x<=g x):(l.map f).sum<=(l.map g).sum:=by
 induction l with
 |nil=>simp
 |cons a l b=>
   simp only[Ox,Ph];exact Nat.add_le_add (h a List.mem_cons_self) (b λx c=>h x (List.mem_cons_of_mem _ c))
theorem jH {α:Type}(f:α->Nat):∀(l:List α) (i:Nat) (x:α),l[i]?=some x->((l.eraseIdx i).map f).sum+f x=(l.map f).sum
 |[],i,x,h=>by simp at h
 |a::l,0,x,h=>by simp at h;subst h;simp;omega
 |a::l,i+1,x,h=>by
   have:=jH f l i x (by simpa using h);simp only[List.eraseIdx_cons_succ,Ox,Ph];omega
theorem fg {α:Type}(f:α->Nat)(g:α->α):∀(l:List α) (i:Nat) (x:α),l[i]?=some x->((l.modify i g).map f).sum+f x=(l.map f).sum+f (g x)
 |[],i,x,h=>by simp at h
 |a::l,0,x,h=>by simp at h;subst h;simp;omega
 |a::l,i+1,x,h=>by
   have:=fg f g l i x (by simpa using h);simp only[List.modify_succ_cons,Ox,Ph];omega
theorem kX {α:Type}(f:α->Nat)(l:List α)(i:Nat)(x:α)(h:l[i]?=some x):f x<=(l.map f).sum:=by
 have:=jH f l i x h;omega
theorem dS {α:Type}{l:List α}{i:Nat}{a:α}{g:α->α}(h:l[i]?=some a):(l.modify i g)[i]?=some (g a):=by
 rw[Uk,h];simp
theorem dW {α:Type}{l:List α}{i j:Nat}{g:α->α}(h:i≠j):(l.modify i g)[j]?=l[j]?:=by
 rw[Uk];simp[h]
theorem aZ {α:Type}{l:List α}{i:Nat}{a:α}{g:α->α}(h:l[i]?=some a):l.modify i g=l.set i (g a):=by
 have hi:=(N7.1 h).1;apply PT;intro j;by_cases b:i=j
 ·subst b;rw[dS h];simp[hi]
 ·rw[dW b,OS,if_neg b]
theorem gJ {a b:ByteArray}(h:a.toList=b.toList):a=b:=by
 rw[Te,Te] at h;exact ByteArray.ext (Array.toList_inj.1 h)
theorem KO {a b:ByteArray}:a.toList=b.toList↔a=b:=⟨gJ,λh=>by rw[h]⟩
theorem Dk.cj {s:Dk}{n:ByteArray}{i:Nat}(h:s.idx n=some i):∃f,s.files[i]?=some f/\f.name=n:=by
 unfold Dk.idx at h;rw[List.findIdx?_eq_some_iff_getElem] at h;obtain⟨h1,a,_⟩:=h;exact⟨s.files[i],List.getElem?_eq_getElem h1,gJ (by simpa using a)⟩
theorem Dk.rK {s:Dk}{n:ByteArray}(h:s.idx n=none):∀f∈s.files,f.name≠n:=by
 unfold Dk.idx at h;rw[List.findIdx?_eq_none_iff] at h;intro f a e;have:=h f a;rw[e] at this;simp at this
theorem Dk.WF.inj {s:Dk}(h:s.WF){i j:Nat}{f g:Fl}(hi:s.files[i]?=some f)(b:s.files[j]?=some g)(e:f.name=g.name):i=j:=by
 have h1:=h.nodup;have a:=(N7.1 hi).1;refine(List.getElem?_inj (l:=s.files.map λf=>f.name.toList) (by simpa using a) h1).1 ?_;rw[Oi,Oi,hi,b];simp[e]
theorem Dk.idx_eq {s:Dk}(hw:s.WF){i:Nat}{f:Fl}(h:s.files[i]?=some f):s.idx f.name=some i:=by
 cases a:s.idx f.name with
 |none=>exact absurd rfl (Dk.rK a f (List.mem_of_getElem? h))
 |some j=>
   obtain⟨g,b,he⟩:=Dk.cj a;rw[hw.inj b h he]
theorem Dk.du {s:Dk}{i:Nat}{f:Fl}(h:s.files[i]?=some f):s.file i=f:=by simp[Dk.file,h]
theorem Dk.jc {s:Dk}{i:Nat}{f:Fl}{g:Fl->Fl}(a:s.files[i]?=some f):(s.GS i g).used+f.aq.length=s.used+(g f).aq.length:=
 fg (λf:Fl=>f.aq.length) g s.files i f a
theorem Dk.eQ {s:Dk}{i:Nat}{f:Fl}(a:s.files[i]?=some f):f.aq.length<=s.used:=kX (λf:Fl=>f.aq.length) s.files i f a
theorem Fl.uv (f:Fl):f.synced.length<=f.aq.length:=lN f.log f.synced
theorem Dk.j6 {s:Dk}{i:Nat}{f:Fl}(a:s.files[i]?=some f):f.log.length<=s.aB:=kX (λf:Fl=>f.log.length) s.files i f a
theorem Dk.WF.modify {s t:Dk}(h:s.WF){i:Nat}{f:Fl}{g:Fl->Fl}(b:s.files[i]?=some f)(e:(g f).name=f.name)(c:t.files=s.files.modify i g)(hu:t.used<=t.most)(hm:t.most<=t.quota)(k:t.quota=s.quota)(d:t.crash=s.crash)(hd:t.down=s.down):t.WF:=by
 refine⟨?_,hu,hm,by rw[k];exact h.quota,by rw[c];simp;exact h.files,by rw[hd,d];exact h.down,by rw[d];exact h.cin⟩;rw[c];have:(s.files.modify i g).map (λf=>f.name.toList)=s.files.map (λf=>f.name.toList):=by
  rw[aZ b];apply PT;intro j;rw[Oi,Oi];by_cases a:i=j
  ·subst a;have hi:=(N7.1 b).1;rw[b];simp[hi,e]
  ·rw[OS,if_neg a]
 rw[this];exact h.nodup
end Go.Proofs.YtmkbhnholcaghaaGreatDoor
