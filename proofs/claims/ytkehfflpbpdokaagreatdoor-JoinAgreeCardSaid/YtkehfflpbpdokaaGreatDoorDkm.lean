/-
 The disk in plain words: what a disk is, and what each call makes of it.
-/
import Derived.Test.YtkehfflpbpdokaaGreatDoorFxk
open Go.ByteArray renaming toList_eq->UK
open Go.IntKind renaming i64->Qe
open List renaming getElem?_eq_some_iff->Qk,getElem?_map->QC,replicate->QE,getElem?_set->Rc,map_cons->RH,ext_getElem?->SU,sum_cons->TX,getElem?_modify->VU
namespace Go.Proofs.YtkehfflpbpdokaaGreatDoor
abbrev Pg:={l:List UInt8 // l.length=512}
def OA:Pg:=⟨QE 512 0,List.length_replicate⟩
structure Wr where
 no:Int
 ag:Nat
 b:Pg
structure Fl where
 name:ByteArray
 synced:List Pg
 log:List Wr
structure Dk where
 files:List Fl
 most:Nat
 quota:Nat
 ops:Int
 next:Int
 crash:Option (Int×Int)
 down:Bool
def vu (l:List Pg)(w:Wr):List Pg:=(l++QE (w.ag+1 - l.length) OA).set w.ag w.b
def Fl.aG (f:Fl):List Pg:=f.log.foldl vu f.synced
def Dk.idx (s:Dk)(n:ByteArray):Option Nat:=s.files.findIdx? λf=>f.name.toList==n.toList
def Dk.used (s:Dk):Nat:=(s.files.map λf=>f.aG.length).sum
def Dk.file (s:Dk)(i:Nat):Fl:=s.files.getD i ⟨ByteArray.empty,[],[]⟩
def gQ (x:Int):Int:=Qe.wrap x
def Dk.Ph (t:Dk)(i:Nat)(u:Fl->Fl):Dk:={t with files:=t.files.modify i u}
def Dk.tj (t:Dk)(i:Nat)(w:Wr):Dk:=⟨t.files.modify i (λf=>{f with log:=f.log++[w]}),t.most,t.quota,t.ops,gQ (t.next+1),t.crash,t.down⟩
def Dk.ni (t:Dk)(m:Nat):Dk:=⟨t.files,m,t.quota,t.ops,t.next,t.crash,t.down⟩
def named (n:ByteArray):Bool:=decide (1<=n.size)&&decide (n.size<=100)
def Dk.change (s:Dk):Dk×Int:=
 match s.crash with
 |none=>({s with ops:=gQ (s.ops+1)},0)
 |some (i,k)=>if i=0 then ({s with down:=true},4) else ({s with crash:=some (gQ (i - 1),k),ops:=gQ (s.ops+1)},0)
def Dk.step (s:Dk)(f:Dk->Dk):Dk×Int:=if s.change.2=0 then (f s.change.1,0) else s.change
def Dk.open (s:Dk)(n:ByteArray):Option Nat×Int:=
 if s.down then (none,4) else match s.idx n with|some i=>(some i,0)|none=>(none,11)
def Dk.create (s:Dk)(n:ByteArray):Dk×Int:=
 if s.down then (s,4) else if named n=false then (s,2) else if (s.idx n).isSome then (s,10) else if s.files.length=4096 then (s,3)
 else s.step λt=>{t with files:=t.files++[⟨n,[],[]⟩]}
def Dk.drop (s:Dk)(n:ByteArray):Dk:=match s.idx n with|some i=>{s with files:=s.files.eraseIdx i}|none=>s
def Dk.remove (s:Dk)(n:ByteArray):Dk×Int:=
 if s.down then (s,4) else if (s.idx n).isNone then (s,11) else s.step λt=>t.drop n
def Dk.write (s:Dk)(n:ByteArray)(ag:Int)(b:List UInt8):Dk×Int:=
 if s.down then (s,4) else if h:b.length=512 then
  match s.idx n with
  |none=>(s,11)
  |some i=>
    if ag<0\/ag>(s.file i).aG.length then (s,12)
    else if ag=(s.file i).aG.length/\s.used>=s.quota then (s,5)
    else s.step λt=>(t.tj i ⟨t.next,ag.toNat,⟨b,h⟩⟩).ni (max t.most (t.tj i ⟨t.next,ag.toNat,⟨b,h⟩⟩).used)
 else (s,2)
def Dk.read (s:Dk)(n:ByteArray)(ag:Int):List UInt8×Int:=
 match s.open n with
 |(some i,_)=>if ag<0 then ([],12) else match ((s.file i).aG)[ag.toNat]? with|some p=>(p.1,0)|none=>([],12)
 |(none,e)=>([],e)
def Dk.len (s:Dk)(n:ByteArray):Nat×Int:=
 match s.open n with
 |(some i,_)=>((s.file i).aG.length,0)
 |(none,e)=>(0,e)
def AQ (q:Int):Dk:=⟨[],0,(min (max q 0) 1048576).toNat,0,0,none,false⟩
structure Dk.WF (s:Dk):Prop where
 nodup:(s.files.map λf=>f.name.toList).Nodup
 used:s.used<=s.most
 most:s.most<=s.quota
 quota:s.quota<=1048576
 files:s.files.length<=4096
 down:s.down=true->s.crash.isSome
 cin:∀i k,s.crash=some (i,k)->0<=i/\i<=9223372036854775807
def Dk.bt (s:Dk):Nat:=(s.files.map λf=>f.log.length).sum
theorem nh (l:List Pg)(w:Wr):(vu l w).length=max l.length (w.ag+1):=by
 simp[vu];omega
theorem jg {α:Type}(f:α->Nat):∀(l:List α) (i:Nat) (x:α),l[i]?=some x->((l.eraseIdx i).map f).sum+f x=(l.map f).sum
 |[],i,x,h=>by simp at h
 |a::l,0,x,h=>by simp at h;subst h;simp;omega
 |a::l,i+1,x,h=>by
   have:=jg f l i x (by simpa using h);simp only[List.eraseIdx_cons_succ,RH,TX];omega
theorem gZ {α:Type}(f:α->Nat)(g:α->α):∀(l:List α) (i:Nat) (x:α),l[i]?=some x->((l.modify i g).map f).sum+f x=(l.map f).sum+f (g x)
 |[],i,x,h=>by simp at h
 |a::l,0,x,h=>by simp at h;subst h;simp;omega
 |a::l,i+1,x,h=>by
   have:=gZ f g l i x (by simpa using h);simp only[List.modify_succ_cons,RH,TX];omega
theorem uI {α:Type}(f:α->Nat)(l:List α)(i:Nat)(x:α)(h:l[i]?=some x):f x<=(l.map f).sum:=by
 have:=jg f l i x h;omega
theorem bL {α:Type}{l:List α}{i:Nat}{a:α}{g:α->α}(h:l[i]?=some a):(l.modify i g)[i]?=some (g a):=by
 rw[VU,h];simp
theorem bw {α:Type}{l:List α}{i j:Nat}{g:α->α}(h:i≠j):(l.modify i g)[j]?=l[j]?:=by
 rw[VU];simp[h]
theorem cT {α:Type}{l:List α}{i:Nat}{a:α}{g:α->α}(h:l[i]?=some a):l.modify i g=l.set i (g a):=by
 have hi:=(Qk.1 h).1;apply SU;intro j;by_cases b:i=j
 ·subst b;rw[bL h];simp[hi]
 ·rw[bw b,Rc,if_neg b]
theorem ka {a b:ByteArray}(h:a.toList=b.toList):a=b:=by
 rw[UK,UK] at h;exact ByteArray.ext (Array.toList_inj.1 h)
theorem MN {a b:ByteArray}:a.toList=b.toList↔a=b:=⟨ka,λh=>by rw[h]⟩
theorem Dk.mP {s:Dk}{n:ByteArray}{i:Nat}(h:s.idx n=some i):∃f,s.files[i]?=some f/\f.name=n:=by
 unfold Dk.idx at h;rw[List.findIdx?_eq_some_iff_getElem] at h;obtain⟨h1,a,_⟩:=h;exact⟨s.files[i],List.getElem?_eq_getElem h1,ka (by simpa using a)⟩
theorem Dk.tD {s:Dk}{n:ByteArray}(h:s.idx n=none):∀f∈s.files,f.name≠n:=by
 unfold Dk.idx at h;rw[List.findIdx?_eq_none_iff] at h;intro f a e;have:=h f a;rw[e] at this;simp at this
theorem Dk.WF.inj {s:Dk}(h:s.WF){i j:Nat}{f g:Fl}(hi:s.files[i]?=some f)(b:s.files[j]?=some g)(e:f.name=g.name):i=j:=by
 have h1:=h.nodup;have a:=(Qk.1 hi).1;refine(List.getElem?_inj (l:=s.files.map λf=>f.name.toList) (by simpa using a) h1).1 ?_;rw[QC,QC,hi,b];simp[e]
theorem Dk.idx_eq {s:Dk}(hw:s.WF){i:Nat}{f:Fl}(h:s.files[i]?=some f):s.idx f.name=some i:=by
 cases a:s.idx f.name with
 |none=>exact absurd rfl (Dk.tD a f (List.mem_of_getElem? h))
 |some j=>
   obtain⟨g,b,he⟩:=Dk.mP a;rw[hw.inj b h he]
theorem Dk.iX {s:Dk}{i:Nat}{f:Fl}(h:s.files[i]?=some f):s.file i=f:=by simp[Dk.file,h]
theorem Dk.AK {s:Dk}{i:Nat}{f:Fl}{g:Fl->Fl}(a:s.files[i]?=some f):(s.Ph i g).used+f.aG.length=s.used+(g f).aG.length:=
 gZ (λf:Fl=>f.aG.length) g s.files i f a
theorem Dk.zp {s:Dk}{i:Nat}{f:Fl}(a:s.files[i]?=some f):f.aG.length<=s.used:=uI (λf:Fl=>f.aG.length) s.files i f a
theorem Dk.Mh {s:Dk}{i:Nat}{f:Fl}(a:s.files[i]?=some f):f.log.length<=s.bt:=uI (λf:Fl=>f.log.length) s.files i f a
theorem Dk.WF.modify {s t:Dk}(h:s.WF){i:Nat}{f:Fl}{g:Fl->Fl}(b:s.files[i]?=some f)(e:(g f).name=f.name)(c:t.files=s.files.modify i g)(hu:t.used<=t.most)(hm:t.most<=t.quota)(k:t.quota=s.quota)(d:t.crash=s.crash)(hd:t.down=s.down):t.WF:=by
 refine⟨?_,hu,hm,by rw[k];exact h.quota,by rw[c];simp;exact h.files,by rw[hd,d];exact h.down,by rw[d];exact h.cin⟩;rw[c];have:(s.files.modify i g).map (λf=>f.name.toList)=s.files.map (λf=>f.name.toList):=by
  rw[cT b];apply SU;intro j;rw[QC,QC];by_cases a:i=j
  ·subst a;have hi:=(Qk.1 b).1;rw[b];simp[hi,e]
  ·rw[Rc,if_neg a]
 rw[this];exact h.nodup
end Go.Proofs.YtkehfflpbpdokaaGreatDoor
