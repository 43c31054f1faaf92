/-
 Written by wip/tools/gen.py: what the walk of each function asks, in plain form, and that it is enough.
-/
import Derived.KernelRfl
import Derived.Test.YtmkbhnholcaghaaGreatDoorProg
import Derived.Test.YtmkbhnholcaghaaGreatDoorJ1
open ByteArray renaming mk->Q4,empty->Tn
open Go.Addr renaming mk->abn
open Go.Builtin renaming append_->QM,delete_->Sj,clear_->VY,copy_->Wf
open Go.Instr renaming storeAt->Q3,buildSlice->R2,lookup->Sd,entry->Sr,makeSlice->SK,next->SO,range->SS,mapUpdate->SZ
open Go.IntKind renaming i64->QI,u64->Rj,u8->RE,u32->Ss
open Go.Proofs.Tryz renaming prog->QH
open Int renaming tdiv->Rt,tmod->RP
open Nat renaming beq->Rh
open Go renaming Addr->hY,Value->gp,TypeId->ic,FuncId->kc
namespace Go.Proofs.YtmkbhnholcaghaaGreatDoor
section
set_option maxRecDepth 100000
theorem Ba:QH.follows .mixedOrders=true:=by kernel_rfl
theorem G0:(QH.funcs.toList.all λfn=>!(fn.name=="runtime.NumGoroutine"))=true:=by kernel_rfl
theorem I5:mY QH:=by
 intro f fn a;have h1:=List.all_eq_true.1 G0 fn (by
  have:=Array.getElem?_eq_some_iff.1 a;obtain⟨h,e⟩:=this;rw[<-e];simp)
 simpa using h1
theorem ba {c:fg}{f:kc}(A:CM){args:List gp}{H:aa}{R:c.α->aa->Prop}{V:Prop}(e:N2 c QH f A args H R=V)(h:V):ak c QH f args.toArray H R:=Aa I5 Ba (A:=A) (Eq.mpr e h)
abbrev Kp (α:Type):=α->aa->Prop
@[reducible] def BN:ic:=0
abbrev jm:ic:=3
abbrev Nu:ic:=4
abbrev fU:ic:=5
abbrev dG:ic:=9
abbrev dv:ic:=22
abbrev Nr:ic:=24
abbrev dV:ic:=30
abbrev dY:ic:=34
abbrev fM:ic:=44
abbrev AS:ic:=46
abbrev Du:ic:=61
abbrev xE:ic:=72
abbrev OD:ic:=75
abbrev OH:ic:=83
abbrev N8:ic:=85
abbrev OX:ic:=86
abbrev kC:ic:=89
abbrev Ej:ic:=102
abbrev tw:ic:=104
abbrev AL:ic:=106
abbrev EO:ic:=107
abbrev yo:ic:=109
abbrev eK:ic:=112
abbrev ND:ic:=115
abbrev OF:ic:=116
abbrev Nh:ic:=122
abbrev Kc:ic:=126
abbrev AJ:ic:=127
abbrev Ph:ic:=129
abbrev yS:ic:=131
abbrev zv:ic:=132
abbrev Oc:ic:=133
abbrev Ed:ic:=135
abbrev sX:ic:=140
abbrev IA:ic:=147
abbrev Pm:ic:=149
abbrev OI:ic:=152
abbrev yn:ic:=169
abbrev uO:ic:=170
abbrev Mz:ic:=172
abbrev vh:ic:=175
abbrev J5:ic:=176
abbrev NL:ic:=177
abbrev Ew:ic:=179
abbrev Nv:ic:=180
abbrev vX:ic:=181
abbrev sS:ic:=183
abbrev OC:ic:=189
abbrev vD:ic:=191
abbrev AO:ic:=193
abbrev NT:ic:=202
abbrev Hi:ic:=211
abbrev DM:ic:=218
abbrev Pa:ic:=292
abbrev Qy:ic:=311
@[reducible] def LY:ByteArray:=Q4 #[48,48,48,49,48,50,48,51,48,52,48,53,48,54,48,55,48,56,48,57,49,48,49,49,49,50,49,51,49,52,49,53,49,54,49,55,49,56,49,57,50,48,50,49,50,50,50,51,50,52,50,53,50,54,50,55,50,56,50,57,51,48,51,49,51,50,51,51,51,52,51,53,51,54,51,55,51,56,51,57,52,48,52,49,52,50,52,51,52,52,52,53,52,54,52,55,52,56,52,57,53,48,53,49,53,50,53,51,53,52,53,53,53,54,53,55,53,56,53,57,54,48,54,49,54,50,54,51,54,52,54,53,54,54,54,55,54,56,54,57,55,48,55,49,55,50,55,51,55,52,55,53,55,54,55,55,55,56,55,57,56,48,56,49,56,50,56,51,56,52,56,53,56,54,56,55,56,56,56,57,57,48,57,49,57,50,57,51,57,52,57,53,57,54,57,55,57,56,57,57]
@[reducible] def Pr:ByteArray:=Q4 #[115,116,114,99,111,110,118,58,32,105,108,108,101,103,97,108,32,65,112,112,101,110,100,73,110,116,47,70,111,114,109,97,116,73,110,116,32,98,97,115,101]
abbrev wU.no:kc:=17
abbrev Fv.no:kc:=37
abbrev IM.no:kc:=50
abbrev Hf.no:kc:=96
abbrev G3.no:kc:=157
abbrev FV.no:kc:=179
abbrev Fh.no:kc:=186
abbrev Fq.no:kc:=188
abbrev Fw.no:kc:=201
abbrev KW.no:kc:=219
abbrev Jh.no:kc:=222
abbrev Kj.no:kc:=223
abbrev IW.no:kc:=226
abbrev Ho.no:kc:=228
abbrev JS.sp (width ag:Int)(l:Sl)(H:aa)(R:Kp Bool):=ak aC QH 3 #[.int .i64 width,.int .i64 ag,l.v] H R
abbrev JF.sp (rows:Sl)(width ag:Int)(H:aa)(R:Kp Bool):=ak aC QH 4 #[rows.v,.int .i64 width,.int .i64 ag] H R
abbrev Ee.sp (f a b c d e:Int)(rows:Sl)(p:Int)(H:aa)(R:Kp Bool):=ak aC QH 5 #[(.agg #[.int .i64 f,.int .i64 a,.int .i64 b,.int .i64 c,.int .i64 d,.int .u64 e]),rows.v,.int .i64 p] H R
abbrev DA.sp (j e f g h i:Int)(a b c d:Sl)(H:aa)(R:Kp Bool):=ak aC QH 6 #[(.agg #[.int .i64 j,.int .i64 e,.int .i64 f,.int .i64 g,.int .i64 h,.int .u64 i]),a.v,b.v,c.v,d.v] H R
abbrev M9.sp (H:aa)(R:Kp Bool):=ak aC QH 7 #[] H R
abbrev vU.sp (s:Option hY)(H:aa)(R:Kp (Int×Int)):=ak (aW [(ab .i64),(ab .i64)]) QH 8 #[.pointer s] H R
abbrev zg.sp (p:Option hY)(name:ByteArray)(width ag:Int)(H:aa)(R:Kp (Option hY×Int)):=ak (aW [aB,(ab .i64)]) QH 9 #[.pointer p,.string name,.int .i64 width,.int .i64 ag] H R
abbrev Da.sp (p:Option hY)(names:Sl)(to:ByteArray)(width:Int)(H:aa)(R:Kp (Int×Int)):=ak (aW [(ab .i64),(ab .i64)]) QH 10 #[.pointer p,names.v,.string to,.int .i64 width] H R
abbrev so.sp (s:Option hY)(l:Sl)(H:aa)(R:Kp Int):=ak (ab .i64) QH 11 #[.pointer s,l.v] H R
abbrev yF.sp (H:aa)(R:Kp Bool):=ak aC QH 12 #[] H R
abbrev Hs.sp (i n:Int)(H:aa)(R:Kp Int):=ak (ab .i64) QH 13 #[.int .i64 i,.int .i64 n] H R
abbrev Mb.sp (rows:Sl)(width:Int)(H:aa)(R:Kp Sl):=ak aq QH 14 #[rows.v,.int .i64 width] H R
abbrev Ix.sp (rows:Sl)(width ag:Int)(H:aa)(R:Kp (Sl×Bool)):=ak (aW [aq,aC]) QH 15 #[rows.v,.int .i64 width,.int .i64 ag] H R
abbrev Kt.sp (a b:Sl)(H:aa)(R:Kp Bool):=ak aC QH 16 #[a.v,b.v] H R
abbrev wU.sp (a b:Sl)(H:aa)(R:Kp Int):=ak (ab .i64) QH 17 #[a.v,b.v] H R
abbrev Le.sp (l x:Sl)(H:aa)(R:Kp Bool):=ak aC QH 18 #[l.v,x.v] H R
abbrev FE.sp (a b:Sl)(H:aa)(R:Kp Bool):=ak aC QH 19 #[a.v,b.v] H R
abbrev Je.sp (f a b c d e:Int)(H:aa)(R:Kp (Option hY×Option hY×Option hY×Option hY)):=ak (aW [aB,aB,aB,aB]) QH 20 #[(.agg #[.int .i64 f,.int .i64 a,.int .i64 b,.int .i64 c,.int .i64 d,.int .u64 e])] H R
abbrev Jo.sp (p:Option hY)(name:ByteArray)(width ag:Int)(H:aa)(R:Kp (Option hY×Int)):=ak (aW [aB,(ab .i64)]) QH 21 #[.pointer p,.string name,.int .i64 width,.int .i64 ag] H R
abbrev G6.sp (d n p m:Option hY)(H:aa)(R:Kp Bool):=ak aC QH 22 #[.pointer d,.pointer n,.pointer p,.pointer m] H R
abbrev Ko.sp (l:Sl)(H:aa)(R:Kp Sl):=ak aq QH 23 #[l.v] H R
abbrev BX.sp (s:Option hY)(l:Sl)(H:aa)(R:Kp Int):=ak (ab .i64) QH 24 #[.pointer s,l.v] H R
abbrev Iw.sp (a l:Sl)(H:aa)(R:Kp Bool):=ak aC QH 25 #[a.v,l.v] H R
abbrev IZ.sp (l:Sl)(H:aa)(R:Kp Unit):=ak (aW []) QH 26 #[l.v] H R
abbrev GD.sp (s t:Option hY)(H:aa)(R:Kp Bool):=ak aC QH 27 #[.pointer s,.pointer t] H R
abbrev G7.sp (p:Option hY)(names:Sl)(to:ByteArray)(width:Int)(H:aa)(R:Kp (Int×Int)):=ak (aW [(ab .i64),(ab .i64)]) QH 28 #[.pointer p,names.v,.string to,.int .i64 width] H R
abbrev Fj.sp (quota:Int)(H:aa)(R:Kp (Option hY)):=ak aB QH 29 #[.int .i64 quota] H R
abbrev Fp.sp (d:Option hY)(ag:Int)(H:aa)(R:Kp (Option hY×Int)):=ak (aW [aB,(ab .i64)]) QH 30 #[.pointer d,.int .i64 ag] H R
abbrev FF.sp (s:Option hY)(H:aa)(R:Kp Int):=ak (ab .i64) QH 31 #[.pointer s] H R
abbrev LI.sp (s:Option hY)(H:aa)(R:Kp (Int×Int)):=ak (aW [(ab .i64),(ab .i64)]) QH 32 #[.pointer s] H R
abbrev IE.sp (width:Int)(H:aa)(R:Kp Int):=ak (ab .i64) QH 33 #[.int .i64 width] H R
abbrev Ma.sp (p:Option hY)(H:aa)(R:Kp Int):=ak (ab .i64) QH 34 #[.pointer p] H R
abbrev Lw.sp (p:Option hY)(names:Sl)(width:Int)(H:aa)(R:Kp (Sl×Int)):=ak (aW [aq,(ab .i64)]) QH 35 #[.pointer p,names.v,.int .i64 width] H R
abbrev ID.sp (p:Option hY)(name:ByteArray)(width:Int)(H:aa)(R:Kp (Option hY×Int)):=ak (aW [aB,(ab .i64)]) QH 36 #[.pointer p,.string name,.int .i64 width] H R
abbrev Fv.sp (e:Int)(a:Sl)(b:Option hY)(f:Int)(c:Sl)(d:Option hY)(H:aa)(R:Kp Bool):=ak aC QH 37 #[(.agg #[.int .i64 e,a.v,.pointer b]),(.agg #[.int .i64 f,c.v,.pointer d])] H R
abbrev IT.sp (h:Option hY)(c:Int)(a:Sl)(b:Option hY)(H:aa)(R:Kp Int):=ak (ab .i64) QH 38 #[.pointer h,(.agg #[.int .i64 c,a.v,.pointer b])] H R
abbrev KO.sp (h:Option hY)(H:aa)(R:Kp (Int×Sl×Option hY)):=ak (bR [(ab .i64),aq,aB]) QH 39 #[.pointer h] H R
abbrev AK.sp (w:Option hY)(l:Sl)(H:aa)(R:Kp Int):=ak (ab .i64) QH 40 #[.pointer w,l.v] H R
abbrev Jp.sp (r:Option hY)(H:aa)(R:Kp Unit):=ak (aW []) QH 41 #[.pointer r] H R
abbrev GU.sp (w:Option hY)(H:aa)(R:Kp (Int×Int)):=ak (aW [(ab .i64),(ab .i64)]) QH 42 #[.pointer w] H R
abbrev IX.sp (s:Sl)(H:aa)(R:Kp Sl):=ak aq QH 43 #[s.v] H R
abbrev Ic.sp (s:Option hY)(H:aa)(R:Kp Int):=ak (ab .i64) QH 44 #[.pointer s] H R
abbrev IH.sp (p:Option hY)(name:ByteArray)(width:Int)(H:aa)(R:Kp (Option hY×Int)):=ak (aW [aB,(ab .i64)]) QH 45 #[.pointer p,.string name,.int .i64 width] H R
abbrev Fm.sp (r:Option hY)(H:aa)(R:Kp (Sl×Bool×Int)):=ak (aW [aq,aC,(ab .i64)]) QH 46 #[.pointer r] H R
abbrev Iy.sp (d:Option hY)(H:aa)(R:Kp Sl):=ak aq QH 47 #[.pointer d] H R
abbrev KC.sp (p:Option hY)(H:aa)(R:Kp Int):=ak (ab .i64) QH 48 #[.pointer p] H R
abbrev Nd.sp (s1 s2:Sl)(H:aa)(R:Kp Int):=ak (ab .i64) QH 49 #[s1.v,s2.v,(.func (.func IM.no) #[] #[])] H R
abbrev IM.sp (x y:Int)(H:aa)(R:Kp Int):=ak (ab .i64) QH 50 #[.int .u64 x,.int .u64 y] H R
abbrev LW.sp (quota:Int)(H:aa)(R:Kp (Option hY)):=ak aB QH 51 #[.int .i64 quota] H R
abbrev Mf.sp (d:Option hY)(p ar:Int)(H:aa)(R:Kp Unit):=ak (aW []) QH 52 #[.pointer d,.int .i64 p,.int .u64 ar] H R
abbrev K9.sp (d:Option hY)(p ar:Int)(H:aa)(R:Kp Unit):=ak (aW []) QH 53 #[.pointer d,.int .i64 p,.int .u64 ar] H R
abbrev L8.sp (d:Option hY)(ag:Int)(H:aa)(R:Kp (Option hY×Int)):=ak (aW [aB,(ab .i64)]) QH 54 #[.pointer d,.int .i64 ag] H R
abbrev CT.sp (width:Int)(H:aa)(R:Kp Int):=ak (ab .i64) QH 55 #[.int .i64 width] H R
abbrev L1.sp (d:Option hY)(H:aa)(R:Kp Int):=ak (ab .i64) QH 56 #[.pointer d] H R
abbrev K5.sp (d:Option hY)(H:aa)(R:Kp Bool):=ak aC QH 57 #[.pointer d] H R
abbrev Mh.sp (d:Option hY)(H:aa)(R:Kp Int):=ak (ab .i64) QH 58 #[.pointer d] H R
abbrev K1.sp (p:Option hY)(H:aa)(R:Kp Int):=ak (ab .i64) QH 59 #[.pointer p] H R
abbrev Ls.sp (p:Option hY)(H:aa)(R:Kp Int):=ak (ab .i64) QH 60 #[.pointer p] H R
abbrev K3.sp (d:Option hY)(H:aa)(R:Kp Unit):=ak (aW []) QH 61 #[.pointer d] H R
abbrev L7.sp (d:Option hY)(H:aa)(R:Kp Unit):=ak (aW []) QH 62 #[.pointer d] H R
abbrev LU.sp (a b:Sl)(H:aa)(R:Kp Bool):=ak aC QH 63 #[a.v,b.v] H R
abbrev Li.sp (d:Option hY)(H:aa)(R:Kp Sl):=ak aq QH 64 #[.pointer d] H R
abbrev DQ.sp (d:Option hY)(name:ByteArray)(H:aa)(R:Kp (Int×Int)):=ak (aW [(ab .i64),(ab .i64)]) QH 65 #[.pointer d,.string name] H R
abbrev Ke.sp (d:Option hY)(name:ByteArray)(page:Int)(H:aa)(R:Kp (Sl×Int)):=ak (aW [aq,(ab .i64)]) QH 66 #[.pointer d,.string name,.int .i64 page] H R
abbrev EZ.sp (d:Option hY)(name:ByteArray)(page:Int)(H:aa)(R:Kp (Sl×Int)):=ak (aW [aq,(ab .i64)]) QH 67 #[.pointer d,.string name,.int .i64 page] H R
abbrev Jg.sp (s:Option hY)(H:aa)(R:Kp Int):=ak (ab .i64) QH 68 #[.pointer s] H R
abbrev HZ.sp (s:Option hY)(H:aa)(R:Kp Int):=ak (ab .i64) QH 69 #[.pointer s] H R
abbrev FA.sp (s:Option hY)(H:aa)(R:Kp (Int×Int)):=ak (aW [(ab .i64),(ab .i64)]) QH 70 #[.pointer s] H R
abbrev KX.sp (p:Option hY)(name:ByteArray)(width:Int)(H:aa)(R:Kp (Option hY×Int)):=ak (aW [aB,(ab .i64)]) QH 71 #[.pointer p,.string name,.int .i64 width] H R
abbrev J0.sp (p:Option hY)(name:ByteArray)(width:Int)(H:aa)(R:Kp (Option hY×Int)):=ak (aW [aB,(ab .i64)]) QH 72 #[.pointer p,.string name,.int .i64 width] H R
abbrev Ep.sp (r:Option hY)(H:aa)(R:Kp (Sl×Bool×Int)):=ak (aW [aq,aC,(ab .i64)]) QH 73 #[.pointer r] H R
abbrev BV.sp (a b:Sl)(H:aa)(R:Kp Int):=ak (ab .i64) QH 74 #[a.v,b.v] H R
abbrev I0.sp (w:Option hY)(H:aa)(R:Kp (Int×Int)):=ak (aW [(ab .i64),(ab .i64)]) QH 75 #[.pointer w] H R
abbrev CP.sp (w:Option hY)(l:Sl)(H:aa)(R:Kp Int):=ak (ab .i64) QH 76 #[.pointer w,l.v] H R
abbrev JP.sp (s:Option hY)(H:aa)(R:Kp ByteArray):=ak aN QH 77 #[.pointer s] H R
abbrev I8.sp (s:Option hY)(k:Int)(to:ByteArray)(H:aa)(R:Kp (Int×Int)):=ak (aW [(ab .i64),(ab .i64)]) QH 78 #[.pointer s,.int .i64 k,.string to] H R
abbrev LH.sp (s:Sl)(H:aa)(R:Kp Sl):=ak aq QH 79 #[s.v] H R
abbrev J3.sp (width:Int)(H:aa)(R:Kp Int):=ak (ab .i64) QH 80 #[.int .i64 width] H R
abbrev Ji.sp (p:Option hY)(name:ByteArray)(width:Int)(H:aa)(R:Kp ((Option hY×ByteArray×Int×Int×Int×Bool)×Int)):=ak (aW [(bR [aB,aN,(ab .i64),(ab .i64),(ab .i64),aC]),(ab .i64)]) QH 81 #[.pointer p,.string name,.int .i64 width] H R
abbrev Jz.sp (p:Option hY)(H:aa)(R:Kp (Option hY)):=ak aB QH 82 #[.pointer p] H R
abbrev Lr.sp (d:Option hY)(name:ByteArray)(H:aa)(R:Kp Int):=ak (ab .i64) QH 83 #[.pointer d,.string name] H R
abbrev IS.sp (b:Option hY)(kind:Int)(p:Sl)(H:aa)(R:Kp Int):=ak (ab .i64) QH 84 #[.pointer b,.int .u8 kind,p.v] H R
abbrev LB.sp (h:Option hY)(c:Int)(a:Sl)(b:Option hY)(H:aa)(R:Kp Unit):=ak (aW []) QH 85 #[.pointer h,(.agg #[.int .i64 c,a.v,.pointer b])] H R
abbrev IP.sp (b:Option hY)(H:aa)(R:Kp Int):=ak (ab .i64) QH 86 #[.pointer b] H R
abbrev BY.sp (l:Sl)(H:aa)(R:Kp Sl):=ak aq QH 87 #[l.v] H R
abbrev KE.sp (w:Option hY)(H:aa)(R:Kp Int):=ak (ab .i64) QH 88 #[.pointer w] H R
abbrev IU.sp (p:Option hY)(name:ByteArray)(page:Int)(H:aa)(R:Kp (Int×Int)):=ak (aW [(ab .i64),(ab .i64)]) QH 89 #[.pointer p,.string name,.int .i64 page] H R
abbrev AW.sp (p:Option hY)(h kind:Int)(b:Sl)(H:aa)(R:Kp Int):=ak (ab .i64) QH 90 #[.pointer p,.int .i64 h,.int .u8 kind,b.v] H R
abbrev FI.sp (p:Option hY)(h:Int)(H:aa)(R:Kp Int):=ak (ab .i64) QH 91 #[.pointer p,.int .i64 h] H R
abbrev Kv.sp (p:Option hY)(name:ByteArray)(H:aa)(R:Kp Int):=ak (ab .i64) QH 92 #[.pointer p,.string name] H R
abbrev C8.sp (b:Option hY)(e:Int)(H:aa)(R:Kp Int):=ak (ab .i64) QH 93 #[.pointer b,.int .i64 e] H R
abbrev Pj.sp (x:Sl)(cmp:gp)(H:aa)(R:Kp Unit):=ak (aW []) QH 94 #[x.v,cmp] H R
abbrev LC.sp (s:Sl)(H:aa)(R:Kp Sl):=ak aq QH 95 #[s.v,(.func (.func Hf.no) #[] #[])] H R
abbrev Hf.sp (a b:Sl)(H:aa)(R:Kp Bool):=ak aC QH 96 #[a.v,b.v] H R
abbrev KB.sp (b:Option hY)(page:Int)(H:aa)(R:Kp (Int×Sl×Int)):=ak (aW [(ab .u8),aq,(ab .i64)]) QH 97 #[.pointer b,.int .i64 page] H R
abbrev FD.sp (d:Option hY)(name:ByteArray)(H:aa)(R:Kp (Int×Int)):=ak (aW [(ab .i64),(ab .i64)]) QH 98 #[.pointer d,.string name] H R
abbrev IQ.sp (b:Sl)(width:Int)(H:aa)(R:Kp (Sl×Int)):=ak (aW [aq,(ab .i64)]) QH 99 #[b.v,.int .i64 width] H R
abbrev KZ.sp (b:Option hY)(n:Int)(H:aa)(R:Kp Int):=ak (ab .i64) QH 100 #[.pointer b,.int .i64 n] H R
abbrev Ld.sp (r:Option hY)(k:Int)(H:aa)(R:Kp Int):=ak (ab .i64) QH 101 #[.pointer r,.int .i64 k] H R
abbrev Ft.sp (d:Option hY)(H:aa)(R:Kp Int):=ak (ab .i64) QH 102 #[.pointer d] H R
abbrev MP.sp (seq:gp)(H:aa)(R:Kp Sl):=ak aq QH 103 #[seq] H R
abbrev Nt.sp (m:Option Nat)(H:aa)(R:Kp gp):=ak gR QH 104 #[.map m] H R
abbrev I3.sp (x:Int)(H:aa)(R:Kp Bool):=ak aC QH 105 #[.int .u64 x] H R
abbrev KV.sp (width:Int)(H:aa)(R:Kp Int):=ak (ab .i64) QH 106 #[.int .i64 width] H R
abbrev Pd.sp (x:Sl)(H:aa)(R:Kp Unit):=ak (aW []) QH 107 #[x.v] H R
abbrev Fo.sp (s:Sl)(H:aa)(R:Kp Sl):=ak aq QH 108 #[s.v] H R
abbrev Ks.sp (x:Sl)(target:Int)(H:aa)(R:Kp (Int×Bool)):=ak (aW [(ab .i64),aC]) QH 109 #[x.v,.int .i64 target] H R
abbrev IG.sp (l:Sl)(page:Int)(b:Array gp)(H:aa)(R:Kp Sl):=ak aq QH 110 #[l.v,.int .i64 page,.agg b] H R
abbrev Mk.sp (d:Option hY)(no:Int)(H:aa)(R:Kp Int):=ak (ab .i64) QH 111 #[.pointer d,.int .i64 no] H R
abbrev KP.sp (l:Sl)(c a:Int)(b:ByteArray)(H:aa)(R:Kp Sl):=ak aq QH 112 #[l.v,(.agg #[.int .i64 c,.int .i64 a,.string b])] H R
abbrev CD.sp (d:Option hY)(name:ByteArray)(H:aa)(R:Kp Int):=ak (ab .i64) QH 113 #[.pointer d,.string name] H R
abbrev FC.sp (c:ByteArray)(a b:Sl)(H:aa)(R:Kp Sl):=ak aq QH 114 #[(.agg #[.string c,a.v,b.v])] H R
abbrev FJ.sp (d:Option hY)(name:ByteArray)(H:aa)(R:Kp (Option hY×Int)):=ak (aW [aB,(ab .i64)]) QH 115 #[.pointer d,.string name] H R
abbrev Fy.sp (s:Sl)(H:aa)(R:Kp Sl):=ak aq QH 116 #[s.v] H R
abbrev JH.sp (s:Option hY)(H:aa)(R:Kp ByteArray):=ak aN QH 117 #[.pointer s] H R
abbrev LS.sp (p:Option hY)(name:ByteArray)(width:Int)(rows:Sl)(H:aa)(R:Kp Int):=ak (ab .i64) QH 118 #[.pointer p,.string name,.int .i64 width,rows.v] H R
abbrev Lc.sp (rows:Sl)(H:aa)(R:Kp Sl):=ak aq QH 119 #[rows.v] H R
abbrev KY.sp (s:Option hY)(H:aa)(R:Kp (Int×Int)):=ak (aW [(ab .i64),(ab .i64)]) QH 120 #[.pointer s] H R
abbrev I2.sp (b:Option hY)(page:Int)(H:aa)(R:Kp (Int×Sl×Int)):=ak (aW [(ab .u8),aq,(ab .i64)]) QH 121 #[.pointer b,.int .i64 page] H R
abbrev JG.sp (b:Sl)(width:Int)(H:aa)(R:Kp (Sl×Int)):=ak (aW [aq,(ab .i64)]) QH 122 #[b.v,.int .i64 width] H R
abbrev Lg.sp (n room:Int)(H:aa)(R:Kp Int):=ak (ab .i64) QH 123 #[.int .i64 n,.int .i64 room] H R
abbrev Ml.sp (d:Option hY)(name:ByteArray)(H:aa)(R:Kp Int):=ak (ab .i64) QH 124 #[.pointer d,.string name] H R
abbrev Jy.sp (b:Option hY)(kind:Int)(p:Sl)(H:aa)(R:Kp Int):=ak (ab .i64) QH 125 #[.pointer b,.int .u8 kind,p.v] H R
abbrev IF.sp (b:Option hY)(H:aa)(R:Kp Int):=ak (ab .i64) QH 126 #[.pointer b] H R
abbrev Lu.sp (r:Option hY)(k:Int)(H:aa)(R:Kp Int):=ak (ab .i64) QH 127 #[.pointer r,.int .i64 k] H R
abbrev J7.sp (w:Option hY)(H:aa)(R:Kp Int):=ak (ab .i64) QH 128 #[.pointer w] H R
abbrev Jt.sp (p:Option hY)(name:ByteArray)(page:Int)(H:aa)(R:Kp (Int×Int)):=ak (aW [(ab .i64),(ab .i64)]) QH 129 #[.pointer p,.string name,.int .i64 page] H R
abbrev Jk.sp (p:Option hY)(h kind:Int)(b:Sl)(H:aa)(R:Kp Int):=ak (ab .i64) QH 130 #[.pointer p,.int .i64 h,.int .u8 kind,b.v] H R
abbrev K7.sp (width rows:Int)(H:aa)(R:Kp Sl):=ak aq QH 131 #[.int .i64 width,.int .i64 rows] H R
abbrev GC.sp (p:Option hY)(h:Int)(H:aa)(R:Kp Int):=ak (ab .i64) QH 132 #[.pointer p,.int .i64 h] H R
abbrev LM.sp (p:Option hY)(name:ByteArray)(H:aa)(R:Kp Int):=ak (ab .i64) QH 133 #[.pointer p,.string name] H R
abbrev EW.sp (b:Option hY)(e:Int)(H:aa)(R:Kp Int):=ak (ab .i64) QH 134 #[.pointer b,.int .i64 e] H R
abbrev Ky.sp (l:Sl)(H:aa)(R:Kp Sl):=ak aq QH 135 #[l.v] H R
abbrev K4.sp (i:Int)(H:aa)(R:Kp ByteArray):=ak aN QH 136 #[.int .i64 i] H R
abbrev Lh.sp (p:Option hY)(name:ByteArray)(H:aa)(R:Kp Int):=ak (ab .i64) QH 137 #[.pointer p,.string name] H R
abbrev Jf.sp (s:ByteArray)(H:aa)(R:Kp Bool):=ak aC QH 138 #[.string s] H R
abbrev Fg.sp (d:Option hY)(H:aa)(R:Kp Int):=ak (ab .i64) QH 139 #[.pointer d] H R
abbrev LX.sp (p:Option hY)(name:ByteArray)(H:aa)(R:Kp (Int×Int×Int)):=ak (aW [(ab .i64),(ab .i64),(ab .i64)]) QH 140 #[.pointer p,.string name] H R
abbrev L5.sp (b:Array gp)(n:Int)(H:aa)(R:Kp (Array gp)):=ak ku QH 141 #[.agg b,.int .u64 n] H R
abbrev Fz.sp (p:Option hY)(H:aa)(R:Kp Int):=ak (ab .i64) QH 142 #[.pointer p] H R
abbrev HF.sp (p f:Option hY)(H:aa)(R:Kp Int):=ak (ab .i64) QH 143 #[.pointer p,.pointer f] H R
abbrev Lt.sp (p:Option hY)(at_:ByteArray)(a:Int)(H:aa)(R:Kp (Option hY×Int)):=ak (aW [aB,(ab .i64)]) QH 144 #[.pointer p,(.agg #[.string at_,.int .i64 a])] H R
abbrev wJ.sp (p:Option hY)(e:Int)(H:aa)(R:Kp Int):=ak (ab .i64) QH 145 #[.pointer p,.int .i64 e] H R
abbrev EX.sp (p f:Option hY)(H:aa)(R:Kp Int):=ak (ab .i64) QH 146 #[.pointer p,.pointer f] H R
abbrev IC.sp (p:Option hY)(h:Int)(H:aa)(R:Kp (Option hY×Int)):=ak (aW [aB,(ab .i64)]) QH 147 #[.pointer p,.int .i64 h] H R
abbrev KD.sp (p:Option hY)(name:ByteArray)(H:aa)(R:Kp Sl):=ak aq QH 148 #[.pointer p,.string name] H R
abbrev Fx.sp (p f:Option hY)(H:aa)(R:Kp Int):=ak (ab .i64) QH 149 #[.pointer p,.pointer f] H R
abbrev La.sp (d:Option hY)(name:ByteArray)(H:aa)(R:Kp Int):=ak (ab .i64) QH 150 #[.pointer d,.string name] H R
abbrev QA.sp (data:Sl)(a b c:Int)(cmp:gp)(H:aa)(R:Kp Unit):=ak (aW []) QH 151 #[data.v,.int .i64 a,.int .i64 b,.int .i64 c,cmp] H R
abbrev Qb.sp (x:Int)(H:aa)(R:Kp Int):=ak (ab .i64) QH 152 #[.int .u64 x] H R
abbrev Mi.sp (p:Option hY)(h:Int)(H:aa)(R:Kp (Int×Sl×Int)):=ak (aW [(ab .u8),aq,(ab .i64)]) QH 153 #[.pointer p,.int .i64 h] H R
abbrev Lv.sp (s:Sl)(n:Int)(H:aa)(R:Kp gp):=ak gR QH 154 #[s.v,.int .i64 n] H R
abbrev Mt.sp (seq:gp)(H:aa)(R:Kp Sl):=ak aq QH 155 #[seq] H R
abbrev Pb.sp (x:Sl)(H:aa)(R:Kp Unit):=ak (aW []) QH 156 #[x.v] H R
abbrev G3.sp (l:Nat)(cap:hY)(H:aa)(R:Kp Unit):=ak (aW []) QH 157 #[(.func (.yield l) #[] #[]),.pointer (some cap)] H R
abbrev Qs.sp (data:Sl)(a b c:Int)(H:aa)(R:Kp Unit):=ak (aW []) QH 158 #[data.v,.int .i64 a,.int .i64 b,.int .i64 c] H R
abbrev LJ.sp (x y:Int)(H:aa)(R:Kp Bool):=ak aC QH 159 #[.int .i64 x,.int .i64 y] H R
abbrev JT.sp (x:Int)(H:aa)(R:Kp Bool):=ak aC QH 160 #[.int .i64 x] H R
abbrev Hq.sp (n:Int)(H:aa)(R:Kp ByteArray):=ak aN QH 161 #[.int .i64 n] H R
abbrev LD.sp (l x:Sl)(H:aa)(R:Kp Sl):=ak aq QH 162 #[l.v,x.v] H R
abbrev Jm.sp (s:Option hY)(names:Sl)(H:aa)(R:Kp Int):=ak (ab .i64) QH 163 #[.pointer s,names.v] H R
abbrev Mg.sp (p:Option hY)(h:Int)(H:aa)(R:Kp (Int×Sl×Int)):=ak (aW [(ab .u8),aq,(ab .i64)]) QH 164 #[.pointer p,.int .i64 h] H R
abbrev Lm.sp (s:ByteArray)(H:aa)(R:Kp Bool):=ak aC QH 165 #[.string s] H R
abbrev FN.sp (d:Option hY)(H:aa)(R:Kp Int):=ak (ab .i64) QH 166 #[.pointer d] H R
abbrev Lz.sp (p:Option hY)(name:ByteArray)(H:aa)(R:Kp (Int×Int×Int)):=ak (aW [(ab .i64),(ab .i64),(ab .i64)]) QH 167 #[.pointer p,.string name] H R
abbrev J9.sp (p:Option hY)(name:ByteArray)(page:Int)(H:aa)(R:Kp Int):=ak (ab .i64) QH 168 #[.pointer p,.string name,.int .i64 page] H R
abbrev IY.sp (p:Option hY)(i:Int)(H:aa)(R:Kp Int):=ak (ab .i64) QH 169 #[.pointer p,.int .i64 i] H R
abbrev II.sp (p:Option hY)(H:aa)(R:Kp Int):=ak (ab .i64) QH 170 #[.pointer p] H R
abbrev ot.sp (p:Option hY)(e:Int)(H:aa)(R:Kp Int):=ak (ab .i64) QH 171 #[.pointer p,.int .i64 e] H R
abbrev GO.sp (b:Sl)(H:aa)(R:Kp (Int×Sl×Int)):=ak (aW [(ab .u8),aq,(ab .i64)]) QH 172 #[b.v] H R
abbrev ER.sp (p:Option hY)(g:ByteArray)(a b:Int)(c:ByteArray)(d:Bool)(e:Sl)(f:Int)(H:aa)(R:Kp Int):=ak (ab .i64) QH 173 #[.pointer p,(.agg #[.string g,.int .i64 a,.int .u8 b,.string c,.bool d,e.v,.int .i64 f])] H R
abbrev IJ.sp (p:Option hY)(h:Int)(H:aa)(R:Kp Int):=ak (ab .i64) QH 174 #[.pointer p,.int .i64 h] H R
abbrev KQ.sp (p:Option hY)(i:Int)(H:aa)(R:Kp Int):=ak (ab .i64) QH 175 #[.pointer p,.int .i64 i] H R
abbrev LZ.sp (d:Option hY)(name:ByteArray)(H:aa)(R:Kp Int):=ak (ab .i64) QH 176 #[.pointer d,.string name] H R
abbrev MA.sp (i:Int)(H:aa)(R:Kp ByteArray):=ak aN QH 177 #[.int .i64 i] H R
abbrev Mc.sp (s:Sl)(H:aa)(R:Kp Bool):=ak aC QH 178 #[s.v,(.func (.func FV.no) #[] #[])] H R
abbrev FV.sp (f:Option hY)(H:aa)(R:Kp Bool):=ak aC QH 179 #[.pointer f] H R
abbrev Ll.sp (d:Option hY)(name:ByteArray)(H:aa)(R:Kp Int):=ak (ab .i64) QH 180 #[.pointer d,.string name] H R
abbrev Jv.sp (p:Option hY)(H:aa)(R:Kp Int):=ak (ab .i64) QH 181 #[.pointer p] H R
abbrev LL.sp (b:Sl)(H:aa)(R:Kp (Int×Sl×Int)):=ak (aW [(ab .u8),aq,(ab .i64)]) QH 182 #[b.v] H R
abbrev LK.sp (s:Sl)(cap:hY)(H:aa)(R:Kp Sl):=ak aq QH 183 #[s.v,(.func (.func Fh.no) #[] #[.pointer (some cap)])] H R
abbrev M7.sp (seq:gp)(H:aa)(R:Kp Sl):=ak aq QH 184 #[seq] H R
abbrev Mn.sp (m:Option Nat)(H:aa)(R:Kp gp):=ak gR QH 185 #[.map m] H R
abbrev Fh.sp (f:Option hY)(cap:hY)(H:aa)(R:Kp Bool):=ak aC QH 186 #[.pointer f,.pointer (some cap)] H R
abbrev Pw.sp (x:Sl)(cmp:gp)(H:aa)(R:Kp Unit):=ak (aW []) QH 187 #[x.v,cmp] H R
abbrev Fq.sp (a b:Option hY)(H:aa)(R:Kp Int):=ak (ab .i64) QH 188 #[.pointer a,.pointer b] H R
abbrev Ln.sp (kind:Int)(b:Sl)(H:aa)(R:Kp (Sl×Int)):=ak (aW [aq,(ab .i64)]) QH 189 #[.int .u8 kind,b.v] H R
abbrev Lb.sp (d:Option hY)(name:ByteArray)(page:Int)(b:Sl)(H:aa)(R:Kp Int):=ak (ab .i64) QH 190 #[.pointer d,.string name,.int .i64 page,b.v] H R
abbrev PO.sp (data:Sl)(a b:Int)(cmp:gp)(H:aa)(R:Kp Unit):=ak (aW []) QH 191 #[data.v,.int .i64 a,.int .i64 b,cmp] H R
abbrev Qv.sp (data:Sl)(a b:Int)(cmp:gp)(H:aa)(R:Kp Unit):=ak (aW []) QH 192 #[data.v,.int .i64 a,.int .i64 b,cmp] H R
abbrev PE.sp (data:Sl)(a b:Int)(cmp:gp)(H:aa)(R:Kp Unit):=ak (aW []) QH 193 #[data.v,.int .i64 a,.int .i64 b,cmp] H R
abbrev PK.sp (data:Sl)(a b:Int)(cmp:gp)(H:aa)(R:Kp (Int×Int)):=ak (aW [(ab .i64),(ab .i64)]) QH 194 #[data.v,.int .i64 a,.int .i64 b,cmp] H R
abbrev QF.sp (data:Sl)(a b:Int)(cmp:gp)(H:aa)(R:Kp Unit):=ak (aW []) QH 195 #[data.v,.int .i64 a,.int .i64 b,cmp] H R
abbrev PL.sp (data:Sl)(a b:Int)(cmp:gp)(H:aa)(R:Kp Bool):=ak aC QH 196 #[data.v,.int .i64 a,.int .i64 b,cmp] H R
abbrev Qc.sp (data:Sl)(a b pivot:Int)(cmp:gp)(H:aa)(R:Kp Int):=ak (ab .i64) QH 197 #[data.v,.int .i64 a,.int .i64 b,.int .i64 pivot,cmp] H R
abbrev QD.sp (data:Sl)(a b pivot:Int)(cmp:gp)(H:aa)(R:Kp (Int×Bool)):=ak (aW [(ab .i64),aC]) QH 198 #[data.v,.int .i64 a,.int .i64 b,.int .i64 pivot,cmp] H R
abbrev PS.sp (x:Int)(H:aa)(R:Kp Int):=ak (ab .i64) QH 199 #[.int .u32 x] H R
abbrev P4.sp (x:Int)(H:aa)(R:Kp Int):=ak (ab .i64) QH 200 #[.int .u64 x] H R
abbrev Fw.sp (l:Nat)(cap a:hY)(H:aa)(R:Kp Unit):=ak (aW []) QH 201 #[(.func (.yield l) #[] #[]),.pointer (some cap),.pointer (some a)] H R
abbrev Ly.sp (s:Sl)(seq:gp)(H:aa)(R:Kp Sl):=ak aq QH 202 #[s.v,seq] H R
abbrev Qk.sp (data:Sl)(a b c:Int)(H:aa)(R:Kp Unit):=ak (aW []) QH 203 #[data.v,.int .i64 a,.int .i64 b,.int .i64 c] H R
abbrev Qn.sp (data:Sl)(a b:Int)(H:aa)(R:Kp Unit):=ak (aW []) QH 204 #[data.v,.int .i64 a,.int .i64 b] H R
abbrev Qg.sp (data:Sl)(a b:Int)(H:aa)(R:Kp Unit):=ak (aW []) QH 205 #[data.v,.int .i64 a,.int .i64 b] H R
abbrev Pz.sp (data:Sl)(a b:Int)(H:aa)(R:Kp Unit):=ak (aW []) QH 206 #[data.v,.int .i64 a,.int .i64 b] H R
abbrev Qm.sp (data:Sl)(a b:Int)(H:aa)(R:Kp (Int×Int)):=ak (aW [(ab .i64),(ab .i64)]) QH 207 #[data.v,.int .i64 a,.int .i64 b] H R
abbrev PY.sp (data:Sl)(a b:Int)(H:aa)(R:Kp Unit):=ak (aW []) QH 208 #[data.v,.int .i64 a,.int .i64 b] H R
abbrev PD.sp (data:Sl)(a b:Int)(H:aa)(R:Kp Bool):=ak aC QH 209 #[data.v,.int .i64 a,.int .i64 b] H R
abbrev PT.sp (data:Sl)(a b pivot:Int)(H:aa)(R:Kp Int):=ak (ab .i64) QH 210 #[data.v,.int .i64 a,.int .i64 b,.int .i64 pivot] H R
abbrev Qt.sp (data:Sl)(a b pivot:Int)(H:aa)(R:Kp (Int×Bool)):=ak (aW [(ab .i64),aC]) QH 211 #[data.v,.int .i64 a,.int .i64 b,.int .i64 pivot] H R
abbrev Lp.sp (x:Int)(H:aa)(R:Kp Bool):=ak aC QH 212 #[.int .i64 x] H R
abbrev LN.sp (l x:Sl)(H:aa)(R:Kp Int):=ak (ab .i64) QH 213 #[l.v,x.v] H R
abbrev KM.sp (p:Option hY)(name:ByteArray)(H:aa)(R:Kp Int):=ak (ab .i64) QH 214 #[.pointer p,.string name] H R
abbrev Ig.sp (kind:Int)(b:Sl)(H:aa)(R:Kp (Sl×Int)):=ak (aW [aq,(ab .i64)]) QH 215 #[.int .u8 kind,b.v] H R
abbrev IN.sp (d:Option hY)(name:ByteArray)(page:Int)(b:Sl)(H:aa)(R:Kp Int):=ak (ab .i64) QH 216 #[.pointer d,.string name,.int .i64 page,b.v] H R
abbrev JC.sp (p:Option hY)(i:Int)(H:aa)(R:Kp Unit):=ak (aW []) QH 217 #[.pointer p,.int .i64 i] H R
abbrev Nf.sp (i base:Int)(H:aa)(R:Kp ByteArray):=ak aN QH 218 #[.int .i64 i,.int .i64 base] H R
abbrev KW.sp (s:Sl)(H:aa)(R:Kp Int):=ak (ab .i64) QH 219 #[s.v,(.func (.func FV.no) #[] #[])] H R
abbrev LF.sp (s:Sl)(cap:hY)(H:aa)(R:Kp Int):=ak (ab .i64) QH 219 #[s.v,(.func (.func Fh.no) #[] #[.pointer (some cap)])] H R
abbrev LG.sp (d:Option hY)(name:ByteArray)(H:aa)(R:Kp Unit):=ak (aW []) QH 220 #[.pointer d,.string name] H R
abbrev K8.sp (p:Option hY)(H:aa)(R:Kp (Option hY)):=ak aB QH 221 #[.pointer p,(.func (.func Jh.no) #[] #[]),(.func (.func Kj.no) #[] #[])] H R
abbrev Jh.sp (f:Option hY)(H:aa)(R:Kp Bool):=ak aC QH 222 #[.pointer f] H R
abbrev Kj.sp (a b:Option hY)(H:aa)(R:Kp Bool):=ak aC QH 223 #[.pointer a,.pointer b] H R
abbrev J6.sp (b:Sl)(H:aa)(R:Kp Int):=ak (ab .u32) QH 224 #[b.v] H R
abbrev LA.sp (s:Sl)(H:aa)(R:Kp Bool):=ak aC QH 225 #[s.v,(.func (.func IW.no) #[] #[])] H R
abbrev IW.sp (c:Int)(H:aa)(R:Kp Bool):=ak aC QH 226 #[.int .u8 c] H R
abbrev Md.sp (s:Sl)(seq:gp)(H:aa)(R:Kp Sl):=ak aq QH 227 #[s.v,seq] H R
abbrev Ho.sp (l:Nat)(cap:hY)(H:aa)(R:Kp Unit):=ak (aW []) QH 228 #[(.func (.yield l) #[] #[]),.pointer (some cap)] H R
abbrev Qq.sp (data:Sl)(a b c:Int)(cmp:gp)(H:aa)(R:Kp Unit):=ak (aW []) QH 229 #[data.v,.int .i64 a,.int .i64 b,.int .i64 c,cmp] H R
abbrev PA.sp (data:Sl)(lo hi first:Int)(cmp:gp)(H:aa)(R:Kp Unit):=ak (aW []) QH 230 #[data.v,.int .i64 lo,.int .i64 hi,.int .i64 first,cmp] H R
abbrev Py.sp (length:Int)(H:aa)(R:Kp Int):=ak (ab .u64) QH 231 #[.int .i64 length] H R
abbrev P9.sp (r:Option hY)(H:aa)(R:Kp Int):=ak (ab .u64) QH 232 #[.pointer r] H R
abbrev Qf.sp (data:Sl)(a:Int)(b:Option hY)(cmp:gp)(H:aa)(R:Kp Int):=ak (ab .i64) QH 233 #[data.v,.int .i64 a,.pointer b,cmp] H R
abbrev Qh.sp (data:Sl)(a b c:Int)(d:Option hY)(cmp:gp)(H:aa)(R:Kp Int):=ak (ab .i64) QH 234 #[data.v,.int .i64 a,.int .i64 b,.int .i64 c,.pointer d,cmp] H R
abbrev PI.sp (data:Sl)(a b:Int)(H:aa)(R:Kp Unit):=ak (aW []) QH 235 #[data.v,.int .i64 a,.int .i64 b] H R
abbrev Qd.sp (data:Sl)(a b:Int)(H:aa)(R:Kp Unit):=ak (aW []) QH 236 #[data.v,.int .i64 a,.int .i64 b] H R
abbrev PU.sp (data:Sl)(a b:Int)(H:aa)(R:Kp Unit):=ak (aW []) QH 237 #[data.v,.int .i64 a,.int .i64 b] H R
abbrev P0.sp (data:Sl)(a b:Int)(H:aa)(R:Kp (Int×Int)):=ak (aW [(ab .i64),(ab .i64)]) QH 238 #[data.v,.int .i64 a,.int .i64 b] H R
abbrev PM.sp (data:Sl)(a b:Int)(H:aa)(R:Kp Unit):=ak (aW []) QH 239 #[data.v,.int .i64 a,.int .i64 b] H R
abbrev QC.sp (data:Sl)(a b:Int)(H:aa)(R:Kp Bool):=ak aC QH 240 #[data.v,.int .i64 a,.int .i64 b] H R
abbrev P5.sp (x y:ByteArray)(H:aa)(R:Kp Bool):=ak aC QH 241 #[.string x,.string y] H R
abbrev Qz.sp (data:Sl)(a b pivot:Int)(H:aa)(R:Kp Int):=ak (ab .i64) QH 242 #[data.v,.int .i64 a,.int .i64 b,.int .i64 pivot] H R
abbrev Qe.sp (data:Sl)(a b pivot:Int)(H:aa)(R:Kp (Int×Bool)):=ak (aW [(ab .i64),aC]) QH 243 #[data.v,.int .i64 a,.int .i64 b,.int .i64 pivot] H R
abbrev PN.sp (data:Sl)(lo hi first:Int)(H:aa)(R:Kp Unit):=ak (aW []) QH 244 #[data.v,.int .i64 lo,.int .i64 hi,.int .i64 first] H R
abbrev PZ.sp (data:Sl)(a:Int)(b:Option hY)(H:aa)(R:Kp Int):=ak (ab .i64) QH 245 #[data.v,.int .i64 a,.pointer b] H R
abbrev QG.sp (data:Sl)(a b c:Int)(d:Option hY)(H:aa)(R:Kp Int):=ak (ab .i64) QH 246 #[data.v,.int .i64 a,.int .i64 b,.int .i64 c,.pointer d] H R
abbrev LO.sp (d:Option hY)(name:ByteArray)(H:aa)(R:Kp Int):=ak (ab .i64) QH 247 #[.pointer d,.string name] H R
abbrev Lx.sp (b:Sl)(H:aa)(R:Kp Int):=ak (ab .u32) QH 248 #[b.v] H R
abbrev KA.sp (d:Option hY)(H:aa)(R:Kp Int):=ak (ab .i64) QH 249 #[.pointer d] H R
abbrev M1.sp (i:Int)(H:aa)(R:Kp ByteArray):=ak aN QH 250 #[.int .i64 i] H R
abbrev O8.sp (d:Int)(H:aa)(R:Kp Int):=ak (ab .i64) QH 251 #[.int .u64 d] H R
abbrev Po.sp (a:Sl)(u:Int)(H:aa)(R:Kp Unit):=ak (aW []) QH 252 #[a.v,.int .u64 u] H R
abbrev Pt.sp (dst:Sl)(u base:Int)(neg append_:Bool)(H:aa)(R:Kp (Sl×ByteArray)):=ak (aW [aq,aN]) QH 253 #[dst.v,.int .u64 u,.int .i64 base,.bool neg,.bool append_] H R
abbrev Mj.sp (s:Sl)(H:aa)(R:Kp Int):=ak (ab .i64) QH 254 #[s.v,(.func (.func IW.no) #[] #[])] H R
abbrev PH.sp (data:Sl)(a b:Int)(cmp:gp)(H:aa)(R:Kp Unit):=ak (aW []) QH 255 #[data.v,.int .i64 a,.int .i64 b,cmp] H R
abbrev P8.sp (data:Sl)(a b:Int)(cmp:gp)(H:aa)(R:Kp Unit):=ak (aW []) QH 256 #[data.v,.int .i64 a,.int .i64 b,cmp] H R
abbrev PW.sp (data:Sl)(a b:Int)(cmp:gp)(H:aa)(R:Kp Unit):=ak (aW []) QH 257 #[data.v,.int .i64 a,.int .i64 b,cmp] H R
abbrev Ql.sp (data:Sl)(a b:Int)(cmp:gp)(H:aa)(R:Kp (Int×Int)):=ak (aW [(ab .i64),(ab .i64)]) QH 258 #[data.v,.int .i64 a,.int .i64 b,cmp] H R
abbrev PJ.sp (data:Sl)(a b:Int)(cmp:gp)(H:aa)(R:Kp Unit):=ak (aW []) QH 259 #[data.v,.int .i64 a,.int .i64 b,cmp] H R
abbrev QB.sp (data:Sl)(a b:Int)(cmp:gp)(H:aa)(R:Kp Bool):=ak aC QH 260 #[data.v,.int .i64 a,.int .i64 b,cmp] H R
abbrev PB.sp (data:Sl)(a b pivot:Int)(cmp:gp)(H:aa)(R:Kp Int):=ak (ab .i64) QH 261 #[data.v,.int .i64 a,.int .i64 b,.int .i64 pivot,cmp] H R
abbrev Qw.sp (data:Sl)(a b pivot:Int)(cmp:gp)(H:aa)(R:Kp (Int×Bool)):=ak (aW [(ab .i64),aC]) QH 262 #[data.v,.int .i64 a,.int .i64 b,.int .i64 pivot,cmp] H R
abbrev PR.sp (data:Sl)(a b:Int)(c:Option hY)(cmp:gp)(H:aa)(R:Kp (Int×Int)):=ak (aW [(ab .i64),(ab .i64)]) QH 263 #[data.v,.int .i64 a,.int .i64 b,.pointer c,cmp] H R
abbrev PF.sp (data:Sl)(lo hi first:Int)(H:aa)(R:Kp Unit):=ak (aW []) QH 264 #[data.v,.int .i64 lo,.int .i64 hi,.int .i64 first] H R
abbrev Qx.sp (data:Sl)(a:Int)(b:Option hY)(H:aa)(R:Kp Int):=ak (ab .i64) QH 265 #[data.v,.int .i64 a,.pointer b] H R
abbrev Qo.sp (data:Sl)(a b c:Int)(d:Option hY)(H:aa)(R:Kp Int):=ak (ab .i64) QH 266 #[data.v,.int .i64 a,.int .i64 b,.int .i64 c,.pointer d] H R
abbrev Qj.sp (x:ByteArray)(H:aa)(R:Kp Bool):=ak aC QH 267 #[.string x] H R
abbrev QE.sp (data:Sl)(a b:Int)(c:Option hY)(H:aa)(R:Kp (Int×Int)):=ak (aW [(ab .i64),(ab .i64)]) QH 268 #[data.v,.int .i64 a,.int .i64 b,.pointer c] H R
abbrev K0.sp (d:Option hY)(i:Int)(H:aa)(R:Kp Unit):=ak (aW []) QH 269 #[.pointer d,.int .i64 i] H R
abbrev P6.sp (x:Int)(H:aa)(R:Kp Int):=ak (ab .i64) QH 270 #[.int .i64 x] H R
abbrev P3.sp (b:Bool)(H:aa)(R:Kp Int):=ak (ab .i64) QH 271 #[.bool b] H R
abbrev Qi.sp (x:Int)(H:aa)(R:Kp Bool):=ak aC QH 272 #[.int .i64 x] H R
abbrev Qu.sp (x:Int)(H:aa)(R:Kp Int):=ak (ab .i64) QH 273 #[.int .u64 x] H R
abbrev P7.sp (data:Sl)(lo hi first:Int)(cmp:gp)(H:aa)(R:Kp Unit):=ak (aW []) QH 274 #[data.v,.int .i64 lo,.int .i64 hi,.int .i64 first,cmp] H R
abbrev PX.sp (data:Sl)(a:Int)(b:Option hY)(cmp:gp)(H:aa)(R:Kp Int):=ak (ab .i64) QH 275 #[data.v,.int .i64 a,.pointer b,cmp] H R
abbrev Qa.sp (data:Sl)(a b c:Int)(d:Option hY)(cmp:gp)(H:aa)(R:Kp Int):=ak (ab .i64) QH 276 #[data.v,.int .i64 a,.int .i64 b,.int .i64 c,.pointer d,cmp] H R
abbrev PC.sp (data:Sl)(a b:Int)(c:Option hY)(H:aa)(R:Kp (Int×Int)):=ak (aW [(ab .i64),(ab .i64)]) QH 277 #[data.v,.int .i64 a,.int .i64 b,.pointer c] H R
abbrev PQ.sp (x:Int)(H:aa)(R:Kp Int):=ak (ab .i64) QH 278 #[.int .u32 x] H R
abbrev PV.sp (x:Int)(H:aa)(R:Kp Int):=ak (ab .i64) QH 279 #[.int .u64 x] H R
abbrev Qp.sp (data:Sl)(a b:Int)(c:Option hY)(cmp:gp)(H:aa)(R:Kp (Int×Int)):=ak (aW [(ab .i64),(ab .i64)]) QH 280 #[data.v,.int .i64 a,.int .i64 b,.pointer c,cmp] H R
def JS.vc (width ag:Int)(l:Sl)(H:aa)(R:Kp Bool):Prop:=
 vU.sp none H λ(r:(Int×Int)) H1=>zg.sp none (Q4 #[102]) width ag H1 λ(a:(Option hY×Int)) g=>aG g #[.string (Q4 #[102])] dG λp h=>Da.sp none (Sl.mk (some p) 1 1) (Q4 #[103]) width h λ(b:(Int×Int)) c=>br (r.1==0) (br (a.1.isNone&&(b.1==0)) (so.sp none l c λ(d:Int) f=>br ((((d==1)&&(r.2==1))&&(a.2==1))&&(b.2==1)) (yF.sp f λ(e:Bool) i=>R e i) (R false f)) (R false c)) (R false c)
theorem JS.of:∀{width ag l H R},JS.vc width ag l H R->JS.sp width ag l H R:=ba [] (by kernel_rfl)
def JF.vc (rows:Sl)(width ag:Int)(H:aa)(R:Kp Bool):Prop:=
 Hs.sp width (17:Int) H λ(b:Int) H1=>Hs.sp ag (10:Int) H1 λ(r:Int) Y=>br (decide ((rows.n:Int)>400)) (R true Y) (Mb.sp rows b Y λ(all:Sl) Z=>Ix.sp all b (QI.wrap ((3:Int)+r)) Z λ(c:(Sl×Bool)) H4=>ay (Sl×Int) ((Sl.mk none 0 0),QI.wrap ((all.n:Int) - 1)) H4 λnext z E=>br (decide (z.2>=0)) (ae all.a λa=>(0<=z.2/\z.2<(all.n:Int))/\ld aq E (a.add (z.2.toNat*1)) λ(x:Sl)=>aG E #[x.v] dv λp H6=>bf aq QH (QM #[dY,dY] dY #[z.1.v,.slice (some p) 1 1]) H6 λ(j:Sl) H7=>next (j,QI.wrap (z.2 - 1)) H7) (Ix.sp z.1 b (3:Int) E λ(t:(Sl×Bool)) H8=>bf aq QH (QM #[dY,dY] dY #[z.1.v,all.v]) H8 λ(e:Sl) H9=>Ix.sp e b (8:Int) H9 λ(u:(Sl×Bool)) w=>br (((!c.2)||(!t.2))||(!u.2)) (R false w) (Kt.sp c.1 t.1 w λ(F:Bool) y=>br (!F) (R false y) (Kt.sp c.1 u.1 y λ(G:Bool) A=>br (!G) (R false A) (ay Int 1 A λk i l=>br (decide (i<(c.1.n:Int))) (ae c.1.a λI=>(0<=(QI.wrap (i - 1))/\(QI.wrap (i - 1))<(c.1.n:Int))/\ld aq l (I.add ((QI.wrap (i - 1)).toNat*1)) λ(J:Sl)=>ae c.1.a λK=>(0<=i/\i<(c.1.n:Int))/\ld aq l (K.add (i.toNat*1)) λ(L:Sl)=>wU.sp J L l λ(M:Int) B=>br (decide (M>=0)) (R false B) (k (QI.wrap (i+1)) B)) (ay Int 0 l λm f s=>br (decide (f<(all.n:Int))) (ae all.a λN=>(0<=f/\f<(all.n:Int))/\ld aq s (N.add (f.toNat*1)) λ(O:Sl)=>Le.sp c.1 O s λ(P:Bool) C=>br (!P) (R false C) (m (QI.wrap (f+1)) C)) (ay Int 0 s λo g D=>br (decide (g<(c.1.n:Int))) (ay (Bool×Int) (false,(0:Int)) D λq d h=>br ((decide (d.2<(all.n:Int)))&&(!d.1)) (ae c.1.a λQ=>(0<=g/\g<(c.1.n:Int))/\ld aq h (Q.add (g.toNat*1)) λ(S:Sl)=>ae all.a λT=>(0<=d.2/\d.2<(all.n:Int))/\ld aq h (T.add (d.2.toNat*1)) λ(U:Sl)=>FE.sp S U h λ(found:Bool) V=>q (found,QI.wrap (d.2+1)) V) (br (!d.1) (R false h) (o (QI.wrap (g+1)) h))) (yF.sp D λ(W:Bool) X=>R W X))))))))
theorem JF.of:∀{rows width ag H R},JF.vc rows width ag H R->JF.sp rows width ag H R:=ba [(9,[(10,aq),(11,(ab .i64))]),(18,[(16,(ab .i64))]),(23,[(17,(ab .i64))]),(28,[(18,(ab .i64))]),(32,[(19,aC),(20,(ab .i64))])] (by kernel_rfl)
def Ee.vc (X w y z A B:Int)(rows:Sl)(p:Int)(H:aa)(R:Kp Bool):Prop:=
 aG H #[.int .i64 X,.int .i64 w,.int .i64 y,.int .i64 z,.int .i64 A,.int .u64 B] AS λd H1=>br (decide ((rows.n:Int)>400)) (R true H1) (cN (bR [(ab .i64),(ab .i64),(ab .i64),(ab .i64),(ab .i64),(ab .u64)]) 6 H1 d λ(x:(Int×Int×Int×Int×Int×Int))=>Je.sp x.1 x.2.1 x.2.2.1 x.2.2.2.1 x.2.2.2.2.1 x.2.2.2.2.2 H1 λ(r:(Option hY×Option hY×Option hY×Option hY)) C=>ld (ab .i64) C (d.add 3) λ(D:Int)=>ld (ab .i64) C (d.add 2) λ(E:Int)=>zg.sp r.2.2.1 (Q4 #[102]) D E C λ(b:(Option hY×Int)) F=>ld (ab .i64) F (d.add 3) λ(G:Int)=>ld (ab .i64) F (d.add 2) λ(I:Int)=>Jo.sp r.2.2.2 (Q4 #[102]) G I F λ(c:(Option hY×Int)) v=>br (b.2!=c.2) (R false v) (br (!(b.1.isNone==c.1.isNone)) (R false v) (br (b.2!=0) (G6.sp r.1 r.2.1 r.2.2.1 r.2.2.2 v λ(J:Bool) V=>br J (yF.sp V λ(K:Bool) Y=>R K Y) (R false V)) (ay Int 0 v λnext i L=>br (decide (i<(rows.n:Int))) (ae rows.a λa=>(0<=i/\i<(rows.n:Int))/\ld aq L (a.add (i.toNat*1)) λ(f:Sl)=>Ko.sp f L λ(l:Sl) Z=>so.sp b.1 l Z λ(M:Int) W=>ae rows.a λN=>(0<=i/\i<(rows.n:Int))/\ld aq W (N.add (i.toNat*1)) λ(g:Sl)=>BX.sp c.1 g W λ(O:Int) e=>br (M !=O) (R false e) (ae rows.a λP=>(0<=i/\i<(rows.n:Int))/\ld aq e (P.add (i.toNat*1)) λ(h:Sl)=>Iw.sp l h e λ(Q:Bool) j=>br (!Q) (R false j) (IZ.sp l j λ(_:Unit) k=>br (i==p) (GD.sp b.1 c.1 k λ(S:Bool) m=>br (!S) (R false m) (next (QI.wrap (i+1)) m)) (next (QI.wrap (i+1)) k)))) (GD.sp b.1 c.1 L λ(T:Bool) n=>br T (GD.sp b.1 c.1 n λ(o:Bool) q=>br o (G6.sp r.1 r.2.1 r.2.2.1 r.2.2.2 q λ(s:Bool) t=>br s (yF.sp t λ(u:Bool) U=>R u U) (R false t)) (R false q)) (R false n))))))
theorem Ee.of:∀{f a b c d e rows p H R},Ee.vc f a b c d e rows p H R->Ee.sp f a b c d e rows p H R:=ba [(11,[(15,(ab .i64))])] (by kernel_rfl)
def DA.vc (x_ Q S T U V:Int)(a b c d:Sl)(H:aa)(R:Kp Bool):Prop:=
 aG H #[.int .i64 x_,.int .i64 Q,.int .i64 S,.int .i64 T,.int .i64 U,.int .u64 V] AS λp H1=>br ((((decide ((a.n:Int)>200))||(decide ((b.n:Int)>200)))||(decide ((c.n:Int)>200)))||(decide ((d.n:Int)>9))) (R true H1) (cN (bR [(ab .i64),(ab .i64),(ab .i64),(ab .i64),(ab .i64),(ab .u64)]) 6 H1 p λ(x:(Int×Int×Int×Int×Int×Int))=>Je.sp x.1 x.2.1 x.2.2.1 x.2.2.2.1 x.2.2.2.2.1 x.2.2.2.2.2 H1 λ(r:(Option hY×Option hY×Option hY×Option hY)) H2=>aG H2 #[.string (Q4 #[97]),.string (Q4 #[98]),.string (Q4 #[99]),.string (Q4 #[100])] dG λf H3=>aG H3 #[a.v,b.v,c.v] dY λW H4=>ay Int 0 H4 λnext z s=>br (decide (z<3)) ((0<=z/\z<3)/\ld aq s (W.add (z.toNat*1)) λ(rows:Sl)=>(0<=z/\z<4)/\ld aN s (f.add (z.toNat*1)) λ(X:ByteArray)=>ld (ab .i64) s (p.add 3) λ(Y:Int)=>zg.sp r.2.2.1 X Y (3:Int) s λ(h:(Option hY×Int)) Z=>(0<=z/\z<4)/\ld aN Z (f.add (z.toNat*1)) λ(af:ByteArray)=>ld (ab .i64) Z (p.add 3) λ(al:Int)=>Jo.sp r.2.2.2 af al (3:Int) Z λ(n:(Option hY×Int)) H7=>br (h.2!=n.2) (R false H7) (br (h.2!=0) (yF.sp H7 λ(an:Bool) H8=>R an H8) (ay Int 0 H7 λi k P=>br (decide (k<(rows.n:Int))) (∃G:aa->Prop,G P/\ae rows.a λa1=>(0<=k/\k<(rows.n:Int))/\ld aq P (a1.add (k.toNat*1)) λ(t:Sl)=>so.sp h.1 t P λ(a6:Int) u=>G u/\ae rows.a λa7=>(0<=k/\k<(rows.n:Int))/\dE aq G (a7.add (k.toNat*1)) λ(w:Sl)=>BX.sp n.1 w u λ(a8:Int) y=>br (a6 !=a8) (R false y) (i (QI.wrap (k+1)) y)) (GD.sp h.1 n.1 P λ(bb:Bool) A=>br (!bb) (R false A) (next (QI.wrap (z+1)) A))))) (ay (Sl×Int) ((Sl.mk none 0 0),(0:Int)) s λj e o=>br (decide (e.2<(d.n:Int))) (ae d.a λbd=>(0<=e.2/\e.2<(d.n:Int))/\ld (ab .i64) o (bd.add (e.2.toNat*1)) λ(B:Int)=>Hs.sp B (4:Int) o λ(q:Int) C=>(0<=q/\q<4)/\ld aN C (f.add (q.toNat*1)) λ(D:ByteArray)=>aG C #[.string D] dG λbh bl=>bf aq QH (QM #[dV,dV] dV #[e.1.v,.slice (some bh) 1 1]) bl λ(names:Sl) bn=>j (names,QI.wrap (e.2+1)) bn) (aG o #[.string (Q4 #[103]),.string (Q4 #[97])] dG λbs bx=>ay Int 0 bx λl g m=>br (decide (g<2)) ((0<=g/\g<2)/\ld aN m (bs.add (g.toNat*1)) λ(to:ByteArray)=>ld (ab .i64) m (p.add 3) λ(E:Int)=>Da.sp r.2.2.1 e.1 to E m λ(F:(Int×Int)) I=>ld (ab .i64) I (p.add 3) λ(J:Int)=>G7.sp r.2.2.2 e.1 to J I λ(K:(Int×Int)) L=>br ((F.1!=K.1)||(F.2!=K.2)) (R false L) (l (QI.wrap (g+1)) L)) (G6.sp r.1 r.2.1 r.2.2.1 r.2.2.2 m λ(M:Bool) N=>br M (yF.sp N λ(O:Bool) bA=>R O bA) (R false N)))))
theorem DA.of:∀{j e f g h i a b c d H R},DA.vc j e f g h i a b c d H R->DA.sp j e f g h i a b c d H R:=ba [(6,[(62,(ab .i64))]),(15,[(22,(ab .i64))]),(24,[(23,aq),(24,(ab .i64))]),(28,[(138,(ab .i64))])] (by kernel_rfl)
def M9.vc (H:aa)(R:Kp Bool):Prop:=
 aG H #[.int .i64 0,.int .i64 1,.int .i64 8,.int .i64 9,.int .i64 10,.int .i64 18,.int .i64 19,.int .i64 27,.int .i64 28,.int .i64 30,.int .i64 45,.int .i64 60] jm λp H1=>ay Int 0 H1 λnext z H2=>br (decide (z<12)) ((0<=z/\z<12)/\ld (ab .i64) H2 (p.add (z.toNat*1)) λ(n:Int)=>ay (Sl×Int) ((Sl.mk none 0 0),(0:Int)) H2 λo c H3=>br (decide (c.2<n)) (bf aq QH (SK dv (.int .i64 16) (.int .i64 16)) H3 λ(l:Sl) H4=>ae l.a λa=>(0<=(0:Int)/\(0:Int)<(l.n:Int))/\st H4 (a.add ((0:Int).toNat*1)) (.int .u64 (Rj.wrap (RP (QI.wrap ((QI.wrap (n - c.2))*7)) (29:Int)))) λH5=>aG H5 #[l.v] dv λbb H6=>bf aq QH (QM #[dY,dY] dY #[c.1.v,.slice (some bb) 1 1]) H6 λ(rows:Sl) H7=>o (rows,QI.wrap (c.2+1)) H7) (aG H3 #[.int .i64 3,.int .i64 4,.int .i64 8] jm λbd H8=>ay Int 0 H8 λq h H9=>br (decide (h<3)) ((0<=h/\h<3)/\ld (ab .i64) H9 (bd.add (h.toNat*1)) λ(ag:Int)=>Ee.sp (200:Int) (0:Int) ag (16:Int) (-1:Int) (0:Int) c.1 (-1:Int) H9 λ(r:Bool) F=>br (!r) (R false F) (Ee.sp n (0:Int) ag (16:Int) (QI.wrap ((3:Int)*n)) (5:Int) c.1 (QI.wrap (Rt n (2:Int))) F λ(bh:Bool) G=>br (!bh) (R false G) (q (QI.wrap (h+1)) G))) (JF.sp c.1 n n H9 λ(bl:Bool) I=>br (!bl) (R false I) (next (QI.wrap (z+1)) I)))) (bf aq QH (SK dv (.int .i64 16) (.int .i64 16)) H2 λ(sl:Sl) bn=>aG bn #[.int .u64 1] fM λbs bx=>aG bx #[sl.v,.slice (some bs) 1 1,.slice none 0 0] dv λb bA=>aG bA #[.int .i64 0,.int .i64 0,.int .i64 2,.int .i64 1,.int .i64 0,.int .u64 0,.int .i64 0,.int .i64 0,.int .i64 9,.int .i64 1,.int .i64 0,.int .u64 0,.int .i64 0,.int .i64 0,.int .i64 3,.int .i64 17,.int .i64 0,.int .u64 0,.int .i64 0,.int .i64 0,.int .i64 3,.int .i64 (-1),.int .i64 0,.int .u64 0,.int .i64 0,.int .i64 0,.int .i64 (-1),.int .i64 0,.int .i64 0,.int .u64 0,.int .i64 0,.int .i64 0,.int .i64 3,.int .i64 0,.int .i64 0,.int .u64 0,.int .i64 0,.int .i64 0,.int .i64 8,.int .i64 1,.int .i64 0,.int .u64 0,.int .i64 0,.int .i64 1,.int .i64 9,.int .i64 16,.int .i64 0,.int .u64 0] AS λbB bC=>ay Int 0 bC λs i B=>br (decide (i<8)) ((0<=i/\i<8)/\cN (bR [(ab .i64),(ab .i64),(ab .i64),(ab .i64),(ab .i64),(ab .u64)]) 6 B (bB.add (i.toNat*6)) λ(x:(Int×Int×Int×Int×Int×Int))=>aG B (zc QH AS) AS λj bD=>jo QH (Q3 AS (.pointer (some j)) (.agg #[.int .i64 x.1,.int .i64 x.2.1,.int .i64 x.2.2.1,.int .i64 x.2.2.2.1,.int .i64 x.2.2.2.2.1,.int .u64 x.2.2.2.2.2])) bD λbM=>st bM (j.add 0) (.int .i64 50) λbN=>st bN (j.add 4) (.int .i64 (-1)) λJ=>cN (bR [(ab .i64),(ab .i64),(ab .i64),(ab .i64),(ab .i64),(ab .u64)]) 6 J j λ(f:(Int×Int×Int×Int×Int×Int))=>Ee.sp f.1 f.2.1 f.2.2.1 f.2.2.2.1 f.2.2.2.2.1 f.2.2.2.2.2 (Sl.mk (some b) 3 3) (1:Int) J λ(bO:Bool) C=>br (!bO) (R false C) (cN (bR [(ab .i64),(ab .i64),(ab .i64),(ab .i64),(ab .i64),(ab .u64)]) 6 C j λ(g:(Int×Int×Int×Int×Int×Int))=>aG C #[.int .i64 0,.int .i64 1,.int .i64 2] jm λb0 b1=>DA.sp g.1 g.2.1 g.2.2.1 g.2.2.2.1 g.2.2.2.2.1 g.2.2.2.2.2 (Sl.mk (some b) 3 3) (Sl.mk none 0 0) (Sl.mk (some b) 3 3) (Sl.mk (some b0) 3 3) b1 λ(b2:Bool) K=>br (!b2) (R false K) (s (QI.wrap (i+1)) K))) (aG B #[.int .u64 5] fM λb3 b4=>aG b4 #[.int .u64 1] fM λb5 b6=>aG b6 #[.int .u64 3] fM λb7 b9=>aG b9 #[.slice (some b3) 1 1,.slice (some b5) 1 1,.slice (some b7) 1 1] dv λA cb=>aG cb #[.int .u64 3] fM λL ck=>aG ck #[.int .u64 4] fM λM cm=>aG cm #[.slice (some L) 1 1,.slice (some M) 1 1] dv λN cx=>aG cx #[.int .i64 0] jm λO cy=>aG cy #[.int .i64 0,.int .i64 0] jm λP cz=>aG cz #[.int .i64 0,.int .i64 1] jm λQ cB=>aG cB #[.int .i64 1,.int .i64 0,.int .i64 2] jm λS c0=>aG c0 #[.int .i64 3] jm λT c3=>aG c3 #[.int .i64 0,.int .i64 3] jm λU c4=>aG c4 #[.slice none 0 0,.slice (some O) 1 1,.slice (some P) 2 2,.slice (some Q) 2 2,.slice (some S) 3 3,.slice (some T) 1 1,.slice (some U) 2 2] Du λV c5=>ay Int 0 c5 λt k D=>br (decide (k<7)) ((0<=k/\k<7)/\ld aq D (V.add (k.toNat*1)) λ(m:Sl)=>ay Int (-1:Int) D λu w W=>br (decide (w<30)) (DA.sp (40:Int) (0:Int) (0:Int) (1:Int) w (9:Int) (Sl.mk (some A) 3 3) (Sl.mk (some N) 2 2) (Sl.mk none 0 0) m W λ(dc:Bool) X=>br (!dc) (R false X) (DA.sp w (0:Int) (0:Int) (1:Int) (-1:Int) (0:Int) (Sl.mk (some A) 3 3) (Sl.mk (some N) 2 2) (Sl.mk none 0 0) m X λ(dk:Bool) Y=>br (!dk) (R false Y) (u (QI.wrap (w+3)) Y))) (t (QI.wrap (k+1)) W)) (ay ByteArray (Q4 #[120]) D λy e Z=>br (decide ((e.size:Int)<99)) (((e.size+(Q4 #[120]).size:Nat):Int)<=9223372036854775807/\y (e++(Q4 #[120])) Z) (Fj.sp (9:Int) Z λ(d:Option hY) dm=>Fp.sp d (8:Int) dm λ(dn:(Option hY×Int)) dA=>zg.sp dn.1 e (1:Int) (3:Int) dA λ(E:(Option hY×Int)) dB=>vU.sp E.1 dB λ(dD:(Int×Int)) af=>br ((E.2==0)&&(dD.2==2)) (aG af #[.int .u64 1] fM λal dT=>so.sp E.1 (Sl.mk (some al) 1 1) dT λ(an:Int) a1=>br (an==2) (JS.sp (1:Int) (3:Int) (Sl.mk none 0 0) a1 λ(a6:Bool) a7=>br a6 (yF.sp a7 λ(a8:Bool) ea=>R a8 ea) (R false a7)) (R false a1)) (R false af)))))
theorem M9.of:∀{H R},M9.vc H R->M9.sp H R:=ba [(2,[(26,(ab .i64))]),(6,[(3,aq),(4,(ab .i64))]),(12,[(50,(ab .i64))]),(22,[(91,(ab .i64))]),(31,[(125,(ab .i64))]),(34,[(15,(ab .i64))]),(40,[(16,aN)])] (by kernel_rfl)
def vU.vc (s:Option hY)(H:aa)(R:Kp (Int×Int)):Prop:=
 FF.sp s H λ(e:Int) H1=>br (e !=0) (R ((0:Int),e) H1) (LI.sp s H1 λ(r:(Int×Int)) c=>br (r.2!=0) (ae s λa=>st c (a.add 7) (.int .i64 r.2) λd=>R ((0:Int),r.2) d) (ae s λb=>st c (b.add 8) (.bool true) λf=>R (r.1,(0:Int)) f))
theorem vU.of:∀{s H R},vU.vc s H R->vU.sp s H R:=ba [] (by kernel_rfl)
def zg.vc (p:Option hY)(name:ByteArray)(width ag:Int)(H:aa)(R:Kp (Option hY×Int)):Prop:=
 br p.isNone (R (none,(1:Int)) H) (IE.sp width H λ(r:Int) H1=>br (r==0) (R (none,(60:Int)) H1) (br (decide (ag<3)) (br (decide (ag<3)) (R (none,(30:Int)) H1) (aG H1 #[.pointer p,.string name,.int .i64 width,.int .i64 ag,.slice none 0 0,.slice none 0 0,.int .i64 0,.int .i64 0,.bool false] xE λa e=>R (some a,(0:Int)) e)) (Ma.sp p H1 λ(b:Int) d=>br (decide (ag>b)) (R (none,(30:Int)) d) (aG d #[.pointer p,.string name,.int .i64 width,.int .i64 ag,.slice none 0 0,.slice none 0 0,.int .i64 0,.int .i64 0,.bool false] xE λc f=>R (some c,(0:Int)) f))))
theorem zg.of:∀{p name width ag H R},zg.vc p name width ag H R->zg.sp p name width ag H R:=ba [] (by kernel_rfl)
def Da.vc (p:Option hY)(names:Sl)(to:ByteArray)(width:Int)(H:aa)(R:Kp (Int×Int)):Prop:=
 br p.isNone (R ((0:Int),(1:Int)) H) (br ((names.n:Int)==0) (R ((0:Int),(2:Int)) H) (Lw.sp p names width H λ(r:(Sl×Int)) H1=>br (r.2!=0) (R ((0:Int),r.2) H1) (ID.sp p to width H1 λ(c:(Option hY×Int)) P=>br (c.2!=0) (R ((0:Int),c.2) P) (aG P #[.slice none 0 0,(.func (.func Fv.no) #[] #[])] N8 λf S=>ay Int 0 S λnext z C=>br (decide (z<(r.1.n:Int))) (ae r.1.a λa=>(0<=z/\z<(r.1.n:Int))/\ld aB C (a.add (z.toNat*1)) λ(D:Option hY)=>IT.sp (some f) z (Sl.mk none 0 0) D C λ(e:Int) Q=>br (e !=0) (R ((0:Int),e) Q) (next (QI.wrap (z+1)) Q)) (ay (Sl×Bool) ((Sl.mk none 0 0),true) C λg o E=>ld aq E (f.add 0) λ(x:Sl)=>br (decide ((x.n:Int)>0)) (KO.sp (some f) E λ(i:(Int×Sl×Option hY)) T=>aG T (zc QH kC) kC λb U=>jo QH (Q3 kC (.pointer (some b)) (.agg #[.int .i64 i.1,i.2.1.v,.pointer i.2.2])) U λB=>cut Unit (λJ=>br o.2 (ld aq B (b.add 1) λ(F:Sl)=>AK.sp c.1 F B λ(q:Int) s=>br (q !=0) (R ((0:Int),q) s) (J () s)) (ld aq B (b.add 1) λ(G:Sl)=>wU.sp G o.1 B λ(I:Int) j=>br (I !=0) (ld aq j (b.add 1) λ(K:Sl)=>AK.sp c.1 K j λ(t:Int) u=>br (t !=0) (R ((0:Int),t) u) (J () u)) (J () j))) λ(_:Unit) k=>ld aq k (b.add 1) λ(last:Sl)=>cN (bR [(ab .i64),aq,aB]) 3 k b λ(l:(Int×Sl×Option hY))=>IT.sp (some f) l.1 l.2.1 l.2.2 k λ(w:Int) y=>br (w !=0) (R ((0:Int),w) y) (g (last,false) y)) (ay Int 0 E λh d m=>br (decide (d<(r.1.n:Int))) (ae r.1.a λL=>(0<=d/\d<(r.1.n:Int))/\ld aB m (L.add (d.toNat*1)) λ(M:Option hY)=>Jp.sp M m λ(_:Unit) N=>h (QI.wrap (d+1)) N) (GU.sp c.1 m λ(A:(Int×Int)) O=>R (A.1,A.2) O)))))))
theorem Da.of:∀{p names to width H R},Da.vc p names to width H R->Da.sp p names to width H R:=ba [(13,[(52,(ab .i64))]),(21,[(16,aq),(17,aC)]),(100028,[]),(33,[(99,(ab .i64))])] (by kernel_rfl)
def so.vc (s:Option hY)(l:Sl)(H:aa)(R:Kp Int):Prop:=
 FF.sp s H λ(e:Int) H1=>br (e !=0) (R e H1) (ae s λa=>ld (ab .i64) H1 (a.add 2) λ(x:Int)=>br ((l.n:Int)!=x) (R (60:Int) H1) (∃G:aa->Prop,G H1/\ae s λc=>dE aq G (c.add 4) λ(d:Sl)=>IX.sp l H1 λ(r:Sl) z=>G z/\aG z #[r.v] dv λp A=>G A/\bf aq QH (QM #[dY,dY] dY #[d.v,.slice (some p) 1 1]) A λ(f:Sl) C=>ae s λg=>st C (g.add 4) f.v λh=>∃b:aa->Prop,b h/\ae s λi=>dE aq b (i.add 4) λ(j:Sl)=>ae s λk=>dE (ab .i64) b (k.add 3) λ(m:Int)=>ae s λn=>ld (ab .i64) h (n.add 2) λ(o:Int)=>IE.sp o h λ(q:Int) t=>b t/\br (decide ((j.n:Int)<(QI.wrap (m*q)))) (R (0:Int) t) (Ic.sp s t λ(u:Int) D=>ae s λv=>st D (v.add 7) (.int .i64 u) λB=>ae s λw=>ld (ab .i64) B (w.add 7) λ(y:Int)=>R y B)))
theorem so.of:∀{s l H R},so.vc s l H R->so.sp s l H R:=ba [] (by kernel_rfl)
def yF.vc (H:aa)(R:Kp Bool):Prop:=
 Fj.sp (20:Int) H λ(d:Option hY) H1=>Fp.sp d (8:Int) H1 λ(r:(Option hY×Int)) y=>zg.sp r.1 (Q4 #[102]) (1:Int) (3:Int) y λ(b:(Option hY×Int)) i=>br (b.2!=0) (R false i) (br b.1.isNone (R false i) (aG i #[.int .u64 5] fM λp z=>so.sp b.1 (Sl.mk (some p) 1 1) z λ(j:Int) u=>br (j !=0) (R false u) (aG u #[.int .u64 1] fM λk A=>so.sp b.1 (Sl.mk (some k) 1 1) A λ(l:Int) v=>br (l !=0) (R false v) (aG v #[.int .u64 5] fM λm B=>so.sp b.1 (Sl.mk (some m) 1 1) B λ(o:Int) w=>br (o !=0) (R false w) (vU.sp b.1 w λ(h:(Int×Int)) q=>IH.sp r.1 (Q4 #[102]) (1:Int) q λ(f:(Option hY×Int)) g=>br (((h.2!=0)||(f.2!=0))||(h.1!=2)) (R false g) (br f.1.isNone (R false g) (Fm.sp f.1 g λ(c:(Sl×Bool×Int)) e=>br (((c.2.2==0)&&c.2.1)&&((c.1.n:Int)==1)) (ae c.1.a λa=>(0<=(0:Int)/\(0:Int)<(c.1.n:Int))/\ld (ab .u64) e (a.add ((0:Int).toNat*1)) λ(x:Int)=>br (x==1) (Iy.sp d e λ(s:Sl) t=>R ((s.n:Int)==1) t) (R false e)) (R false e))))))))
theorem yF.of:∀{H R},yF.vc H R->yF.sp H R:=ba [] (by kernel_rfl)
def Hs.vc (i n:Int)(H:aa)(R:Kp Int):Prop:=
 br (decide (n<1)) (R (0:Int) H) (n≠0/\br (decide ((RP i n)<0)) (R (QI.wrap ((RP i n)+n)) H) (R (RP i n) H))
theorem Hs.of:∀{i n H R},Hs.vc i n H R->Hs.sp i n H R:=ba [] (by kernel_rfl)
def Mb.vc (rows:Sl)(width:Int)(H:aa)(R:Kp Sl):Prop:=
 ay (Sl×Int) ((Sl.mk none 0 0),(0:Int)) H λnext z H1=>br (decide (z.2<(rows.n:Int))) (bf aq QH (SK dv (.int .i64 width) (.int .i64 width)) H1 λ(l:Sl) b=>ae rows.a λa=>(0<=z.2/\z.2<(rows.n:Int))/\ld aq b (a.add (z.2.toNat*1)) λ(x:Sl)=>bf (ab .i64) QH (Wf #[dv,dv] jm #[l.v,x.v]) b λ(_:Int) c=>aG c #[l.v] dv λp d=>bf aq QH (QM #[dY,dY] dY #[z.1.v,.slice (some p) 1 1]) d λ(out:Sl) e=>next (out,QI.wrap (z.2+1)) e) (R z.1 H1)
theorem Mb.of:∀{rows width H R},Mb.vc rows width H R->Mb.sp rows width H R:=ba [(3,[(5,aq),(6,(ab .i64))])] (by kernel_rfl)
def Ix.vc (rows:Sl)(width ag:Int)(H:aa)(R:Kp (Sl×Bool)):Prop:=
 Fj.sp (10000:Int) H λ(d:Option hY) H1=>Fp.sp d (if ag>8 then ag else (8:Int)) H1 λ(r:(Option hY×Int)) A=>zg.sp r.1 (Q4 #[102]) width ag A λ(e:(Option hY×Int)) t=>br ((r.2!=0)||(e.2!=0)) (R ((Sl.mk none 0 0),false) t) (ay Int 0 t λnext i k=>br (decide (i<(rows.n:Int))) (ae rows.a λa=>(0<=i/\i<(rows.n:Int))/\ld aq k (a.add (i.toNat*1)) λ(x:Sl)=>so.sp e.1 x k λ(l:Int) u=>br (l !=0) (R ((Sl.mk none 0 0),false) u) (next (QI.wrap (i+1)) u)) (vU.sp e.1 k λ(g:(Int×Int)) B=>IH.sp r.1 (Q4 #[102]) width B λ(h:(Option hY×Int)) w=>br ((g.2!=0)||(h.2!=0)) (R ((Sl.mk none 0 0),false) w) (Iy.sp d w λ(m:Sl) y=>br ((m.n:Int)!=1) (R ((Sl.mk none 0 0),false) y) (KC.sp r.1 y λ(n:Int) z=>br (n !=0) (R ((Sl.mk none 0 0),false) z) (ay Sl (Sl.mk none 0 0) z λb out o=>Fm.sp h.1 o λ(c:(Sl×Bool×Int)) j=>br ((c.2.2!=0)||(!c.2.1)) (R (out,((c.2.2==0)&&(g.1==(out.n:Int)))) j) (aG j #[c.1.v] dv λp q=>bf aq QH (QM #[dY,dY] dY #[out.v,.slice (some p) 1 1]) q λ(f:Sl) s=>b f s))))))
theorem Ix.of:∀{rows width ag H R},Ix.vc rows width ag H R->Ix.sp rows width ag H R:=ba [(7,[(13,(ab .i64))]),(16,[(16,aq)])] (by kernel_rfl)
def Kt.vc (a b:Sl)(H:aa)(R:Kp Bool):Prop:=
 br ((a.n:Int)!=(b.n:Int)) (R false H) (ay Int 0 H λnext i H1=>br (decide (i<(a.n:Int))) (ae a.a λc=>(0<=i/\i<(a.n:Int))/\ld aq H1 (c.add (i.toNat*1)) λ(x:Sl)=>ae b.a λd=>(0<=i/\i<(b.n:Int))/\ld aq H1 (d.add (i.toNat*1)) λ(e:Sl)=>FE.sp x e H1 λ(r:Bool) f=>br (!r) (R false f) (next (QI.wrap (i+1)) f)) (R true H1))
theorem Kt.of:∀{a b H R},Kt.vc a b H R->Kt.sp a b H R:=ba [(4,[(5,(ab .i64))])] (by kernel_rfl)
def wU.vc (a b:Sl)(H:aa)(R:Kp Int):Prop:=
 Nd.sp a b H λ(r:Int) H1=>R r H1
theorem wU.of:∀{a b H R},wU.vc a b H R->wU.sp a b H R:=ba [] (by kernel_rfl)
def Le.vc (l x:Sl)(H:aa)(R:Kp Bool):Prop:=
 ay (Int×Int) ((0:Int),(l.n:Int)) H λnext z H1=>br (decide (z.1<z.2)) (ae l.a λa=>(0<=(QI.wrap (Rt (QI.wrap (z.1+z.2)) (2:Int)))/\(QI.wrap (Rt (QI.wrap (z.1+z.2)) (2:Int)))<(l.n:Int))/\ld aq H1 (a.add ((QI.wrap (Rt (QI.wrap (z.1+z.2)) (2:Int))).toNat*1)) λ(b:Sl)=>wU.sp b x H1 λ(r:Int) f=>br (decide (r<0)) (next (QI.wrap ((QI.wrap (Rt (QI.wrap (z.1+z.2)) (2:Int)))+1),z.2) f) (next (z.1,QI.wrap (Rt (QI.wrap (z.1+z.2)) (2:Int))) f)) (br (decide (z.1<(l.n:Int))) (ae l.a λc=>(0<=z.1/\z.1<(l.n:Int))/\ld aq H1 (c.add (z.1.toNat*1)) λ(d:Sl)=>FE.sp d x H1 λ(e:Bool) g=>R e g) (R false H1))
theorem Le.of:∀{l x H R},Le.vc l x H R->Le.sp l x H R:=ba [(2,[(5,(ab .i64)),(6,(ab .i64))])] (by kernel_rfl)
def FE.vc (a b:Sl)(H:aa)(R:Kp Bool):Prop:=
 br ((a.n:Int)!=(b.n:Int)) (R false H) (ay Int 0 H λnext i H1=>br (decide (i<(a.n:Int))) (ae a.a λc=>(0<=i/\i<(a.n:Int))/\ld (ab .u64) H1 (c.add (i.toNat*1)) λ(x:Int)=>ae b.a λd=>(0<=i/\i<(b.n:Int))/\ld (ab .u64) H1 (d.add (i.toNat*1)) λ(e:Int)=>br (x !=e) (R false H1) (next (QI.wrap (i+1)) H1)) (R true H1))
theorem FE.of:∀{a b H R},FE.vc a b H R->FE.sp a b H R:=ba [(4,[(5,(ab .i64))])] (by kernel_rfl)
def Je.vc (w f g h i j:Int)(H:aa)(R:Kp (Option hY×Option hY×Option hY×Option hY)):Prop:=
 aG H #[.int .i64 w,.int .i64 f,.int .i64 g,.int .i64 h,.int .i64 i,.int .u64 j] AS λp H1=>∃G:aa->Prop,G H1/\ld (ab .i64) H1 (p.add 0) λ(x:Int)=>Fj.sp x H1 λ(r:Option hY) u=>G u/\dE (ab .i64) G (p.add 0) λ(k:Int)=>LW.sp k u λ(n:Option hY) a=>cut Unit (λJ=>ld (ab .i64) a (p.add 4) λ(l:Int)=>br (decide (l>=0)) (ld (ab .i64) a (p.add 4) λ(m:Int)=>ld (ab .u64) a (p.add 5) λ(o:Int)=>Mf.sp r m o a λ(_:Unit) q=>ld (ab .i64) q (p.add 4) λ(b:Int)=>ld (ab .u64) q (p.add 5) λ(c:Int)=>K9.sp n b c q λ(_:Unit) y=>J () y) (J () a)) λ(_:Unit) v=>ld (ab .i64) v (p.add 1) λ(d:Int)=>Hs.sp d (12:Int) v λ(e:Int) z=>Fp.sp r (QI.wrap ((8:Int)+e)) z λ(s:(Option hY×Int)) A=>L8.sp n (QI.wrap ((8:Int)+e)) A λ(t:(Option hY×Int)) B=>R (r,n,s.1,t.1) B
theorem Je.of:∀{f a b c d e H R},Je.vc f a b c d e H R->Je.sp f a b c d e H R:=ba [(100005,[])] (by kernel_rfl)
def Jo.vc (p:Option hY)(name:ByteArray)(width ag:Int)(H:aa)(R:Kp (Option hY×Int)):Prop:=
 br p.isNone (R (none,(1:Int)) H) (CT.sp width H λ(r:Int) H1=>br (r==0) (R (none,(60:Int)) H1) (br (decide (ag<3)) (R (none,(30:Int)) H1) (ae p λa=>ld (ab .i64) H1 (a.add 1) λ(x:Int)=>br (decide (ag>x)) (R (none,(30:Int)) H1) (aG H1 #[.pointer p,.string name,.int .i64 width,.int .i64 ag,.slice none 0 0,.slice none 0 0,.int .i64 0,.int .i64 0,.bool false] AL λb c=>R (some b,(0:Int)) c))))
theorem Jo.of:∀{p name width ag H R},Jo.vc p name width ag H R->Jo.sp p name width ag H R:=ba [] (by kernel_rfl)
def G6.vc (d n p m:Option hY)(H:aa)(R:Kp Bool):Prop:=
 ∃G:aa->Prop,G H/\L1.sp d H λ(r:Int) H1=>G H1/\ae n λa=>dE (ab .i64) G (a.add 3) λ(x:Int)=>br (r !=x) (R false H1) (K5.sp d H1 λ(s:Bool) t=>G t/\ae n λu=>dE aC G (u.add 8) λ(v:Bool)=>br (!(s==v)) (R false t) (Mh.sp d t λ(w:Int) y=>G y/\ae n λz=>dE (ab .i64) G (z.add 1) λ(A:Int)=>br (w !=A) (R false y) (K1.sp p y λ(B:Int) C=>G C/\ae m λD=>dE aq G (D.add 2) λ(E:Sl)=>br (B !=(E.n:Int)) (R false C) (KC.sp p C λ(F:Int) V=>Ls.sp m V λ(I:Int) U=>br (F !=I) (R false U) (K3.sp d U λ(_:Unit) W=>L7.sp n W λ(_:Unit) X=>Iy.sp d X λ(l:Sl) Y=>Li.sp n Y λ(J:Sl) K=>LU.sp l J K λ(L:Bool) k=>br (!L) (R false k) (ay Int 0 k λnext i g=>br (decide (i<(l.n:Int))) (ae l.a λM=>(0<=i/\i<(l.n:Int))/\ld aN g (M.add (i.toNat*1)) λ(N:ByteArray)=>DQ.sp n N g λ(o:(Int×Int)) O=>ay Int 0 O λf j h=>br (decide (j<=o.1)) (ae l.a λP=>(0<=i/\i<(l.n:Int))/\ld aN h (P.add (i.toNat*1)) λ(Q:ByteArray)=>Ke.sp d Q j h λ(b:(Sl×Int)) q=>ae l.a λS=>(0<=i/\i<(l.n:Int))/\ld aN q (S.add (i.toNat*1)) λ(T:ByteArray)=>EZ.sp n T j q λ(c:(Sl×Int)) e=>br (b.2!=c.2) (R false e) (xw e b.1.a b.1.n λ(str:ByteArray)=>xw e c.1.a c.1.n λ(str_1:ByteArray)=>br (!(str.toList==str_1.toList)) (R false e) (f (QI.wrap (j+1)) e))) (next (QI.wrap (i+1)) h)) (R true g)))))))
theorem G6.of:∀{d n p m H R},G6.vc d n p m H R->G6.sp d n p m H R:=ba [(9,[(10,(ab .i64))]),(13,[(13,(ab .i64))])] (by kernel_rfl)
def Ko.vc (l:Sl)(H:aa)(R:Kp Sl):Prop:=
 bf aq QH (QM #[dv,dv] dv #[.slice none 0 0,l.v]) H λ(out:Sl) H1=>aG H1 #[.int .u64 30583] fM λp b=>bf aq QH (QM #[dv,dv] dv #[out.v,.slice (some p) 1 1]) b λ(a:Sl) c=>(0<=(l.n:Int)/\(l.n:Int)<=(a.c:Int))/\R (Sl.mk (cM a.a a.c 0 1) (((l.n:Int).toNat) - 0) (a.c - 0)) c
theorem Ko.of:∀{l H R},Ko.vc l H R->Ko.sp l H R:=ba [] (by kernel_rfl)
def BX.vc (s:Option hY)(l:Sl)(H:aa)(R:Kp Int):Prop:=
 Jg.sp s H λ(e:Int) H1=>br (e !=0) (R e H1) (ae s λa=>ld (ab .i64) H1 (a.add 2) λ(x:Int)=>br ((l.n:Int)!=x) (R (60:Int) H1) (bf aq QH (QM #[dv,dv] dv #[.slice none 0 0,l.v]) H1 λ(own:Sl) t=>ae s λb=>ld aq t (b.add 4) λ(c:Sl)=>aG t #[own.v] dv λp u=>bf aq QH (QM #[dY,dY] dY #[c.v,.slice (some p) 1 1]) u λ(d:Sl) v=>ae s λf=>st v (f.add 4) d.v λg=>∃G:aa->Prop,G g/\ae s λh=>dE aq G (h.add 4) λ(i:Sl)=>ae s λj=>dE (ab .i64) G (j.add 3) λ(k:Int)=>ae s λm=>ld (ab .i64) g (m.add 2) λ(n:Int)=>CT.sp n g λ(r:Int) o=>G o/\br (decide ((i.n:Int)<(QI.wrap (k*r)))) (R (0:Int) o) (HZ.sp s o λ(q:Int) w=>R q w)))
theorem BX.of:∀{s l H R},BX.vc s l H R->BX.sp s l H R:=ba [] (by kernel_rfl)
def Iw.vc (a l:Sl)(H:aa)(R:Kp Bool):Prop:=
 FE.sp a l H λ(r:Bool) H1=>br r ((0<=(QI.wrap ((l.n:Int)+1))/\(QI.wrap ((l.n:Int)+1))<=(a.c:Int))/\ae (cM a.a a.c 0 1) λb=>(0<=(l.n:Int)/\(l.n:Int)<((((QI.wrap ((l.n:Int)+1)).toNat) - 0:Nat):Int))/\ld (ab .u64) H1 (b.add ((l.n:Int).toNat*1)) λ(x:Int)=>R (x==30583) H1) (R false H1)
theorem Iw.of:∀{a l H R},Iw.vc a l H R->Iw.sp a l H R:=ba [] (by kernel_rfl)
def IZ.vc (l:Sl)(H:aa)(R:Kp Unit):Prop:=
 ay Int 0 H λnext i H1=>br (decide (i<(l.n:Int))) (ae l.a λa=>(0<=i/\i<(l.n:Int))/\st H1 (a.add (i.toNat*1)) (.int .u64 57005) λd=>next (QI.wrap (i+1)) d) (ay (Sl×Int) (l,(0:Int)) H1 λb z c=>br (decide (z.2<3)) (aG c #[.int .u64 57006] fM λp e=>bf aq QH (QM #[dv,dv] dv #[z.1.v,.slice (some p) 1 1]) e λ(m:Sl) f=>b (m,QI.wrap (z.2+1)) f) (R () c))
theorem IZ.of:∀{l H R},IZ.vc l H R->IZ.sp l H R:=ba [(1,[(2,(ab .i64))]),(6,[(3,aq),(4,(ab .i64))])] (by kernel_rfl)
def GD.vc (s t:Option hY)(H:aa)(R:Kp Bool):Prop:=
 vU.sp s H λ(r:(Int×Int)) H1=>FA.sp t H1 λ(a:(Int×Int)) b=>R ((r.1==a.1)&&(r.2==a.2)) b
theorem GD.of:∀{s t H R},GD.vc s t H R->GD.sp s t H R:=ba [] (by kernel_rfl)
def G7.vc (p:Option hY)(names:Sl)(to:ByteArray)(width:Int)(H:aa)(R:Kp (Int×Int)):Prop:=
 br p.isNone (R ((0:Int),(1:Int)) H) (br ((names.n:Int)==0) (R ((0:Int),(2:Int)) H) (ay (Sl×Int) ((Sl.mk none 0 0),(0:Int)) H λnext z H1=>br (decide (z.2<(names.n:Int))) (ae names.a λa=>(0<=z.2/\z.2<(names.n:Int))/\ld aN H1 (a.add (z.2.toNat*1)) λ(x:ByteArray)=>KX.sp p x width H1 λ(r:(Option hY×Int)) H2=>br (r.2!=0) (R ((0:Int),r.2) H2) (aG H2 #[.pointer r.1] OF λE H3=>bf aq QH (QM #[ND,ND] ND #[z.1.v,.slice (some E) 1 1]) H3 λ(l:Sl) H4=>next (l,QI.wrap (z.2+1)) H4)) (J0.sp p to width H1 λ(g:(Option hY×Int)) H5=>br (g.2!=0) (R ((0:Int),g.2) H5) (ay (Sl×Sl×Int) ((Sl.mk none 0 0),(Sl.mk none 0 0),(0:Int)) H5 λh c F=>br (decide (c.2.2<(z.1.n:Int))) (ae z.1.a λG=>(0<=c.2.2/\c.2.2<(z.1.n:Int))/\ld aB F (G.add (c.2.2.toNat*1)) λ(I:Option hY)=>Ep.sp I F λ(i:(Sl×Bool×Int)) H7=>br (i.2.2!=0) (R ((0:Int),i.2.2) H7) (aG H7 #[i.1.v] dv λK H8=>bf aq QH (QM #[dY,dY] dY #[c.1.v,.slice (some K) 1 1]) H8 λ(lK:Sl) H9=>aG H9 #[.bool i.2.1] Nu λL M=>bf aq QH (QM #[Nh,Nh] Nh #[c.2.1.v,.slice (some L) 1 1]) M λ(is:Sl) N=>h (lK,is,QI.wrap (c.2.2+1)) N)) (ay Unit () F λj _ O=>ay (Int×Int) ((-1:Int),(0:Int)) O λf b d=>br (decide (b.2<(z.1.n:Int))) (ae c.2.1.a λP=>(0<=b.2/\b.2<(c.2.1.n:Int))/\ld aC d (P.add (b.2.toNat*1)) λ(Q:Bool)=>br (Q==true) (br (decide (b.1<0)) (f (b.2,QI.wrap (b.2+1)) d) (ae c.1.a λS=>(0<=b.2/\b.2<(c.1.n:Int))/\ld aq d (S.add (b.2.toNat*1)) λ(T:Sl)=>ae c.1.a λU=>(0<=b.1/\b.1<(c.1.n:Int))/\ld aq d (U.add (b.1.toNat*1)) λ(V:Sl)=>BV.sp T V d λ(W:Int) o=>br (decide (W<0)) (f (b.2,QI.wrap (b.2+1)) o) (f (b.1,QI.wrap (b.2+1)) o))) (f (b.1,QI.wrap (b.2+1)) d)) (br (decide (b.1<0)) (I0.sp g.1 d λ(q:(Int×Int)) X=>R (q.1,q.2) X) (cut Unit (λJ=>ae g.1 λY=>ld (ab .i64) d (Y.add 8) λ(Z:Int)=>br (Z==0) (ae c.1.a λaf=>(0<=b.1/\b.1<(c.1.n:Int))/\ld aq d (af.add (b.1.toNat*1)) λ(al:Sl)=>CP.sp g.1 al d λ(e:Int) s=>br (e !=0) (R ((0:Int),e) s) (J () s)) (ae c.1.a λan=>(0<=b.1/\b.1<(c.1.n:Int))/\ld aq d (an.add (b.1.toNat*1)) λ(a1:Sl)=>ae g.1 λa6=>ld aq d (a6.add 7) λ(a7:Sl)=>BV.sp a1 a7 d λ(a8:Int) m=>br (a8 !=0) (ae c.1.a λbb=>(0<=b.1/\b.1<(c.1.n:Int))/\ld aq m (bb.add (b.1.toNat*1)) λ(bd:Sl)=>CP.sp g.1 bd m λ(t:Int) u=>br (t !=0) (R ((0:Int),t) u) (J () u)) (J () m))) λ(_:Unit) w=>ae z.1.a λy=>(0<=b.1/\b.1<(z.1.n:Int))/\ld aB w (y.add (b.1.toNat*1)) λ(A:Option hY)=>Ep.sp A w λ(k:(Sl×Bool×Int)) B=>br (k.2.2!=0) (R ((0:Int),k.2.2) B) (ae c.1.a λC=>(0<=b.1/\b.1<(c.1.n:Int))/\st B (C.add (b.1.toNat*1)) k.1.v λbh=>ae c.2.1.a λD=>(0<=b.1/\b.1<(c.2.1.n:Int))/\st bh (D.add (b.1.toNat*1)) (.bool k.2.1) λbl=>j () bl))))))))
theorem G7.of:∀{p names to width H R},G7.vc p names to width H R->G7.sp p names to width H R:=ba [(7,[(10,aq),(11,(ab .i64))]),(19,[(16,aq),(17,aq),(18,(ab .i64))]),(26,[]),(28,[(22,(ab .i64)),(23,(ab .i64))]),(100038,[])] (by kernel_rfl)
def Fj.vc (quota:Int)(H:aa)(R:Kp (Option hY)):Prop:=
 Hh H λm H1=>aG H1 #[.map (some m),.int .i64 0,.int .i64 0,(.int .i64 (if (1048576:Int)<(if (0:Int)>quota then (0:Int) else quota) then (1048576:Int) else (if (0:Int)>quota then (0:Int) else quota))),.int .i64 0,.int .i64 0,.bool false,.int .i64 0,.int .u64 0,.bool false] yS λp a=>R (some p) a
theorem Fj.of:∀{quota H R},Fj.vc quota H R->Fj.sp quota H R:=ba [] (by kernel_rfl)
def Fp.vc (d:Option hY)(ag:Int)(H:aa)(R:Kp (Option hY×Int)):Prop:=
 br d.isNone (R (none,(1:Int)) H) (br (decide (ag<8)) (R (none,(30:Int)) H) (br (decide (ag>4096)) (R (none,(3:Int)) H) (Hh H λm H1=>Hh H1 λa b=>aG b #[.pointer d,.int .i64 ag,.map (some m),.map (some a),.int .i64 1,.int .i64 0,.int .i64 0,.int .i64 0] Ed λp c=>R (some p,(0:Int)) c)))
theorem Fp.of:∀{d ag H R},Fp.vc d ag H R->Fp.sp d ag H R:=ba [] (by kernel_rfl)
def FF.vc (s:Option hY)(H:aa)(R:Kp Int):Prop:=
 br s.isNone (R (1:Int) H) (ae s λa=>ld (ab .i64) H (a.add 7) λ(x:Int)=>br (x !=0) (ae s λb=>ld (ab .i64) H (b.add 7) λ(c:Int)=>R c H) (ae s λd=>ld aC H (d.add 8) λ(e:Bool)=>br e (R (2:Int) H) (R (0:Int) H)))
theorem FF.of:∀{s H R},FF.vc s H R->FF.sp s H R:=ba [] (by kernel_rfl)
def LI.vc (s:Option hY)(H:aa)(R:Kp (Int×Int)):Prop:=
 cut Unit (λJ=>ae s λa=>ld aq H (a.add 4) λ(x:Sl)=>br (decide ((x.n:Int)>0)) (Ic.sp s H λ(e:Int) D=>br (e !=0) (R ((0:Int),e) D) (J () D)) (ae s λf=>ld aq H (f.add 5) λ(g:Sl)=>br ((g.n:Int)==0) (Ic.sp s H λ(c:Int) E=>br (c !=0) (R ((0:Int),c) E) (J () E)) (J () H))) λ(_:Unit) H1=>ay Unit () H1 λnext _ b=>ae s λh=>ld aq b (h.add 5) λ(i:Sl)=>ae s λj=>ld (ab .i64) b (j.add 3) λ(k:Int)=>br (decide ((i.n:Int)>=k)) (JP.sp s b λ(to:ByteArray) F=>ae s λl=>ld (ab .i64) F (l.add 3) λ(m:Int)=>I8.sp s (QI.wrap (m - 1)) to F λ(r:(Int×Int)) n=>br (r.2!=0) (R ((0:Int),r.2) n) (ae s λo=>ld aq n (o.add 5) λ(q:Sl)=>LH.sp q n λ(t:Sl) G=>aG G #[.string to] dG λp I=>bf aq QH (QM #[dV,dV] dV #[t.v,.slice (some p) 1 1]) I λ(u:Sl) K=>ae s λv=>st K (v.add 5) u.v λw=>next () w)) (ae s λy=>ld aq b (y.add 5) λ(z:Sl)=>ae s λA=>ld aN b (A.add 1) λ(B:ByteArray)=>I8.sp s (z.n:Int) B b λ(d:(Int×Int)) C=>R (d.1,d.2) C)
theorem LI.of:∀{s H R},LI.vc s H R->LI.sp s H R:=ba [(100005,[]),(5,[])] (by kernel_rfl)
def IE.vc (width:Int)(H:aa)(R:Kp Int):Prop:=
 J3.sp width H λ(n:Int) H1=>br (decide (n>0)) (n≠0/\R (QI.wrap (Rt (504:Int) n)) H1) (R (0:Int) H1)
theorem IE.of:∀{width H R},IE.vc width H R->IE.sp width H R:=ba [] (by kernel_rfl)
def Ma.vc (p:Option hY)(H:aa)(R:Kp Int):Prop:=
 br p.isNone (R (0:Int) H) (ae p λa=>ld (ab .i64) H (a.add 1) λ(x:Int)=>R x H)
theorem Ma.of:∀{p H R},Ma.vc p H R->Ma.sp p H R:=ba [] (by kernel_rfl)
def Lw.vc (p:Option hY)(names:Sl)(width:Int)(H:aa)(R:Kp (Sl×Int)):Prop:=
 ay (Sl×Int) ((Sl.mk none 0 0),(0:Int)) H λnext z H1=>br (decide (z.2<(names.n:Int))) (ae names.a λa=>(0<=z.2/\z.2<(names.n:Int))/\ld aN H1 (a.add (z.2.toNat*1)) λ(s:ByteArray)=>IH.sp p s width H1 λ(r:(Option hY×Int)) c=>br (r.2!=0) (R ((Sl.mk none 0 0),r.2) c) (aG c #[.pointer r.1] OX λb d=>bf aq QH (QM #[OD,OD] OD #[z.1.v,.slice (some b) 1 1]) d λ(l:Sl) e=>next (l,QI.wrap (z.2+1)) e)) (R (z.1,(0:Int)) H1)
theorem Lw.of:∀{p names width H R},Lw.vc p names width H R->Lw.sp p names width H R:=ba [(3,[(8,aq),(15,(ab .i64))])] (by kernel_rfl)
def ID.vc (p:Option hY)(name:ByteArray)(width:Int)(H:aa)(R:Kp (Option hY×Int)):Prop:=
 Ji.sp p name width H λ(r:((Option hY×ByteArray×Int×Int×Int×Bool)×Int)) H1=>aG H1 (zc QH sX) sX λb s=>jo QH (Q3 sX (.pointer (some b)) (.agg #[.pointer r.1.1,.string r.1.2.1,.int .i64 r.1.2.2.1,.int .i64 r.1.2.2.2.1,.int .i64 r.1.2.2.2.2.1,.bool r.1.2.2.2.2.2])) s λf=>br (r.2==0) (Jz.sp p f λ(g:Option hY) t=>Lr.sp g name t λ(e:Int) q=>cut Int (λJ=>br (e==0) (IS.sp (some b) (0:Int) (Sl.mk none 0 0) q λ(h:Int) u=>J h u) (J e q)) λ(z:Int) i=>br (z !=0) (R (none,z) i) (cN (bR [aB,aN,(ab .i64),(ab .i64),(ab .i64),aC]) 6 i b λ(x:(Option hY×ByteArray×Int×Int×Int×Bool))=>aG i #[.pointer x.1,.string x.2.1,.int .i64 x.2.2.1,.int .i64 x.2.2.2.1,.int .i64 x.2.2.2.2.1,.bool x.2.2.2.2.2,.slice none 0 0,.int .i64 0,.slice none 0 0,.int .i64 0] IA λj v=>R (some j,(0:Int)) v)) (cut Int (λc=>br (r.2==0) (IS.sp (some b) (0:Int) (Sl.mk none 0 0) f λ(k:Int) l=>c k l) (c r.2 f)) λ(d:Int) m=>br (d !=0) (R (none,d) m) (cN (bR [aB,aN,(ab .i64),(ab .i64),(ab .i64),aC]) 6 m b λ(a:(Option hY×ByteArray×Int×Int×Int×Bool))=>aG m #[.pointer a.1,.string a.2.1,.int .i64 a.2.2.1,.int .i64 a.2.2.2.1,.int .i64 a.2.2.2.2.1,.bool a.2.2.2.2.2,.slice none 0 0,.int .i64 0,.slice none 0 0,.int .i64 0] IA λn o=>R (some n,(0:Int)) o))
theorem ID.of:∀{p name width H R},ID.vc p name width H R->ID.sp p name width H R:=ba [(100006,[(9,(ab .i64))]),(100006,[(9,(ab .i64))])] (by kernel_rfl)
def Fv.vc (l:Int)(d:Sl)(e:Option hY)(m:Int)(f:Sl)(g:Option hY)(H:aa)(R:Kp Bool):Prop:=
 aG H #[.int .i64 l,d.v,.pointer e] kC λp H1=>aG H1 #[.int .i64 m,f.v,.pointer g] kC λa h=>ld aq h (p.add 1) λ(x:Sl)=>ld aq h (a.add 1) λ(i:Sl)=>wU.sp x i h λ(c:Int) b=>br ((decide (c<0))==false) (br (c==0) (ld (ab .i64) b (p.add 0) λ(j:Int)=>ld (ab .i64) b (a.add 0) λ(k:Int)=>R (decide (j<k)) b) (R false b)) (R true b)
theorem Fv.of:∀{e a b f c d H R},Fv.vc e a b f c d H R->Fv.sp e a b f c d H R:=ba [] (by kernel_rfl)
def IT.vc (h:Option hY)(f:Int)(b:Sl)(c:Option hY)(H:aa)(R:Kp Int):Prop:=
 aG H #[.int .i64 f,b.v,.pointer c] kC λp H1=>ld aB H1 (p.add 2) λ(x:Option hY)=>Fm.sp x H1 λ(r:(Sl×Bool×Int)) a=>br ((r.2.2==0)&&r.2.1) (ld (ab .i64) a (p.add 0) λ(d:Int)=>ld aB a (p.add 2) λ(e:Option hY)=>LB.sp h d r.1 e a λ(_:Unit) g=>R r.2.2 g) (R r.2.2 a)
theorem IT.of:∀{h c a b H R},IT.vc h c a b H R->IT.sp h c a b H R:=ba [] (by kernel_rfl)
def KO.vc (h:Option hY)(H:aa)(R:Kp (Int×Sl×Option hY)):Prop:=
 aG H (zc QH kC) kC λp H1=>∃G:aa->Prop,G H1/\ae h λa=>dE aq G (a.add 0) λ(x:Sl)=>ae x.a λT=>(0<=(0:Int)/\(0:Int)<(x.n:Int))/\Nq (bR [(ab .i64),aq,aB]) 3 G (T.add ((0:Int).toNat*3)) λ(s:(Int×Sl×Option hY))=>ae h λU=>dE aq G (U.add 0) λ(d:Sl)=>aG H1 (zc QH kC) kC λw H2=>G H2/\jo QH (Q3 kC (.pointer (some w)) (.agg #[.int .i64 s.1,s.2.1.v,.pointer s.2.2])) H2 λA=>G A/\ae h λV=>ld aq A (V.add 0) λ(B:Sl)=>ae h λW=>ld aq A (W.add 0) λ(C:Sl)=>ae C.a λX=>(0<=(QI.wrap ((d.n:Int) - 1))/\(QI.wrap ((d.n:Int) - 1))<(C.n:Int))/\cN (bR [(ab .i64),aq,aB]) 3 A (X.add ((QI.wrap ((d.n:Int) - 1)).toNat*3)) λ(t:(Int×Sl×Option hY))=>ae B.a λY=>(0<=(0:Int)/\(0:Int)<(B.n:Int))/\jo QH (Q3 kC (.pointer (some (Y.add ((0:Int).toNat*3)))) (.agg #[.int .i64 t.1,t.2.1.v,.pointer t.2.2])) A λH4=>ae h λZ=>ld aq H4 (Z.add 0) λ(k:Sl)=>(0<=(QI.wrap ((d.n:Int) - 1))/\(QI.wrap ((d.n:Int) - 1))<=(k.c:Int))/\ae h λaf=>st H4 (af.add 0) (.slice (cM k.a k.c 0 3) (((QI.wrap ((d.n:Int) - 1)).toNat) - 0) (k.c - 0)) λH5=>ay Int 0 H5 λnext i H6=>ay (Int×Int) (i,(0:Int)) H6 λb z c=>br (decide (z.2<2)) (tF (ab .i64) QH (Instr.index Pm (.agg #[(.int .i64 (QI.wrap ((QI.wrap ((2:Int)*i))+1))),(.int .i64 (QI.wrap ((QI.wrap ((2:Int)*i))+2)))]) (.int .i64 z.2)) λ(y:Int)=>br (decide (y<(QI.wrap ((d.n:Int) - 1)))) (ae h λal=>ld gR c (al.add 1) λ(an:gp)=>ae h λD=>ld aq c (D.add 0) λ(E:Sl)=>ae E.a λF=>(0<=y/\y<(E.n:Int))/\cN (bR [(ab .i64),aq,aB]) 3 c (F.add (y.toNat*3)) λ(u:(Int×Sl×Option hY))=>ae h λI=>ld aq c (I.add 0) λ(l:Sl)=>ae l.a λJ=>(0<=z.1/\z.1<(l.n:Int))/\cN (bR [(ab .i64),aq,aB]) 3 c (J.add (z.1.toNat*3)) λ(e:(Int×Sl×Option hY))=>Au QH an [(.agg #[.int .i64 u.1,u.2.1.v,.pointer u.2.2]),(.agg #[.int .i64 e.1,e.2.1.v,.pointer e.2.2])] c λ(r:Bool) H8=>br r (b (y,QI.wrap (z.2+1)) H8) (b (z.1,QI.wrap (z.2+1)) H8)) (b (z.1,QI.wrap (z.2+1)) c)) (br (z.1==i) (cN (bR [(ab .i64),aq,aB]) 3 c w λ(f:(Int×Sl×Option hY))=>jo QH (Q3 kC (.pointer (some p)) (.agg #[.int .i64 f.1,f.2.1.v,.pointer f.2.2])) c λH9=>cN (bR [(ab .i64),aq,aB]) 3 H9 p λ(res:(Int×Sl×Option hY))=>R (res.1,res.2.1,res.2.2) H9) (ae h λK=>ld aq c (K.add 0) λ(m:Sl)=>ae h λL=>ld aq c (L.add 0) λ(n:Sl)=>ae h λM=>ld aq c (M.add 0) λ(o:Sl)=>ae o.a λN=>(0<=z.1/\z.1<(o.n:Int))/\cN (bR [(ab .i64),aq,aB]) 3 c (N.add (z.1.toNat*3)) λ(g:(Int×Sl×Option hY))=>ae h λO=>ld aq c (O.add 0) λ(q:Sl)=>ae q.a λP=>(0<=i/\i<(q.n:Int))/\cN (bR [(ab .i64),aq,aB]) 3 c (P.add (i.toNat*3)) λ(j:(Int×Sl×Option hY))=>ae m.a λQ=>(0<=i/\i<(m.n:Int))/\jo QH (Q3 kC (.pointer (some (Q.add (i.toNat*3)))) (.agg #[.int .i64 g.1,g.2.1.v,.pointer g.2.2])) c λa1=>ae n.a λS=>(0<=z.1/\z.1<(n.n:Int))/\jo QH (Q3 kC (.pointer (some (S.add (z.1.toNat*3)))) (.agg #[.int .i64 j.1,j.2.1.v,.pointer j.2.2])) a1 λa6=>next z.1 a6))
theorem KO.of:∀{h H R},KO.vc h H R->KO.sp h H R:=ba [(5,[(5,(ab .i64))]),(7,[(6,(ab .i64)),(50,(ab .i64))])] (by kernel_rfl)
def AK.vc (w:Option hY)(l:Sl)(H:aa)(R:Kp Int):Prop:=
 br w.isNone (R (1:Int) H) (ae w λa=>IP.sp (some (a.add 0)) H λ(e:Int) H1=>br (e !=0) (R e H1) (cut Unit (λJ=>ae w λg=>ld (ab .i64) H1 ((g.add 0).add 2) λ(x:Int)=>br ((l.n:Int)!=x) (R (60:Int) H1) (ae w λh=>ld (ab .i64) H1 (h.add 9) λ(i:Int)=>br (decide (i>0)) (ae w λj=>ld aq H1 (j.add 8) λ(k:Sl)=>wU.sp l k H1 λ(r:Int) F=>br (decide (r<=0)) (R (70:Int) F) (J () F)) (J () H1))) λ(_:Unit) I=>∃G:aa->Prop,G I/\ae w λm=>dE aq G (m.add 6) λ(n:Sl)=>BY.sp l I λ(o:Sl) K=>G K/\bf aq QH (QM #[eK,eK] eK #[n.v,o.v]) K λ(s:Sl) N=>ae w λp=>st N (p.add 6) s.v λO=>IX.sp l O λ(q:Sl) P=>ae w λt=>st P (t.add 8) q.v λL=>ae w λu=>ld (ab .i64) L (u.add 9) λ(v:Int)=>ae w λy=>st L (y.add 9) (.int .i64 (QI.wrap (v+1))) λM=>ae w λz=>ld (ab .i64) M (z.add 7) λ(A:Int)=>ae w λc=>st M (c.add 7) (.int .i64 (QI.wrap (A+1))) λb=>ae w λd=>ld (ab .i64) b (d.add 7) λ(B:Int)=>ae w λf=>ld (ab .i64) b ((f.add 0).add 3) λ(C:Int)=>br (decide (B<C)) (R (0:Int) b) (KE.sp w b λ(D:Int) E=>R D E)))
theorem AK.of:∀{w l H R},AK.vc w l H R->AK.sp w l H R:=ba [(100010,[])] (by kernel_rfl)
def Jp.vc (r:Option hY)(H:aa)(R:Kp Unit):Prop:=
 br (!r.isNone) (ae r λa=>st H ((a.add 0).add 5) (.bool true) λH1=>R () H1) (R () H)
theorem Jp.of:∀{r H R},Jp.vc r H R->Jp.sp r H R:=ba [] (by kernel_rfl)
def GU.vc (w:Option hY)(H:aa)(R:Kp (Int×Int)):Prop:=
 br w.isNone (R ((0:Int),(1:Int)) H) (ae w λa=>IP.sp (some (a.add 0)) H λ(e:Int) H1=>br (e==0) (KE.sp w H1 λ(t:Int) H2=>br (t !=0) (R ((0:Int),t) H2) (ae w λcm=>ld aB H2 ((cm.add 0).add 0) λ(x:Option hY)=>ae w λcx=>ld aN H2 ((cx.add 0).add 1) λ(cy:ByteArray)=>IU.sp x cy (0:Int) H2 λ(r:(Int×Int)) H3=>cut Int (λJ=>br (r.2==0) (∃G:aa->Prop,G H3/\ae w λcz=>dE aB G ((cz.add 0).add 0) λ(l:Option hY)=>ae w λcB=>dE (ab .i64) G ((cB.add 0).add 2) λ(m:Int)=>ae w λc0=>dE (ab .i64) G (c0.add 9) λ(u:Int)=>(aG H3 #[.int .u8 (RE.wrap m)] fU λp H5=>G H5/\aG H5 #[.int .u64 (Rj.wrap u)] fM λc3 H6=>G H6/\BY.sp (Sl.mk (some c3) 1 1) H6 λ(c4:Sl) H7=>G H7/\bf aq QH (QM #[eK,eK] eK #[.slice (some p) 1 1,c4.v]) H7 λ(s:Sl) H8=>G H8/\AW.sp l r.1 (2:Int) s H8 λ(c5:Int) H9=>G H9/\J c5 H9)/\(aG H3 #[.int .u64 (Rj.wrap u)] fM λv n=>G n/\(aG n #[.int .u8 (RE.wrap m)] fU λdc y=>G y/\BY.sp (Sl.mk (some v) 1 1) y λ(dk:Sl) A=>G A/\bf aq QH (QM #[eK,eK] eK #[.slice (some dc) 1 1,dk.v]) A λ(dm:Sl) B=>G B/\AW.sp l r.1 (2:Int) dm B λ(dn:Int) C=>G C/\J dn C)/\(BY.sp (Sl.mk (some v) 1 1) n λ(dA:Sl) D=>G D/\aG D #[.int .u8 (RE.wrap m)] fU λdB E=>G E/\bf aq QH (QM #[eK,eK] eK #[.slice (some dB) 1 1,dA.v]) E λ(dD:Sl) F=>G F/\AW.sp l r.1 (2:Int) dD F λ(dT:Int) I=>G I/\J dT I))) (J r.2 H3)) λ(z:Int) H4=>cut Int (λK=>br (z==0) (ae w λea=>ld aB H4 ((ea.add 0).add 0) λ(eb:Option hY)=>FI.sp eb r.1 H4 λ(ec:Int) ed=>K ec ed) (K z H4)) λ(L:Int) g=>cut Int (λM=>br (L==0) (ae w λee=>ld aB g ((ee.add 0).add 0) λ(eg:Option hY)=>ae w λei=>ld aN g ((ei.add 0).add 1) λ(ej:ByteArray)=>Kv.sp eg ej g λ(ek:Int) en=>M ek en) (M L g)) λ(N:Int) eo=>ae w λep=>C8.sp (some (ep.add 0)) N eo λ(er:Int) O=>br (er !=0) (R ((0:Int),N) O) (ae w λP=>st O ((P.add 0).add 5) (.bool true) λQ=>ae w λS=>ld (ab .i64) Q (S.add 9) λ(et:Int)=>R (et,(0:Int)) Q))) (br (e !=0) (R ((0:Int),e) H1) (ae w λT=>ld aB H1 ((T.add 0).add 0) λ(eu:Option hY)=>ae w λU=>ld aN H1 ((U.add 0).add 1) λ(V:ByteArray)=>IU.sp eu V (0:Int) H1 λ(c:(Int×Int)) h=>cut Int (λi=>br (c.2==0) (∃b:aa->Prop,b h/\ae w λW=>dE aB b ((W.add 0).add 0) λ(d:Option hY)=>ae w λX=>dE (ab .i64) b ((X.add 0).add 2) λ(f:Int)=>ae w λY=>dE (ab .i64) b (Y.add 9) λ(k:Int)=>(aG h #[.int .u8 (RE.wrap f)] fU λev Z=>b Z/\aG Z #[.int .u64 (Rj.wrap k)] fM λew af=>b af/\BY.sp (Sl.mk (some ew) 1 1) af λ(ey:Sl) al=>b al/\bf aq QH (QM #[eK,eK] eK #[.slice (some ev) 1 1,ey.v]) al λ(eA:Sl) an=>b an/\AW.sp d c.1 (2:Int) eA an λ(eB:Int) a1=>b a1/\i eB a1)/\(aG h #[.int .u64 (Rj.wrap k)] fM λa6 o=>b o/\(aG o #[.int .u8 (RE.wrap f)] fU λeC a7=>b a7/\BY.sp (Sl.mk (some a6) 1 1) a7 λ(eD:Sl) a8=>b a8/\bf aq QH (QM #[eK,eK] eK #[.slice (some eC) 1 1,eD.v]) a8 λ(eE:Sl) bb=>b bb/\AW.sp d c.1 (2:Int) eE bb λ(eF:Int) bd=>b bd/\i eF bd)/\(BY.sp (Sl.mk (some a6) 1 1) o λ(eG:Sl) bh=>b bh/\aG bh #[.int .u8 (RE.wrap f)] fU λeH bl=>b bl/\bf aq QH (QM #[eK,eK] eK #[.slice (some eH) 1 1,eG.v]) bl λ(eI:Sl) bn=>b bn/\AW.sp d c.1 (2:Int) eI bn λ(eW:Int) bs=>b bs/\i eW bs))) (i c.2 h)) λ(bx:Int) q=>cut Int (λbA=>br (bx==0) (ae w λbB=>ld aB q ((bB.add 0).add 0) λ(bC:Option hY)=>FI.sp bC c.1 q λ(bD:Int) e0=>bA bD e0) (bA bx q)) λ(bM:Int) j=>cut Int (λbN=>br (bM==0) (ae w λbO=>ld aB j ((bO.add 0).add 0) λ(b0:Option hY)=>ae w λb1=>ld aN j ((b1.add 0).add 1) λ(b2:ByteArray)=>Kv.sp b0 b2 j λ(b3:Int) e1=>bN b3 e1) (bN bM j)) λ(b4:Int) e2=>ae w λb5=>C8.sp (some (b5.add 0)) b4 e2 λ(e3:Int) b6=>br (e3 !=0) (R ((0:Int),b4) b6) (ae w λb7=>st b6 ((b7.add 0).add 5) (.bool true) λb9=>ae w λcb=>ld (ab .i64) b9 (cb.add 9) λ(ck:Int)=>R (ck,(0:Int)) b9))))
theorem GU.of:∀{w H R},GU.vc w H R->GU.sp w H R:=ba [(100011,[(4,(ab .i64))]),(300010,[(12,aC),(20,aC)]),(100013,[(4,(ab .i64))]),(100015,[(4,(ab .i64))]),(100011,[(4,(ab .i64))]),(100013,[(4,(ab .i64))]),(100015,[(4,(ab .i64))])] (by kernel_rfl)
def IX.vc (s:Sl)(H:aa)(R:Kp Sl):Prop:=
 br s.a.isNone (R (Sl.mk none 0 0) H) (aG H #[] fM λp H1=>bf aq QH (QM #[dv,dv] dv #[.slice (some p) 0 0,s.v]) H1 λ(a:Sl) b=>R a b)
theorem IX.of:∀{s H R},IX.vc s H R->IX.sp s H R:=ba [] (by kernel_rfl)
def Ic.vc (s:Option hY)(H:aa)(R:Kp Int):Prop:=
 ae s λa=>ld aq H (a.add 4) λ(x:Sl)=>Pj.sp x (.func (.func wU.no) #[] #[]) H λ(_:Unit) H1=>ae s λd=>ld aq H1 (d.add 4) λ(f:Sl)=>LC.sp f H1 λ(l:Sl) C=>JP.sp s C λ(name:ByteArray) A=>ae s λg=>ld aq A (g.add 5) λ(h:Sl)=>aG A #[.string name] dG λp D=>bf aq QH (QM #[dV,dV] dV #[h.v,.slice (some p) 1 1]) D λ(i:Sl) E=>ae s λj=>st E (j.add 4) (.slice none 0 0) λF=>ae s λk=>st F (k.add 5) i.v λm=>ae s λn=>ld aB m (n.add 0) λ(o:Option hY)=>ae s λq=>ld (ab .i64) m (q.add 2) λ(r:Int)=>ID.sp o name r m λ(b:(Option hY×Int)) B=>br (b.2!=0) (R b.2 B) (ay Int 0 B λnext z t=>br (decide (z<(l.n:Int))) (ae l.a λu=>(0<=z/\z<(l.n:Int))/\ld aq t (u.add (z.toNat*1)) λ(v:Sl)=>AK.sp b.1 v t λ(e:Int) c=>br (e !=0) (R e c) (next (QI.wrap (z+1)) c)) (GU.sp b.1 t λ(w:(Int×Int)) y=>R w.2 y))
theorem Ic.of:∀{s H R},Ic.vc s H R->Ic.sp s H R:=ba [(9,[(52,(ab .i64))])] (by kernel_rfl)
def IH.vc (p:Option hY)(name:ByteArray)(width:Int)(H:aa)(R:Kp (Option hY×Int)):Prop:=
 Ji.sp p name width H λ(r:((Option hY×ByteArray×Int×Int×Int×Bool)×Int)) H1=>aG H1 (zc QH sX) sX λe v=>jo QH (Q3 sX (.pointer (some e)) (.agg #[.pointer r.1.1,.string r.1.2.1,.int .i64 r.1.2.2.1,.int .i64 r.1.2.2.2.1,.int .i64 r.1.2.2.2.2.1,.bool r.1.2.2.2.2.2])) v λt=>br (r.2!=0) (R (none,r.2) t) (KB.sp (some e) (0:Int) t λ(b:(Int×Sl×Int)) g=>br (b.2.2!=0) (R (none,b.2.2) g) (br ((b.1!=2)||((b.2.1.n:Int)!=9)) (R (none,(280:Int)) g) (ae b.2.1.a λa=>(0<=(0:Int)/\(0:Int)<(b.2.1.n:Int))/\ld (ab .u8) g (a.add ((0:Int).toNat*1)) λ(x:Int)=>br ((QI.wrap x)!=width) (R (none,(280:Int)) g) (Jz.sp p g λ(k:Option hY) w=>FD.sp k name w λ(f:(Int×Int)) u=>br (f.2!=0) (R (none,f.2) u) ((0<=(1:Int)/\(1:Int)<=(b.2.1.n:Int))/\IQ.sp (Sl.mk (cM b.2.1.a b.2.1.c ((1:Int).toNat) 1) (b.2.1.n - ((1:Int).toNat)) (b.2.1.c - ((1:Int).toNat))) (1:Int) u λ(h:(Sl×Int)) j=>ae h.1.a λl=>(0<=(0:Int)/\(0:Int)<(h.1.n:Int))/\ld aq j (l.add ((0:Int).toNat*1)) λ(i:Sl)=>ae i.a λm=>(0<=(0:Int)/\(0:Int)<(i.n:Int))/\ld (ab .u64) j (m.add ((0:Int).toNat*1)) λ(rows:Int)=>br (decide (rows<=528482304)) (KZ.sp (some e) (QI.wrap rows) j λ(o:Int) q=>br (f.1==(QI.wrap ((1:Int)+o))) (cN (bR [aB,aN,(ab .i64),(ab .i64),(ab .i64),aC]) 6 q e λ(d:(Option hY×ByteArray×Int×Int×Int×Bool))=>aG q #[.pointer d.1,.string d.2.1,.int .i64 d.2.2.1,.int .i64 d.2.2.2.1,.int .i64 d.2.2.2.2.1,.bool d.2.2.2.2.2,.int .i64 (QI.wrap rows),.int .i64 0,.int .i64 (-1),.slice none 0 0] OI λs y=>R (some s,(0:Int)) y) (R (none,(280:Int)) q)) (R (none,(280:Int)) j))))))
theorem IH.of:∀{p name width H R},IH.vc p name width H R->IH.sp p name width H R:=ba [] (by kernel_rfl)
def Fm.vc (r:Option hY)(H:aa)(R:Kp (Sl×Bool×Int)):Prop:=
 br r.isNone (R ((Sl.mk none 0 0),false,(1:Int)) H) (ae r λa=>IP.sp (some (a.add 0)) H λ(e:Int) H1=>br (e !=0) (R ((Sl.mk none 0 0),false,e) H1) (ae r λj=>ld (ab .i64) H1 (j.add 7) λ(x:Int)=>ae r λk=>ld (ab .i64) H1 (k.add 6) λ(m:Int)=>br (x==m) (R ((Sl.mk none 0 0),false,e) H1) (ae r λn=>ld (ab .i64) H1 (n.add 7) λ(o:Int)=>ae r λp=>ld (ab .i64) H1 ((p.add 0).add 3) λ(f:Int)=>f≠0/\Ld.sp r (QI.wrap (Rt o f)) H1 λ(g:Int) d=>br (g !=0) (R ((Sl.mk none 0 0),false,g) d) (ae r λq=>ld aq d (q.add 9) λ(h:Sl)=>ae r λs=>ld (ab .i64) d (s.add 7) λ(c:Int)=>ae r λt=>ld (ab .i64) d ((t.add 0).add 3) λ(b:Int)=>b≠0/\ae h.a λu=>(0<=(RP c b)/\(RP c b)<(h.n:Int))/\ld aq d (u.add ((RP c b).toNat*1)) λ(v:Sl)=>IX.sp v d λ(l:Sl) z=>ae r λw=>ld (ab .i64) z (w.add 7) λ(y:Int)=>ae r λi=>st z (i.add 7) (.int .i64 (QI.wrap (y+1))) λA=>R (l,true,(0:Int)) A))))
theorem Fm.of:∀{r H R},Fm.vc r H R->Fm.sp r H R:=ba [] (by kernel_rfl)
def Iy.vc (d:Option hY)(H:aa)(R:Kp Sl):Prop:=
 Ft.sp d H λ(r:Int) H1=>br (r !=0) (R (Sl.mk none 0 0) H1) (ae d λa=>ld cd H1 (a.add 0) λ(x:Option Nat)=>Nt.sp x H1 λ(b:gp) e=>MP.sp b e λ(c:Sl) f=>R c f)
theorem Iy.of:∀{d H R},Iy.vc d H R->Iy.sp d H R:=ba [] (by kernel_rfl)
def KC.vc (p:Option hY)(H:aa)(R:Kp Int):Prop:=
 br (!p.isNone) (ae p λa=>ld cd H (a.add 2) λ(x:Option Nat)=>bf aB QH (SS zv (.map x)) H λ(it:Option hY) H1=>ay Int 0 H1 λnext n g=>bf gM QH (SO (.pointer it) false BN) g λ(h:Bool×List gp) d=>br h.1 (bf pS QH (Sr (.pointer it)) d λ(i:gp×gp) e=>JA aB i.2 λ(f:Option hY)=>ae f λc=>ld (ab .i64) e (c.add 5) λ(b:Int)=>next (QI.wrap (n+(if (1:Int)<b then (1:Int) else b))) e) (R n d)) (R (0:Int) H)
theorem KC.of:∀{p H R},KC.vc p H R->KC.sp p H R:=ba [(4,[(3,(ab .i64))])] (by kernel_rfl)
def Nd.vc (s1 s2:Sl)(H:aa)(R:Kp Int):Prop:=
 ay Int 0 H λnext z H1=>br (decide (z<(s1.n:Int))) (ae s1.a λa=>(0<=z/\z<(s1.n:Int))/\ld (ab .u64) H1 (a.add (z.toNat*1)) λ(v1:Int)=>br (decide (z>=(s2.n:Int))) (R (1:Int) H1) (ae s2.a λb=>(0<=z/\z<(s2.n:Int))/\ld (ab .u64) H1 (b.add (z.toNat*1)) λ(v2:Int)=>IM.sp v1 v2 H1 λ(c:Int) d=>br (c !=0) (R c d) (next (QI.wrap (z+1)) d))) (br (decide ((s1.n:Int)<(s2.n:Int))) (R (-1:Int) H1) (R (0:Int) H1))
theorem Nd.of:∀{s1 s2 H R},Nd.vc s1 s2 H R->Nd.sp s1 s2 H R:=ba [(2,[(13,(ab .i64))])] (by kernel_rfl)
def IM.vc (x y:Int)(H:aa)(R:Kp Int):Prop:=
 I3.sp x H λ(c:Bool) H1=>I3.sp y H1 λ(a:Bool) b=>br c (br a (R (0:Int) b) (R (-1:Int) b)) (br a (R (1:Int) b) (br (decide (x<y)) (R (-1:Int) b) (br (decide (x>y)) (R (1:Int) b) (R (0:Int) b))))
theorem IM.of:∀{x y H R},IM.vc x y H R->IM.sp x y H R:=ba [] (by kernel_rfl)
def LW.vc (quota:Int)(H:aa)(R:Kp (Option hY)):Prop:=
 aG H #[.slice none 0 0,.int .i64 0,(.int .i64 (if (1048576:Int)<(if (0:Int)>quota then (0:Int) else quota) then (1048576:Int) else (if (0:Int)>quota then (0:Int) else quota))),.int .i64 0,.int .i64 0,.bool false,.int .i64 0,.int .u64 0,.bool false] yo λp H1=>R (some p) H1
theorem LW.of:∀{quota H R},LW.vc quota H R->LW.sp quota H R:=ba [] (by kernel_rfl)
def Mf.vc (d:Option hY)(p ar:Int)(H:aa)(R:Kp Unit):Prop:=
 Ft.sp d H λ(r:Int) H1=>br (r==0) (ae d λa=>jo QH (Q3 Ph (.pointer (some (a.add 6))) (.agg #[.bool true,.int .i64 (if (0:Int)>p then (0:Int) else p),.int .u64 ar])) H1 λb=>R () b) (R () H1)
theorem Mf.of:∀{d p ar H R},Mf.vc d p ar H R->Mf.sp d p ar H R:=ba [] (by kernel_rfl)
def K9.vc (d:Option hY)(p ar:Int)(H:aa)(R:Kp Unit):Prop:=
 ae d λa=>ld aC H (a.add 8) λ(x:Bool)=>br x (R () H) (ae d λb=>st H (b.add 5) (.bool true) λH1=>ae d λc=>st H1 (c.add 6) (.int .i64 (if (0:Int)>p then (0:Int) else p)) λf=>ae d λe=>st f (e.add 7) (.int .u64 ar) λg=>R () g)
theorem K9.of:∀{d p ar H R},K9.vc d p ar H R->K9.sp d p ar H R:=ba [] (by kernel_rfl)
def L8.vc (d:Option hY)(ag:Int)(H:aa)(R:Kp (Option hY×Int)):Prop:=
 br d.isNone (R (none,(1:Int)) H) (br (decide (ag<8)) (R (none,(30:Int)) H) (br (decide (ag>4096)) (R (none,(3:Int)) H) (aG H #[.pointer d,.int .i64 ag,.slice none 0 0,.int .i64 1,.int .i64 0,.int .i64 0,.int .i64 0] tw λp H1=>R (some p,(0:Int)) H1)))
theorem L8.of:∀{d ag H R},L8.vc d ag H R->L8.sp d ag H R:=ba [] (by kernel_rfl)
def CT.vc (width:Int)(H:aa)(R:Kp Int):Prop:=
 KV.sp width H λ(n:Int) H1=>br (n==0) (R (0:Int) H1) (n≠0/\R (QI.wrap (Rt (504:Int) n)) H1)
theorem CT.of:∀{width H R},CT.vc width H R->CT.sp width H R:=ba [] (by kernel_rfl)
def L1.vc (d:Option hY)(H:aa)(R:Kp Int):Prop:=
 br d.isNone (R (0:Int) H) (ae d λa=>ld (ab .i64) H (a.add 4) λ(x:Int)=>R x H)
theorem L1.of:∀{d H R},L1.vc d H R->L1.sp d H R:=ba [] (by kernel_rfl)
def K5.vc (d:Option hY)(H:aa)(R:Kp Bool):Prop:=
 br (!d.isNone) (ae d λa=>ld aC H (a.add 9) λ(x:Bool)=>R x H) (R false H)
theorem K5.of:∀{d H R},K5.vc d H R->K5.sp d H R:=ba [] (by kernel_rfl)
def Mh.vc (d:Option hY)(H:aa)(R:Kp Int):Prop:=
 br d.isNone (R (0:Int) H) (ae d λa=>ld (ab .i64) H (a.add 2) λ(x:Int)=>R x H)
theorem Mh.of:∀{d H R},Mh.vc d H R->Mh.sp d H R:=ba [] (by kernel_rfl)
def K1.vc (p:Option hY)(H:aa)(R:Kp Int):Prop:=
 br p.isNone (R (0:Int) H) (ae p λa=>ld cd H (a.add 2) λ(x:Option Nat)=>Ct H x λ(n:Nat)=>R (n:Int) H)
theorem K1.of:∀{p H R},K1.vc p H R->K1.sp p H R:=ba [] (by kernel_rfl)
def Ls.vc (p:Option hY)(H:aa)(R:Kp Int):Prop:=
 ay (Int×Int) ((0:Int),(0:Int)) H λnext z H1=>ae p λa=>ld aq H1 (a.add 2) λ(x:Sl)=>br (decide (z.2<(x.n:Int))) (ae p λc=>ld aq H1 (c.add 2) λ(b:Sl)=>ae b.a λd=>(0<=z.2/\z.2<(b.n:Int))/\ld aq H1 ((d.add (z.2.toNat*7)).add 5) λ(e:Sl)=>br (decide ((e.n:Int)>0)) (next (QI.wrap (z.1+1),QI.wrap (z.2+1)) H1) (next (z.1,QI.wrap (z.2+1)) H1)) (R z.1 H1)
theorem Ls.of:∀{p H R},Ls.vc p H R->Ls.sp p H R:=ba [(3,[(3,(ab .i64)),(4,(ab .i64))])] (by kernel_rfl)
def K3.vc (d:Option hY)(H:aa)(R:Kp Unit):Prop:=
 br d.isNone (R () H) (ae d λa=>ld aC H (a.add 9) λ(x:Bool)=>br (!x) (R () H) (ae d λW=>ld cd H (W.add 0) λ(X:Option Nat)=>bf aB QH (SS AJ (.map X)) H λ(it:Option hY) H1=>ay Sl (Sl.mk none 0 0) H1 λnext order H2=>bf gM QH (SO (.pointer it) false BN) H2 λ(nx:Bool×List gp) H3=>br nx.1 (bf pS QH (Sr (.pointer it)) H3 λ(en:gp×gp) H4=>JA aB en.2 λ(f:Option hY)=>ae f λY=>ld aq H4 (Y.add 2) λ(n:Sl)=>ay (Sl×Int) (order,(0:Int)) H4 λi z Z=>br (decide (z.2<(n.n:Int))) (ae n.a λaf=>(0<=z.2/\z.2<(n.n:Int))/\cN ku 514 Z (af.add (z.2.toNat*514)) λ(al:Array gp)=>aG Z (zc QH sS) sS λp H6=>jo QH (Q3 sS (.pointer (some p)) (.agg al)) H6 λH7=>ld (ab .i64) H7 (p.add 0) λ(an:Int)=>aG H7 #[.int .i64 an] jm λa1 H8=>bf aq QH (QM #[Du,Du] Du #[z.1.v,.slice (some a1) 1 1]) H8 λ(h:Sl) H9=>i (h,QI.wrap (z.2+1)) H9) (next z.1 Z)) (Pd.sp order H3 λ(_:Unit) a6=>ae d λa7=>st a6 (a7.add 1) (.int .i64 0) λr=>ae d λa8=>ld cd r (a8.add 0) λ(bb:Option Nat)=>bf aB QH (SS AJ (.map bb)) r λ(m:Option hY) bd=>ay Unit () bd λj _ bh=>bf gM QH (SO (.pointer m) false BN) bh λ(s:Bool×List gp) t=>br s.1 (bf pS QH (Sr (.pointer m)) t λ(u:gp×gp) w=>JA aB u.2 λ(b:Option hY)=>ae b λbl=>ld aq w (bl.add 1) λ(bn:Sl)=>Fo.sp bn w λ(bs:Sl) bx=>ae b λbA=>st bx (bA.add 0) bs.v λy=>ae b λbB=>ld aq y (bB.add 2) λ(o:Sl)=>ay Int 0 y λc e k=>br (decide (e<(o.n:Int))) (ae o.a λbC=>(0<=e/\e<(o.n:Int))/\cN ku 514 k (bC.add (e.toNat*514)) λ(bD:Array gp)=>aG k (zc QH sS) sS λl bM=>jo QH (Q3 sS (.pointer (some l)) (.agg bD)) bM λA=>ld (ab .i64) A (l.add 0) λ(bN:Int)=>Ks.sp order bN A λ(B:(Int×Bool)) g=>ae d λC=>ld (ab .u64) g ((C.add 6).add 2) λ(D:Int)=>0<=(RP B.1 (64:Int))/\br ((mS .u64 (dQ .u64 D (RP B.1 (64:Int))) (1:Int))==1) (ae b λE=>ld aq g (E.add 0) λ(F:Sl)=>ld (ab .i64) g (l.add 1) λ(G:Int)=>cN ku 512 g (l.add 2) λ(I:Array gp)=>IG.sp F G I g λ(bO:Sl) b0=>ae b λJ=>st b0 (J.add 0) bO.v λb1=>c (QI.wrap (e+1)) b1) (c (QI.wrap (e+1)) g)) (ae b λK=>ld aq k (K.add 0) λ(L:Sl)=>Fo.sp L k λ(b2:Sl) b3=>ae b λM=>st b3 (M.add 1) b2.v λb4=>ae b λN=>st b4 (N.add 2) (.slice none 0 0) λq=>ae d λO=>ld (ab .i64) q (O.add 1) λ(P:Int)=>ae b λQ=>ld aq q (Q.add 0) λ(S:Sl)=>ae d λT=>st q (T.add 1) (.int .i64 (QI.wrap (P+(S.n:Int)))) λb5=>j () b5)) (ae d λU=>st t (U.add 9) (.bool false) λb6=>ae d λV=>jo QH (Q3 Ph (.pointer (some (V.add 6))) (.agg #[.bool false,.int .i64 0,.int .u64 0])) b6 λb7=>R () b7))))
theorem K3.of:∀{d H R},K3.vc d H R->K3.sp d H R:=ba [(3,[(2,aq)]),(6,[(2,aq),(36,(ab .i64))]),(13,[]),(17,[(73,(ab .i64))])] (by kernel_rfl)
def L7.vc (d:Option hY)(H:aa)(R:Kp Unit):Prop:=
 ae d λa=>ld aC H (a.add 8) λ(x:Bool)=>br (!x) (R () H) (ay (Sl×Int) ((Sl.mk none 0 0),(0:Int)) H λnext z H1=>ae d λD=>ld aq H1 (D.add 0) λ(E:Sl)=>br (decide (z.2<(E.n:Int))) (∃G:aa->Prop,G H1/\ae d λF=>dE aq G (F.add 0) λ(j:Sl)=>ae j.a λI=>(0<=z.2/\z.2<(j.n:Int))/\dE aN G ((I.add (z.2.toNat*3)).add 0) λ(J:ByteArray)=>ae d λK=>dE aq G (K.add 0) λ(l:Sl)=>ae l.a λL=>(0<=z.2/\z.2<(l.n:Int))/\dE aq G ((L.add (z.2.toNat*3)).add 1) λ(M:Sl)=>aG H1 (zc QH vD) vD λp H2=>G H2/\jo QH (Q3 vD (.pointer (some p)) (.agg #[.string J,M.v,.slice none 0 0])) H2 λH3=>ay Int 0 H3 λb k g=>ae d λN=>ld aq g (N.add 0) λ(m:Sl)=>ae m.a λO=>(0<=z.2/\z.2<(m.n:Int))/\ld aq g ((O.add (z.2.toNat*3)).add 2) λ(P:Sl)=>br (decide (k<(P.n:Int))) (ae d λQ=>ld aq g (Q.add 0) λ(n:Sl)=>ae n.a λS=>(0<=z.2/\z.2<(n.n:Int))/\ld aq g ((S.add (z.2.toNat*3)).add 2) λ(o:Sl)=>ae o.a λq=>(0<=k/\k<(o.n:Int))/\cN (bR [(ab .i64),(ab .i64),aN]) 3 g (q.add (k.toNat*3)) λ(c:(Int×Int×ByteArray))=>aG g (zc QH AO) AO λh H5=>jo QH (Q3 AO (.pointer (some h)) (.agg #[.int .i64 c.1,.int .i64 c.2.1,.string c.2.2])) H5 λT=>∃i:aa->Prop,i T/\ae d λs=>dE (ab .u64) i (s.add 7) λ(t:Int)=>ld (ab .i64) T (h.add 0) λ(u:Int)=>Mk.sp d u T λ(r:Int) w=>i w/\0<=(RP r (64:Int))/\br ((mS .u64 (dQ .u64 t (RP r (64:Int))) (1:Int))==1) (ld aq w (p.add 1) λ(y:Sl)=>cN (bR [(ab .i64),(ab .i64),aN]) 3 w h λ(e:(Int×Int×ByteArray))=>KP.sp y e.1 e.2.1 e.2.2 w λ(U:Sl) H8=>st H8 (p.add 1) U.v λH9=>b (QI.wrap (k+1)) H9) (b (QI.wrap (k+1)) w)) (cN (bR [aN,aq,aq]) 3 g p λ(f:(ByteArray×Sl×Sl))=>aG g #[.string f.1,f.2.1.v,f.2.2.v] vD λV W=>bf aq QH (QM #[EO,EO] EO #[z.1.v,.slice (some V) 1 1]) W λ(files:Sl) X=>next (files,QI.wrap (z.2+1)) X)) (ae d λA=>st H1 (A.add 0) z.1.v λY=>ae d λB=>st Y (B.add 8) (.bool false) λZ=>ae d λC=>st Z (C.add 5) (.bool false) λaf=>R () af))
theorem L7.of:∀{d H R},L7.vc d H R->L7.sp d H R:=ba [(3,[(2,aq),(3,(ab .i64))]),(7,[(5,(ab .i64))])] (by kernel_rfl)
def LU.vc (a b:Sl)(H:aa)(R:Kp Bool):Prop:=
 br ((a.n:Int)!=(b.n:Int)) (R false H) (ay Int 0 H λnext i H1=>br (decide (i<(a.n:Int))) (ae a.a λc=>(0<=i/\i<(a.n:Int))/\ld aN H1 (c.add (i.toNat*1)) λ(x:ByteArray)=>ae b.a λd=>(0<=i/\i<(b.n:Int))/\ld aN H1 (d.add (i.toNat*1)) λ(e:ByteArray)=>br (!(x.toList==e.toList)) (R false H1) (next (QI.wrap (i+1)) H1)) (R true H1))
theorem LU.of:∀{a b H R},LU.vc a b H R->LU.sp a b H R:=ba [(4,[(5,(ab .i64))])] (by kernel_rfl)
def Li.vc (d:Option hY)(H:aa)(R:Kp Sl):Prop:=
 ay (Sl×Int) ((Sl.mk none 0 0),(0:Int)) H λnext z H1=>ae d λa=>ld aq H1 (a.add 0) λ(x:Sl)=>br (decide (z.2<(x.n:Int))) (ae d λq=>ld aC H1 (q.add 8) λ(r:Bool)=>br (!r) (ay Int 0 H1 λe b k=>br (decide (b<(z.1.n:Int))) (ae z.1.a λs=>(0<=b/\b<(z.1.n:Int))/\ld aN k (s.add (b.toNat*1)) λ(t:ByteArray)=>ae d λu=>ld aq k (u.add 0) λ(l:Sl)=>ae l.a λv=>(0<=z.2/\z.2<(l.n:Int))/\ld aN k ((v.add (z.2.toNat*3)).add 0) λ(w:ByteArray)=>br (Op.bytesLess t.toList w.toList) (e (QI.wrap (b+1)) k) ((0<=b/\b<=(z.1.c:Int))/\bf aq QH (QM #[dV,dV] dV #[.slice none 0 0,.slice (cM z.1.a z.1.c 0 1) (b.toNat - 0) (z.1.c - 0)]) k λ(out:Sl) y=>ae d λA=>ld aq y (A.add 0) λ(m:Sl)=>ae m.a λB=>(0<=z.2/\z.2<(m.n:Int))/\ld aN y ((B.add (z.2.toNat*3)).add 0) λ(C:ByteArray)=>aG y #[.string C] dG λp K=>bf aq QH (QM #[dV,dV] dV #[out.v,.slice (some p) 1 1]) K λ(f:Sl) L=>(0<=b/\b<=(z.1.n:Int))/\bf aq QH (QM #[dV,dV] dV #[f.v,.slice (cM z.1.a z.1.c b.toNat 1) (z.1.n - b.toNat) (z.1.c - b.toNat)]) L λ(g:Sl) M=>next (g,QI.wrap (z.2+1)) M)) ((0<=b/\b<=(z.1.c:Int))/\bf aq QH (QM #[dV,dV] dV #[.slice none 0 0,.slice (cM z.1.a z.1.c 0 1) (b.toNat - 0) (z.1.c - 0)]) k λ(h:Sl) D=>ae d λE=>ld aq D (E.add 0) λ(o:Sl)=>ae o.a λF=>(0<=z.2/\z.2<(o.n:Int))/\ld aN D ((F.add (z.2.toNat*3)).add 0) λ(G:ByteArray)=>aG D #[.string G] dG λI N=>bf aq QH (QM #[dV,dV] dV #[h.v,.slice (some I) 1 1]) N λ(i:Sl) O=>(0<=b/\b<=(z.1.n:Int))/\bf aq QH (QM #[dV,dV] dV #[i.v,.slice (cM z.1.a z.1.c b.toNat 1) (z.1.n - b.toNat) (z.1.c - b.toNat)]) O λ(j:Sl) J=>next (j,QI.wrap (z.2+1)) J)) (R z.1 H1)) (R z.1 H1)
theorem Li.of:∀{d H R},Li.vc d H R->Li.sp d H R:=ba [(3,[(3,aq),(4,(ab .i64))]),(6,[(5,(ab .i64))])] (by kernel_rfl)
def DQ.vc (d:Option hY)(name:ByteArray)(H:aa)(R:Kp (Int×Int)):Prop:=
 CD.sp d name H λ(i:Int) H1=>ae d λa=>ld aC H1 (a.add 8) λ(x:Bool)=>br x (R ((0:Int),(4:Int)) H1) (br (decide (i<0)) (R ((0:Int),(11:Int)) H1) (ae d λe=>ld aq H1 (e.add 0) λ(c:Sl)=>ae c.a λf=>(0<=i/\i<(c.n:Int))/\cN (bR [aN,aq,aq]) 3 H1 (f.add (i.toNat*3)) λ(b:(ByteArray×Sl×Sl))=>FC.sp b.1 b.2.1 b.2.2 H1 λ(r:Sl) g=>R ((r.n:Int),(0:Int)) g))
theorem DQ.of:∀{d name H R},DQ.vc d name H R->DQ.sp d name H R:=ba [] (by kernel_rfl)
def Ke.vc (d:Option hY)(name:ByteArray)(page:Int)(H:aa)(R:Kp (Sl×Int)):Prop:=
 FJ.sp d name H λ(r:(Option hY×Int)) H1=>cut Unit (λJ=>br (r.2!=0) (R ((Sl.mk none 0 0),r.2) H1) (br (decide (page<0)) (br (decide (page<0)) (R ((Sl.mk none 0 0),(12:Int)) H1) (J () H1)) (ae r.1 λa=>ld aq H1 (a.add 0) λ(x:Sl)=>br (decide (page>=(x.n:Int))) (R ((Sl.mk none 0 0),(12:Int)) H1) (J () H1)))) λ(_:Unit) g=>ae r.1 λc=>ld aq g (c.add 0) λ(b:Sl)=>ae b.a λe=>(0<=page/\page<(b.n:Int))/\Fy.sp (Sl.mk (cM (some (e.add (page.toNat*512))) 512 0 1) (512 - 0) (512 - 0)) g λ(f:Sl) h=>R (f,(0:Int)) h
theorem Ke.of:∀{d name page H R},Ke.vc d name page H R->Ke.sp d name page H R:=ba [(100007,[])] (by kernel_rfl)
def EZ.vc (d:Option hY)(name:ByteArray)(page:Int)(H:aa)(R:Kp (Sl×Int)):Prop:=
 CD.sp d name H λ(i:Int) H1=>ae d λa=>ld aC H1 (a.add 8) λ(x:Bool)=>br x (R ((Sl.mk none 0 0),(4:Int)) H1) (br (decide (i<0)) (R ((Sl.mk none 0 0),(11:Int)) H1) (ae d λe=>ld aq H1 (e.add 0) λ(c:Sl)=>ae c.a λf=>(0<=i/\i<(c.n:Int))/\cN (bR [aN,aq,aq]) 3 H1 (f.add (i.toNat*3)) λ(b:(ByteArray×Sl×Sl))=>FC.sp b.1 b.2.1 b.2.2 H1 λ(l:Sl) g=>br ((decide (page<0))||(decide (page>=(l.n:Int)))) (R ((Sl.mk none 0 0),(12:Int)) g) (ae l.a λh=>(0<=page/\page<(l.n:Int))/\ld aN g (h.add (page.toNat*1)) λ(j:ByteArray)=>bf aq QH (convert dG eK (.string j)) g λ(k:Sl) m=>R (k,(0:Int)) m)))
theorem EZ.of:∀{d name page H R},EZ.vc d name page H R->EZ.sp d name page H R:=ba [] (by kernel_rfl)
def Jg.vc (s:Option hY)(H:aa)(R:Kp Int):Prop:=
 ae s λa=>ld (ab .i64) H (a.add 7) λ(x:Int)=>br (x !=0) (ae s λb=>ld (ab .i64) H (b.add 7) λ(c:Int)=>R c H) (ae s λd=>ld aC H (d.add 8) λ(e:Bool)=>br e (R (2:Int) H) (R (0:Int) H))
theorem Jg.of:∀{s H R},Jg.vc s H R->Jg.sp s H R:=ba [] (by kernel_rfl)
def HZ.vc (s:Option hY)(H:aa)(R:Kp Int):Prop:=
 JH.sp s H λ(name:ByteArray) H1=>∃G:aa->Prop,G H1/\ae s λa=>dE aB G (a.add 0) λ(x:Option hY)=>ae s λb=>dE (ab .i64) G (b.add 2) λ(c:Int)=>ae s λd=>ld aq H1 (d.add 4) λ(f:Sl)=>Lc.sp f H1 λ(r:Sl) m=>G m/\LS.sp x name c r m λ(e:Int) q=>ae s λg=>st q (g.add 4) (.slice none 0 0) λn=>ae s λh=>ld aq n (h.add 5) λ(i:Sl)=>aG n #[.string name] dG λp t=>bf aq QH (QM #[dV,dV] dV #[i.v,.slice (some p) 1 1]) t λ(j:Sl) u=>ae s λk=>st u (k.add 5) j.v λo=>br (e !=0) (ae s λl=>st o (l.add 7) (.int .i64 e) λv=>R e v) (R e o)
theorem HZ.of:∀{s H R},HZ.vc s H R->HZ.sp s H R:=ba [] (by kernel_rfl)
def FA.vc (s:Option hY)(H:aa)(R:Kp (Int×Int)):Prop:=
 Jg.sp s H λ(e:Int) H1=>br (e !=0) (R ((0:Int),e) H1) (KY.sp s H1 λ(r:(Int×Int)) c=>br (r.2!=0) (ae s λa=>st c (a.add 7) (.int .i64 r.2) λd=>R ((0:Int),r.2) d) (ae s λb=>st c (b.add 8) (.bool true) λf=>R (r.1,(0:Int)) f))
theorem FA.of:∀{s H R},FA.vc s H R->FA.sp s H R:=ba [] (by kernel_rfl)
def KX.vc (p:Option hY)(name:ByteArray)(width:Int)(H:aa)(R:Kp (Option hY×Int)):Prop:=
 br p.isNone (R (none,(1:Int)) H) (CT.sp width H λ(room:Int) H1=>br (room==0) (R (none,(60:Int)) H1) (aG H1 #[.pointer p,.string name,.int .i64 width,.int .i64 0,.bool false,.int .i64 0,.int .i64 0,.int .i64 0,.slice none 0 0] NT λd C=>I2.sp (some (d.add 0)) (0:Int) C λ(r:(Int×Sl×Int)) g=>br (r.2.2!=0) (R (none,r.2.2) g) (br ((r.1!=2)||((r.2.1.n:Int)!=9)) (R (none,(280:Int)) g) (ae r.2.1.a λa=>(0<=(0:Int)/\(0:Int)<(r.2.1.n:Int))/\ld (ab .u8) g (a.add ((0:Int).toNat*1)) λ(x:Int)=>br ((QI.wrap x)!=width) (R (none,(280:Int)) g) ((0<=(1:Int)/\(1:Int)<=(r.2.1.n:Int))/\JG.sp (Sl.mk (cM r.2.1.a r.2.1.c ((1:Int).toNat) 1) (r.2.1.n - ((1:Int).toNat)) (r.2.1.c - ((1:Int).toNat))) (1:Int) g λ(b:(Sl×Int)) B=>ae p λl=>ld aB B (l.add 0) λ(m:Option hY)=>DQ.sp m name B λ(e:(Int×Int)) f=>br (e.2!=0) (R (none,e.2) f) (ae b.1.a λo=>(0<=(0:Int)/\(0:Int)<(b.1.n:Int))/\ld aq f (o.add ((0:Int).toNat*1)) λ(h:Sl)=>ae h.a λq=>(0<=(0:Int)/\(0:Int)<(h.n:Int))/\ld (ab .u64) f (q.add ((0:Int).toNat*1)) λ(s:Int)=>br (decide (s>528482304)) (R (none,(280:Int)) f) (ae b.1.a λt=>(0<=(0:Int)/\(0:Int)<(b.1.n:Int))/\ld aq f (t.add ((0:Int).toNat*1)) λ(i:Sl)=>ae i.a λu=>(0<=(0:Int)/\(0:Int)<(i.n:Int))/\ld (ab .u64) f (u.add ((0:Int).toNat*1)) λ(v:Int)=>Lg.sp (QI.wrap v) room f λ(w:Int) k=>br (e.1!=(QI.wrap ((1:Int)+w))) (R (none,(280:Int)) k) (ae b.1.a λy=>(0<=(0:Int)/\(0:Int)<(b.1.n:Int))/\ld aq k (y.add ((0:Int).toNat*1)) λ(j:Sl)=>ae j.a λz=>(0<=(0:Int)/\(0:Int)<(j.n:Int))/\ld (ab .u64) k (z.add ((0:Int).toNat*1)) λ(A:Int)=>st k (d.add 5) (.int .i64 (QI.wrap A)) λD=>R (some d,(0:Int)) D))))))))
theorem KX.of:∀{p name width H R},KX.vc p name width H R->KX.sp p name width H R:=ba [] (by kernel_rfl)
def J0.vc (p:Option hY)(name:ByteArray)(width:Int)(H:aa)(R:Kp (Option hY×Int)):Prop:=
 br p.isNone (R (none,(1:Int)) H) (CT.sp width H λ(r:Int) H1=>br (r==0) (R (none,(60:Int)) H1) (ae p λa=>ld aB H1 (a.add 0) λ(x:Option hY)=>Ml.sp x name H1 λ(e:Int) d=>br (e !=0) (R (none,e) d) (aG d #[.pointer p,.string name,.int .i64 width,.int .i64 0,.bool false,.slice none 0 0,.int .i64 0,.slice none 0 0,.int .i64 0] Kc λb g=>Jy.sp (some (b.add 0)) (0:Int) (Sl.mk none 0 0) g λ(c:Int) f=>br (c !=0) (R (none,c) f) (R (some b,(0:Int)) f))))
theorem J0.of:∀{p name width H R},J0.vc p name width H R->J0.sp p name width H R:=ba [] (by kernel_rfl)
def Ep.vc (r:Option hY)(H:aa)(R:Kp (Sl×Bool×Int)):Prop:=
 ae r λa=>IF.sp (some (a.add 0)) H λ(e:Int) H1=>br (e !=0) (R ((Sl.mk none 0 0),false,e) H1) (ae r λg=>ld (ab .i64) H1 (g.add 6) λ(x:Int)=>ae r λh=>ld (ab .i64) H1 (h.add 5) λ(i:Int)=>br (decide (x>=i)) (R ((Sl.mk none 0 0),false,(0:Int)) H1) (ae r λj=>ld (ab .i64) H1 ((j.add 0).add 2) λ(k:Int)=>CT.sp k H1 λ(room:Int) v=>ae r λm=>ld (ab .i64) v (m.add 6) λ(n:Int)=>room≠0/\Lu.sp r (QI.wrap (Rt n room)) v λ(d:Int) c=>br (d !=0) (R ((Sl.mk none 0 0),false,d) c) (ae r λo=>ld aq c (o.add 8) λ(f:Sl)=>ae r λp=>ld (ab .i64) c (p.add 6) λ(b:Int)=>room≠0/\ae f.a λq=>(0<=(RP b room)/\(RP b room)<(f.n:Int))/\ld aq c (q.add ((RP b room).toNat*1)) λ(l:Sl)=>ae r λs=>ld (ab .i64) c (s.add 6) λ(t:Int)=>ae r λu=>st c (u.add 6) (.int .i64 (QI.wrap (t+1))) λw=>R (l,true,(0:Int)) w)))
theorem Ep.of:∀{r H R},Ep.vc r H R->Ep.sp r H R:=ba [] (by kernel_rfl)
def BV.vc (a b:Sl)(H:aa)(R:Kp Int):Prop:=
 ay Int 0 H λnext i H1=>br ((decide (i<(a.n:Int)))&&(decide (i<(b.n:Int)))) (ae a.a λc=>(0<=i/\i<(a.n:Int))/\ld (ab .u64) H1 (c.add (i.toNat*1)) λ(x:Int)=>ae b.a λd=>(0<=i/\i<(b.n:Int))/\ld (ab .u64) H1 (d.add (i.toNat*1)) λ(e:Int)=>br (decide (x<e)) (R (-1:Int) H1) (ae a.a λf=>(0<=i/\i<(a.n:Int))/\ld (ab .u64) H1 (f.add (i.toNat*1)) λ(g:Int)=>ae b.a λh=>(0<=i/\i<(b.n:Int))/\ld (ab .u64) H1 (h.add (i.toNat*1)) λ(j:Int)=>br (decide (g>j)) (R (1:Int) H1) (next (QI.wrap (i+1)) H1))) (br (decide ((a.n:Int)<(b.n:Int))) (R (-1:Int) H1) (br (decide ((a.n:Int)>(b.n:Int))) (R (1:Int) H1) (R (0:Int) H1)))
theorem BV.of:∀{a b H R},BV.vc a b H R->BV.sp a b H R:=ba [(2,[(5,(ab .i64))])] (by kernel_rfl)
def I0.vc (w:Option hY)(H:aa)(R:Kp (Int×Int)):Prop:=
 ae w λa=>IF.sp (some (a.add 0)) H λ(e:Int) H1=>cut Int (λJ=>br (e==0) (J7.sp w H1 λ(p:Int) Y=>J p Y) (J e H1)) λ(z:Int) m=>br (z !=0) (R ((0:Int),z) m) (ae w λq=>ld aB m ((q.add 0).add 0) λ(x:Option hY)=>ae w λs=>ld aN m ((s.add 0).add 1) λ(t:ByteArray)=>Jt.sp x t (0:Int) m λ(r:(Int×Int)) n=>cut Int (λb=>br (r.2==0) (∃G:aa->Prop,G n/\ae w λu=>dE aB G ((u.add 0).add 0) λ(v:Option hY)=>ae w λy=>ld (ab .i64) n ((y.add 0).add 2) λ(A:Int)=>ae w λB=>dE (ab .i64) G (B.add 8) λ(C:Int)=>K7.sp A C n λ(D:Sl) X=>G X/\Jk.sp v r.1 (2:Int) D X λ(E:Int) Z=>b E Z) (b r.2 n)) λ(c:Int) F=>cut Int (λd=>br (c==0) (ae w λI=>ld aB F ((I.add 0).add 0) λ(K:Option hY)=>GC.sp K r.1 F λ(L:Int) H9=>d L H9) (d c F)) λ(f:Int) o=>cut Int (λg=>br (f==0) (ae w λM=>ld aB o ((M.add 0).add 0) λ(N:Option hY)=>ae w λO=>ld aN o ((O.add 0).add 1) λ(P:ByteArray)=>LM.sp N P o λ(Q:Int) S=>g Q S) (g f o)) λ(h:Int) i=>br (h !=0) (ae w λT=>EW.sp (some (T.add 0)) h i λ(U:Int) V=>R ((0:Int),U) V) (ae w λj=>st i ((j.add 0).add 4) (.bool true) λk=>ae w λl=>ld (ab .i64) k (l.add 8) λ(W:Int)=>R (W,(0:Int)) k))
theorem I0.of:∀{w H R},I0.vc w H R->I0.sp w H R:=ba [(100004,[(4,(ab .i64))]),(100009,[(4,(ab .i64))]),(100011,[(4,(ab .i64))]),(100013,[(4,(ab .i64))])] (by kernel_rfl)
def CP.vc (w:Option hY)(l:Sl)(H:aa)(R:Kp Int):Prop:=
 ae w λa=>IF.sp (some (a.add 0)) H λ(e:Int) H1=>cut Unit (λJ=>br (e !=0) (R e H1) (ae w λk=>ld (ab .i64) H1 ((k.add 0).add 2) λ(x:Int)=>br ((l.n:Int)!=x) (R (60:Int) H1) (ae w λm=>ld (ab .i64) H1 (m.add 8) λ(n:Int)=>br (decide (n>0)) (ae w λo=>ld aq H1 (o.add 7) λ(p:Sl)=>BV.sp l p H1 λ(r:Int) P=>br (decide (r<=0)) (R (70:Int) P) (J () P)) (J () H1)))) λ(_:Unit) Q=>∃G:aa->Prop,G Q/\ae w λq=>dE aq G (q.add 5) λ(t:Sl)=>Ky.sp l Q λ(u:Sl) S=>G S/\bf aq QH (QM #[eK,eK] eK #[t.v,u.v]) S λ(s:Sl) W=>ae w λv=>st W (v.add 5) s.v λT=>ae w λy=>ld (ab .i64) T (y.add 6) λ(z:Int)=>ae w λA=>st T (A.add 6) (.int .i64 (QI.wrap (z+1))) λU=>ae w λB=>ld (ab .i64) U (B.add 8) λ(C:Int)=>ae w λD=>st U (D.add 8) (.int .i64 (QI.wrap (C+1))) λX=>ae w λf=>st X (f.add 7) (.slice none 0 0) λV=>ae w λg=>ld aq V (g.add 7) λ(E:Sl)=>bf aq QH (QM #[dv,dv] dv #[E.v,l.v]) V λ(F:Sl) I=>ae w λh=>st I (h.add 7) F.v λb=>∃c:aa->Prop,c b/\ae w λi=>dE (ab .i64) c (i.add 6) λ(K:Int)=>ae w λj=>ld (ab .i64) b ((j.add 0).add 2) λ(L:Int)=>CT.sp L b λ(M:Int) d=>c d/\br (decide (K<M)) (R (0:Int) d) (J7.sp w d λ(N:Int) O=>R N O)
theorem CP.of:∀{w l H R},CP.vc w l H R->CP.sp w l H R:=ba [(100008,[])] (by kernel_rfl)
def JP.vc (s:Option hY)(H:aa)(R:Kp ByteArray):Prop:=
 ae s λa=>ld (ab .i64) H (a.add 6) λ(x:Int)=>ae s λc=>st H (c.add 6) (.int .i64 (QI.wrap (x+1))) λH1=>∃G:aa->Prop,G H1/\ae s λd=>dE aN G (d.add 1) λ(b:ByteArray)=>((b.size+(Q4 #[126]).size:Nat):Int)<=9223372036854775807/\ae s λe=>ld (ab .i64) H1 (e.add 6) λ(f:Int)=>K4.sp (QI.wrap (f - 1)) H1 λ(r:ByteArray) g=>G g/\(((b++(Q4 #[126])).size+r.size:Nat):Int)<=9223372036854775807/\R ((b++(Q4 #[126]))++r) g
theorem JP.of:∀{s H R},JP.vc s H R->JP.sp s H R:=ba [] (by kernel_rfl)
def I8.vc (s:Option hY)(k:Int)(to:ByteArray)(H:aa)(R:Kp (Int×Int)):Prop:=
 ae s λa=>ld aq H (a.add 5) λ(x:Sl)=>(0<=k/\k<=(x.c:Int))/\ae s λd=>ld aB H (d.add 0) λ(f:Option hY)=>ae s λg=>ld (ab .i64) H (g.add 2) λ(h:Int)=>Da.sp f (Sl.mk (cM x.a x.c 0 1) (k.toNat - 0) (x.c - 0)) to h H λ(r:(Int×Int)) H1=>ay (Int×Int) (r.2,(0:Int)) H1 λnext z c=>br (decide (z.2<((k.toNat - 0:Nat):Int))) (ae (cM x.a x.c 0 1) λi=>(0<=z.2/\z.2<((k.toNat - 0:Nat):Int))/\ld aN c (i.add (z.2.toNat*1)) λ(name:ByteArray)=>br (z.1==0) (ae s λj=>ld aB c (j.add 0) λ(l:Option hY)=>Lh.sp l name c λ(e:Int) o=>next (e,QI.wrap (z.2+1)) o) (next (z.1,QI.wrap (z.2+1)) c)) (ae s λm=>ld aq c (m.add 5) λ(b:Sl)=>(0<=k/\k<=(b.n:Int))/\ae s λn=>st c (n.add 5) (.slice (cM b.a b.c k.toNat 1) (b.n - k.toNat) (b.c - k.toNat)) λp=>R (r.1,z.1) p)
theorem I8.of:∀{s k to H R},I8.vc s k to H R->I8.sp s k to H R:=ba [(4,[(10,(ab .i64)),(35,(ab .i64))])] (by kernel_rfl)
def LH.vc (s:Sl)(H:aa)(R:Kp Sl):Prop:=
 br s.a.isNone (R (Sl.mk none 0 0) H) (aG H #[] dG λp H1=>bf aq QH (QM #[dV,dV] dV #[.slice (some p) 0 0,s.v]) H1 λ(a:Sl) b=>R a b)
theorem LH.of:∀{s H R},LH.vc s H R->LH.sp s H R:=ba [] (by kernel_rfl)
def J3.vc (width:Int)(H:aa)(R:Kp Int):Prop:=
 br (decide (width<0)) (br (decide (width<0)) (R (0:Int) H) (br (width==0) (R (1:Int) H) (R (QI.wrap ((8:Int)*width)) H))) (br (decide (width>16)) (R (0:Int) H) (br (width==0) (R (1:Int) H) (R (QI.wrap ((8:Int)*width)) H)))
theorem J3.of:∀{width H R},J3.vc width H R->J3.sp width H R:=ba [] (by kernel_rfl)
def Ji.vc (p:Option hY)(name:ByteArray)(width:Int)(H:aa)(R:Kp ((Option hY×ByteArray×Int×Int×Int×Bool)×Int)):Prop:=
 aG H (zc QH sX) sX λc H1=>IE.sp width H1 λ(r:Int) m=>aG m (zc QH sX) sX λf n=>jo QH (Q3 sX (.pointer (some f)) (.agg #[.pointer p,.string name,.int .i64 width,.int .i64 r,.int .i64 0,.bool false])) n λg=>cut Unit (λJ=>br p.isNone (cN (bR [aB,aN,(ab .i64),(ab .i64),(ab .i64),aC]) 6 g f λ(x:(Option hY×ByteArray×Int×Int×Int×Bool))=>jo QH (Q3 sX (.pointer (some c)) (.agg #[.pointer x.1,.string x.2.1,.int .i64 x.2.2.1,.int .i64 x.2.2.2.1,.int .i64 x.2.2.2.2.1,.bool x.2.2.2.2.2])) g λi=>cN (bR [aB,aN,(ab .i64),(ab .i64),(ab .i64),aC]) 6 i c λ(res:(Option hY×ByteArray×Int×Int×Int×Bool))=>R ((res.1,res.2.1,res.2.2.1,res.2.2.2.1,res.2.2.2.2.1,res.2.2.2.2.2),(1:Int)) i) (ld (ab .i64) g (f.add 3) λ(h:Int)=>br (h==0) (cN (bR [aB,aN,(ab .i64),(ab .i64),(ab .i64),aC]) 6 g f λ(d:(Option hY×ByteArray×Int×Int×Int×Bool))=>jo QH (Q3 sX (.pointer (some c)) (.agg #[.pointer d.1,.string d.2.1,.int .i64 d.2.2.1,.int .i64 d.2.2.2.1,.int .i64 d.2.2.2.2.1,.bool d.2.2.2.2.2])) g λj=>cN (bR [aB,aN,(ab .i64),(ab .i64),(ab .i64),aC]) 6 j c λ(a:(Option hY×ByteArray×Int×Int×Int×Bool))=>R ((a.1,a.2.1,a.2.2.1,a.2.2.2.1,a.2.2.2.2.1,a.2.2.2.2.2),(60:Int)) j) (J () g))) λ(_:Unit) k=>cN (bR [aB,aN,(ab .i64),(ab .i64),(ab .i64),aC]) 6 k f λ(e:(Option hY×ByteArray×Int×Int×Int×Bool))=>jo QH (Q3 sX (.pointer (some c)) (.agg #[.pointer e.1,.string e.2.1,.int .i64 e.2.2.1,.int .i64 e.2.2.2.1,.int .i64 e.2.2.2.2.1,.bool e.2.2.2.2.2])) k λl=>cN (bR [aB,aN,(ab .i64),(ab .i64),(ab .i64),aC]) 6 l c λ(b:(Option hY×ByteArray×Int×Int×Int×Bool))=>R ((b.1,b.2.1,b.2.2.1,b.2.2.2.1,b.2.2.2.2.1,b.2.2.2.2.2),(0:Int)) l
theorem Ji.of:∀{p name width H R},Ji.vc p name width H R->Ji.sp p name width H R:=ba [(100006,[])] (by kernel_rfl)
def Jz.vc (p:Option hY)(H:aa)(R:Kp (Option hY)):Prop:=
 br p.isNone (R none H) (ae p λa=>ld aB H (a.add 0) λ(x:Option hY)=>R x H)
theorem Jz.of:∀{p H R},Jz.vc p H R->Jz.sp p H R:=ba [] (by kernel_rfl)
def Lr.vc (d:Option hY)(name:ByteArray)(H:aa)(R:Kp Int):Prop:=
 Ft.sp d H λ(e:Int) H1=>br (e !=0) (R e H1) (ae d λa=>ld cd H1 (a.add 0) λ(x:Option Nat)=>Fs (aW [aB,aC]) QH (Sd AJ (.map x) (.string name) true) H1 λ(f:(Option hY×Bool))=>Jf.sp name H1 λ(r:Bool) c=>br (!r) (R (2:Int) c) (br f.2 (R (10:Int) c) (ae d λg=>ld cd c (g.add 0) λ(h:Option Nat)=>Ct c h λ(n:Nat)=>br ((n:Int)==4096) (R (3:Int) c) (Fg.sp d c λ(b:Int) i=>br (b==0) (ae d λj=>ld cd i (j.add 0) λ(k:Option Nat)=>aG i #[.slice none 0 0,.slice none 0 0,.slice none 0 0] Ew λp l=>jo QH (SZ AJ (.map k) (.string name) (.pointer (some p))) l λm=>R b m) (R b i)))))
theorem Lr.of:∀{d name H R},Lr.vc d name H R->Lr.sp d name H R:=ba [] (by kernel_rfl)
def IS.vc (b:Option hY)(kind:Int)(p:Sl)(H:aa)(R:Kp Int):Prop:=
 ae b λa=>ld aB H (a.add 0) λ(x:Option hY)=>ae b λc=>ld aN H (c.add 1) λ(d:ByteArray)=>LX.sp x d H λ(r:(Int×Int×Int)) H1=>br ((r.2.2==0)&&(kind !=0)) (ae b λf=>ld aB H1 (f.add 0) λ(g:Option hY)=>AW.sp g r.1 kind p H1 λ(e:Int) h=>br (e==0) (ae b λi=>ld aB h (i.add 0) λ(j:Option hY)=>FI.sp j r.1 h λ(k:Int) o=>R k o) (R e h)) (br (r.2.2==0) (ae b λl=>ld aB H1 (l.add 0) λ(m:Option hY)=>FI.sp m r.1 H1 λ(n:Int) q=>R n q) (R r.2.2 H1))
theorem IS.of:∀{b kind p H R},IS.vc b kind p H R->IS.sp b kind p H R:=ba [] (by kernel_rfl)
def LB.vc (h:Option hY)(U:Int)(B:Sl)(C:Option hY)(H:aa)(R:Kp Unit):Prop:=
 aG H #[.int .i64 U,B.v,.pointer C] kC λp H1=>∃G:aa->Prop,G H1/\ae h λa=>dE aq G (a.add 0) λ(x:Sl)=>cN (bR [(ab .i64),aq,aB]) 3 H1 p λ(k:(Int×Sl×Option hY))=>aG H1 #[.int .i64 k.1,k.2.1.v,.pointer k.2.2] kC λD S=>G S/\bf aq QH (QM #[OH,OH] OH #[x.v,.slice (some D) 1 1]) S λ(s:Sl) V=>ae h λE=>st V (E.add 0) s.v λT=>ae h λF=>ld aq T (F.add 0) λ(I:Sl)=>ay Int (QI.wrap ((I.n:Int) - 1)) T λnext i l=>br (decide (i>0)) (ae h λJ=>ld gR l (J.add 1) λ(K:gp)=>ae h λL=>ld aq l (L.add 0) λ(o:Sl)=>ae o.a λM=>(0<=i/\i<(o.n:Int))/\cN (bR [(ab .i64),aq,aB]) 3 l (M.add (i.toNat*3)) λ(m:(Int×Sl×Option hY))=>ae h λN=>ld aq l (N.add 0) λ(q:Sl)=>ae q.a λO=>(0<=(QI.wrap (Rt (QI.wrap (i - 1)) (2:Int)))/\(QI.wrap (Rt (QI.wrap (i - 1)) (2:Int)))<(q.n:Int))/\cN (bR [(ab .i64),aq,aB]) 3 l (O.add ((QI.wrap (Rt (QI.wrap (i - 1)) (2:Int))).toNat*3)) λ(n:(Int×Sl×Option hY))=>Au QH K [(.agg #[.int .i64 m.1,m.2.1.v,.pointer m.2.2]),(.agg #[.int .i64 n.1,n.2.1.v,.pointer n.2.2])] l λ(r:Bool) d=>br (!r) (R () d) (ae h λP=>ld aq d (P.add 0) λ(e:Sl)=>ae h λQ=>ld aq d (Q.add 0) λ(f:Sl)=>ae h λt=>ld aq d (t.add 0) λ(g:Sl)=>ae g.a λu=>(0<=(QI.wrap (Rt (QI.wrap (i - 1)) (2:Int)))/\(QI.wrap (Rt (QI.wrap (i - 1)) (2:Int)))<(g.n:Int))/\cN (bR [(ab .i64),aq,aB]) 3 d (u.add ((QI.wrap (Rt (QI.wrap (i - 1)) (2:Int))).toNat*3)) λ(b:(Int×Sl×Option hY))=>ae h λw=>ld aq d (w.add 0) λ(j:Sl)=>ae j.a λy=>(0<=i/\i<(j.n:Int))/\cN (bR [(ab .i64),aq,aB]) 3 d (y.add (i.toNat*3)) λ(c:(Int×Sl×Option hY))=>ae e.a λz=>(0<=i/\i<(e.n:Int))/\jo QH (Q3 kC (.pointer (some (z.add (i.toNat*3)))) (.agg #[.int .i64 b.1,b.2.1.v,.pointer b.2.2])) d λW=>ae f.a λA=>(0<=(QI.wrap (Rt (QI.wrap (i - 1)) (2:Int)))/\(QI.wrap (Rt (QI.wrap (i - 1)) (2:Int)))<(f.n:Int))/\jo QH (Q3 kC (.pointer (some (A.add ((QI.wrap (Rt (QI.wrap (i - 1)) (2:Int))).toNat*3)))) (.agg #[.int .i64 c.1,c.2.1.v,.pointer c.2.2])) W λX=>next (QI.wrap (Rt (QI.wrap (i - 1)) (2:Int))) X)) (R () l)
theorem LB.of:∀{h c a b H R},LB.vc h c a b H R->LB.sp h c a b H R:=ba [(3,[(4,(ab .i64))])] (by kernel_rfl)
def IP.vc (b:Option hY)(H:aa)(R:Kp Int):Prop:=
 ae b λa=>ld (ab .i64) H (a.add 4) λ(x:Int)=>br (x !=0) (ae b λc=>ld (ab .i64) H (c.add 4) λ(d:Int)=>R d H) (ae b λe=>ld aC H (e.add 5) λ(f:Bool)=>br f (R (2:Int) H) (R (0:Int) H))
theorem IP.of:∀{b H R},IP.vc b H R->IP.sp b H R:=ba [] (by kernel_rfl)
def BY.vc (l:Sl)(H:aa)(R:Kp Sl):Prop:=
 br ((l.n:Int)==0) (aG H #[.int .u8 0] fU λp H1=>R (Sl.mk (some p) 1 1) H1) (bf aq QH (SK eK (.int .i64 0) (.int .i64 (QI.wrap ((8:Int)*(l.n:Int))))) H λ(out:Sl) e=>ay (Sl×Int) (out,(0:Int)) e λnext z d=>br (decide (z.2<(l.n:Int))) (ae l.a λa=>(0<=z.2/\z.2<(l.n:Int))/\ld (ab .u64) d (a.add (z.2.toNat*1)) λ(n:Int)=>L5.sp (zc QH Hi) n d λ(r:Array gp) f=>aG f (zc QH Hi) Hi λc g=>jo QH (Q3 Hi (.pointer (some c)) (.agg r)) g λh=>bf aq QH (QM #[eK,eK] eK #[z.1.v,.slice (cM (some c) 8 0 1) (8 - 0) (8 - 0)]) h λ(b:Sl) i=>next (b,QI.wrap (z.2+1)) i) (R z.1 d))
theorem BY.of:∀{l H R},BY.vc l H R->BY.sp l H R:=ba [(5,[(3,aq),(17,(ab .i64))])] (by kernel_rfl)
def KE.vc (w:Option hY)(H:aa)(R:Kp Int):Prop:=
 ae w λa=>ld (ab .i64) H (a.add 7) λ(x:Int)=>br (x==0) (R (0:Int) H) (ae w λb=>ae w λc=>ld aq H (c.add 6) λ(d:Sl)=>IS.sp (some (b.add 0)) (1:Int) d H λ(e:Int) H1=>ae w λf=>st H1 (f.add 6) (.slice none 0 0) λi=>ae w λg=>st i (g.add 7) (.int .i64 0) λj=>ae w λh=>C8.sp (some (h.add 0)) e j λ(r:Int) k=>R r k)
theorem KE.of:∀{w H R},KE.vc w H R->KE.sp w H R:=ba [] (by kernel_rfl)
def IU.vc (p:Option hY)(name:ByteArray)(page:Int)(H:aa)(R:Kp (Int×Int)):Prop:=
 Fz.sp p H λ(e:Int) H1=>br (e !=0) (R ((0:Int),e) H1) (aG H1 (zc QH yn) yn λb l=>jo QH (Q3 yn (.pointer (some b)) (.agg #[.string name,.int .i64 page])) l λd=>ae p λa=>ld cd d (a.add 2) λ(x:Option Nat)=>cN (bR [aN,(ab .i64)]) 2 d b λ(f:(ByteArray×Int))=>Fs (aW [aB,aC]) QH (Sd zv (.map x) (.agg #[.string f.1,.int .i64 f.2]) true) d λ(g:(Option hY×Bool))=>br g.2 (HF.sp p g.1 d λ(r:Int) m=>R (r,(0:Int)) m) (cN (bR [aN,(ab .i64)]) 2 d b λ(h:(ByteArray×Int))=>Lt.sp p h.1 h.2 d λ(c:(Option hY×Int)) k=>br (c.2!=0) (wJ.sp p c.2 k λ(i:Int) n=>R ((0:Int),i) n) (EX.sp p c.1 k λ(j:Int) o=>R (j,(0:Int)) o)))
theorem IU.of:∀{p name page H R},IU.vc p name page H R->IU.sp p name page H R:=ba [] (by kernel_rfl)
def AW.vc (p:Option hY)(h kind:Int)(b:Sl)(H:aa)(R:Kp Int):Prop:=
 IC.sp p h H λ(r:(Option hY×Int)) H1=>br (r.2!=0) (R r.2 H1) (br (decide ((b.n:Int)>504)) (R (2:Int) H1) (Fy.sp b H1 λ(c:Sl) f=>ae r.1 λa=>st f (a.add 2) (.int .u8 kind) λg=>ae r.1 λd=>st g (d.add 3) c.v λi=>ae r.1 λe=>st i (e.add 4) (.bool true) λj=>R (0:Int) j))
theorem AW.of:∀{p h kind b H R},AW.vc p h kind b H R->AW.sp p h kind b H R:=ba [] (by kernel_rfl)
def FI.vc (p:Option hY)(h:Int)(H:aa)(R:Kp Int):Prop:=
 IC.sp p h H λ(r:(Option hY×Int)) H1=>br (r.2!=0) (R r.2 H1) (ae p λa=>ld cd H1 (a.add 3) λ(x:Option Nat)=>bf gR QH (Sj #[Oc,jm] BN #[.map x,.int .i64 h]) H1 λ(_:gp) m=>ae p λb=>ld (ab .i64) m (b.add 5) λ(c:Int)=>ae p λd=>st m (d.add 5) (.int .i64 (QI.wrap (c+1))) λe=>ae r.1 λf=>ld (ab .i64) e (f.add 5) λ(g:Int)=>ae p λi=>ld (ab .i64) e (i.add 5) λ(j:Int)=>ae r.1 λk=>st e (k.add 5) (.int .i64 (QI.wrap (g - 1))) λn=>ae r.1 λl=>st n (l.add 6) (.int .i64 j) λo=>R (0:Int) o)
theorem FI.of:∀{p h H R},FI.vc p h H R->FI.sp p h H R:=ba [] (by kernel_rfl)
def Kv.vc (p:Option hY)(name:ByteArray)(H:aa)(R:Kp Int):Prop:=
 Fz.sp p H λ(e:Int) H1=>br (e !=0) (R e H1) (ae p λa=>ld aB H1 (a.add 0) λ(x:Option hY)=>FD.sp x name H1 λ(r:(Int×Int)) q=>br (r.2!=0) (wJ.sp p r.2 q λ(g:Int) t=>R g t) (KD.sp p name q λ(b:Sl) u=>ay Int 0 u λnext z c=>br (decide (z<(b.n:Int))) (ae b.a λh=>(0<=z/\z<(b.n:Int))/\ld aB c (h.add (z.toNat*1)) λ(f:Option hY)=>ae f λi=>ld aC c (i.add 4) λ(j:Bool)=>br (!j) (next (QI.wrap (z+1)) c) (Fx.sp p f c λ(d:Int) s=>br (d !=0) (wJ.sp p d s λ(k:Int) v=>R k v) (next (QI.wrap (z+1)) s))) (ae p λl=>ld aB c (l.add 0) λ(m:Option hY)=>La.sp m name c λ(n:Int) w=>wJ.sp p n w λ(o:Int) y=>R o y)))
theorem Kv.of:∀{p name H R},Kv.vc p name H R->Kv.sp p name H R:=ba [(8,[(34,(ab .i64))])] (by kernel_rfl)
def C8.vc (b:Option hY)(e:Int)(H:aa)(R:Kp Int):Prop:=
 br (e !=0) (ae b λa=>st H (a.add 4) (.int .i64 e) λH1=>R e H1) (R e H)
theorem C8.of:∀{b e H R},C8.vc b e H R->C8.sp b e H R:=ba [] (by kernel_rfl)
def LC.vc (s:Sl)(H:aa)(R:Kp Sl):Prop:=
 br (decide ((s.n:Int)<2)) (R s H) (ay Int 1 H λnext k H1=>br (decide (k<(s.n:Int))) (ae s.a λa=>(0<=k/\k<(s.n:Int))/\ld aq H1 (a.add (k.toNat*1)) λ(x:Sl)=>ae s.a λd=>(0<=(QI.wrap (k - 1))/\(QI.wrap (k - 1))<(s.n:Int))/\ld aq H1 (d.add ((QI.wrap (k - 1)).toNat*1)) λ(e:Sl)=>Hf.sp x e H1 λ(r:Bool) p=>br r ((0<=k/\k<=(s.n:Int))/\ay (Int×Int) (k,(1:Int)) p λb z c=>br (decide (z.2<((s.n - k.toNat:Nat):Int))) (ae (cM s.a s.c k.toNat 1) λf=>(0<=z.2/\z.2<((s.n - k.toNat:Nat):Int))/\ld aq c (f.add (z.2.toNat*1)) λ(g:Sl)=>ae (cM s.a s.c k.toNat 1) λh=>(0<=(QI.wrap (z.2 - 1))/\(QI.wrap (z.2 - 1))<((s.n - k.toNat:Nat):Int))/\ld aq c (h.add ((QI.wrap (z.2 - 1)).toNat*1)) λ(i:Sl)=>Hf.sp g i c λ(j:Bool) l=>br (!j) (ae (cM s.a s.c k.toNat 1) λm=>(0<=z.2/\z.2<((s.n - k.toNat:Nat):Int))/\ld aq l (m.add (z.2.toNat*1)) λ(n:Sl)=>ae s.a λo=>(0<=z.1/\z.1<(s.n:Int))/\st l (o.add (z.1.toNat*1)) n.v λq=>b (QI.wrap (z.1+1),QI.wrap (z.2+1)) q) (b (z.1,QI.wrap (z.2+1)) l)) ((0<=z.1/\z.1<=(s.n:Int))/\bf gR QH (VY #[dY] BN #[.slice (cM s.a s.c z.1.toNat 1) (s.n - z.1.toNat) (s.c - z.1.toNat)]) c λ(_:gp) t=>(0<=z.1/\z.1<=(s.c:Int))/\R (Sl.mk (cM s.a s.c 0 1) (z.1.toNat - 0) (s.c - 0)) t)) (next (QI.wrap (k+1)) p)) (R s H1))
theorem LC.of:∀{s H R},LC.vc s H R->LC.sp s H R:=ba [(4,[(5,(ab .i64))]),(9,[(5,(ab .i64)),(7,(ab .i64))])] (by kernel_rfl)
def Hf.vc (a b:Sl)(H:aa)(R:Kp Bool):Prop:=
 wU.sp a b H λ(r:Int) H1=>R (r==0) H1
theorem Hf.of:∀{a b H R},Hf.vc a b H R->Hf.sp a b H R:=ba [] (by kernel_rfl)
def KB.vc (b:Option hY)(page:Int)(H:aa)(R:Kp (Int×Sl×Int)):Prop:=
 ae b λa=>ld aB H (a.add 0) λ(x:Option hY)=>ae b λd=>ld aN H (d.add 1) λ(f:ByteArray)=>IU.sp x f page H λ(r:(Int×Int)) H1=>br (r.2!=0) (R ((0:Int),(Sl.mk none 0 0),r.2) H1) (ae b λg=>ld aB H1 (g.add 0) λ(h:Option hY)=>Mi.sp h r.1 H1 λ(c:(Int×Sl×Int)) i=>br (c.2.2==0) (ae b λj=>ld aB i (j.add 0) λ(k:Option hY)=>FI.sp k r.1 i λ(e:Int) l=>R (c.1,c.2.1,e) l) (R (c.1,c.2.1,c.2.2) i))
theorem KB.of:∀{b page H R},KB.vc b page H R->KB.sp b page H R:=ba [] (by kernel_rfl)
def FD.vc (d:Option hY)(name:ByteArray)(H:aa)(R:Kp (Int×Int)):Prop:=
 FJ.sp d name H λ(r:(Option hY×Int)) H1=>br (r.2!=0) (R ((0:Int),r.2) H1) (ae r.1 λa=>ld aq H1 (a.add 0) λ(x:Sl)=>R ((x.n:Int),(0:Int)) H1)
theorem FD.of:∀{d name H R},FD.vc d name H R->FD.sp d name H R:=ba [] (by kernel_rfl)
def IQ.vc (b:Sl)(width:Int)(H:aa)(R:Kp (Sl×Int)):Prop:=
 aG H #[.int .i64 width] jm λp H1=>aG H1 (zc QH dY) dY λe H2=>aG H2 (zc QH Nr) Nr λf H3=>ld (ab .i64) H3 p λ(x:Int)=>J3.sp x H3 λ(n:Int) L=>br (n==0) (st L e (.slice none 0 0) λH5=>st H5 f (.int .i64 60) λM=>ld aq M e λ(res:Sl)=>ld (ab .i64) M f λ(t:Int)=>R (res,t) M) (n≠0/\br ((RP (b.n:Int) n)!=0) (st L e (.slice none 0 0) λH7=>st H7 f (.int .i64 60) λN=>ld aq N e λ(u:Sl)=>ld (ab .i64) N f λ(v:Int)=>R (u,v) N) (n≠0/\bf aq QH (SK dY (.int .i64 0) (.int .i64 (QI.wrap (Rt (b.n:Int) n)))) L λ(sl:Sl) H9=>aG H9 (zc QH dY) dY λj O=>st O j sl.v λP=>Lv.sp b n P λ(r:gp) Q=>qc QH r Q (λl rec vs h KK=>ji (du.dec [aq] vs) λ(z:Sl)=>h[l]?=some (.loop (rec .ready none))/\cut Unit (λJ=>ld (ab .i64) (h.setIfInBounds l (.loop (rec .busy none))) p λ(S:Int)=>br (S==0) (ae z.a λa=>(0<=(0:Int)/\(0:Int)<(z.n:Int))/\ld (ab .u8) (h.setIfInBounds l (.loop (rec .busy none))) (a.add ((0:Int).toNat*1)) λ(T:Int)=>br (T !=0) (st (h.setIfInBounds l (.loop (rec .busy none))) e (.slice none 0 0) λU=>st U f (.int .i64 60) λE=>E[l]?=some (.loop (rec .busy none))/\KK false (E.setIfInBounds l (.loop (rec .done (some .ret))))) (J () (h.setIfInBounds l (.loop (rec .busy none))))) (J () (h.setIfInBounds l (.loop (rec .busy none))))) λ(_:Unit) F=>ld (ab .i64) F p λ(G:Int)=>bf aq QH (SK dv (.int .i64 G) (.int .i64 G)) F λ(k:Sl) I=>ld (ab .i64) I p λ(V:Int)=>ay Int 0 I λnext d m=>br (decide (d<(QI.wrap ((8:Int)*V)))) (ae k.a λW=>(0<=(QI.wrap (Rt d (8:Int)))/\(QI.wrap (Rt d (8:Int)))<(k.n:Int))/\ld (ab .u64) m (W.add ((QI.wrap (Rt d (8:Int))).toNat*1)) λ(X:Int)=>ae z.a λY=>(0<=d/\d<(z.n:Int))/\ld (ab .u8) m (Y.add (d.toNat*1)) λ(Z:Int)=>ae k.a λaf=>(0<=(QI.wrap (Rt d (8:Int)))/\(QI.wrap (Rt d (8:Int)))<(k.n:Int))/\st m (af.add ((QI.wrap (Rt d (8:Int))).toNat*1)) (.int .u64 (AN .u64 (lW .u64 X (8:Int)) (Rj.wrap Z))) λal=>next (QI.wrap (d+1)) al) (ld aq m j λ(an:Sl)=>aG m #[k.v] dv λa1 a6=>bf aq QH (QM #[dY,dY] dY #[an.v,.slice (some a1) 1 1]) a6 λ(s:Sl) a7=>st a7 j s.v λK=>K[l]?=some (.loop (rec .busy none))/\KK true (K.setIfInBounds l (.loop (rec .ready none))))) (λc g=>ld aq g j λ(a8:Sl)=>st g e a8.v λbb=>st bb f (.int .i64 0) λo=>o[c]?=some (.deferred (some []))/\ld aq (o.setIfInBounds c (.deferred none)) e λ(w:Sl)=>ld (ab .i64) (o.setIfInBounds c (.deferred none)) f λ(y:Int)=>R (w,y) (o.setIfInBounds c (.deferred none))) (λi c g=>bif Rh i 0 then ld aq g j λ(bd:Sl)=>st g e bd.v λbh=>st bh f (.int .i64 0) λq=>q[c]?=some (.deferred (some []))/\ld aq (q.setIfInBounds c (.deferred none)) e λ(A:Sl)=>ld (ab .i64) (q.setIfInBounds c (.deferred none)) f λ(B:Int)=>R (A,B) (q.setIfInBounds c (.deferred none)) else False) (λc g=>g[c]?=some (.deferred (some []))/\ld aq (g.setIfInBounds c (.deferred none)) e λ(C:Sl)=>ld (ab .i64) (g.setIfInBounds c (.deferred none)) f λ(D:Int)=>R (C,D) (g.setIfInBounds c (.deferred none)))))
theorem IQ.of:∀{b width H R},IQ.vc b width H R->IQ.sp b width H R:=ba [(200007,[(30,aq)]),(100009,[]),(11,[(43,(ab .i64))])] (by kernel_rfl)
def KZ.vc (b:Option hY)(n:Int)(H:aa)(R:Kp Int):Prop:=
 ae b λa=>ld (ab .i64) H (a.add 3) λ(x:Int)=>ae b λd=>ld (ab .i64) H (d.add 3) λ(c:Int)=>c≠0/\R (QI.wrap (Rt (QI.wrap ((QI.wrap (n+x)) - 1)) c)) H
theorem KZ.of:∀{b n H R},KZ.vc b n H R->KZ.sp b n H R:=ba [] (by kernel_rfl)
def Ld.vc (r:Option hY)(k:Int)(H:aa)(R:Kp Int):Prop:=
 ae r λa=>ld (ab .i64) H (a.add 8) λ(x:Int)=>br (x==k) (R (0:Int) H) (ae r λi=>KB.sp (some (i.add 0)) (QI.wrap (k+1)) H λ(b:(Int×Sl×Int)) H1=>br (b.2.2!=0) (ae r λj=>C8.sp (some (j.add 0)) b.2.2 H1 λ(l:Int) A=>R l A) (ae r λm=>ld (ab .i64) H1 ((m.add 0).add 2) λ(o:Int)=>IQ.sp b.2.1 o H1 λ(c:(Sl×Int)) d=>br ((b.1!=1)||(c.2!=0)) (ae r λp=>C8.sp (some (p.add 0)) (280:Int) d λ(q:Int) B=>R q B) (ae r λs=>ld (ab .i64) d ((s.add 0).add 3) λ(e:Int)=>ae r λt=>ld (ab .i64) d (t.add 6) λ(f:Int)=>ae r λu=>ld (ab .i64) d ((u.add 0).add 3) λ(g:Int)=>br ((c.1.n:Int)!=(if (QI.wrap (f - (QI.wrap (k*g))))<e then (QI.wrap (f - (QI.wrap (k*g)))) else e)) (ae r λw=>C8.sp (some (w.add 0)) (280:Int) d λ(y:Int) C=>R y C) (ae r λz=>st d (z.add 8) (.int .i64 k) λD=>ae r λh=>st D (h.add 9) c.1.v λE=>R (0:Int) E))))
theorem Ld.of:∀{r k H R},Ld.vc r k H R->Ld.sp r k H R:=ba [] (by kernel_rfl)
def Ft.vc (d:Option hY)(H:aa)(R:Kp Int):Prop:=
 br d.isNone (R (1:Int) H) (ae d λa=>ld aC H (a.add 9) λ(x:Bool)=>br x (R (4:Int) H) (R (0:Int) H))
theorem Ft.of:∀{d H R},Ft.vc d H R->Ft.sp d H R:=ba [] (by kernel_rfl)
def MP.vc (seq:gp)(H:aa)(R:Kp Sl):Prop:=
 Mt.sp seq H λ(s:Sl) H1=>Pb.sp s H1 λ(_:Unit) a=>R s a
theorem MP.of:∀{seq H R},MP.vc seq H R->MP.sp seq H R:=ba [] (by kernel_rfl)
def Nt.vc (m:Option Nat)(H:aa)(R:Kp gp):Prop:=
 aG H #[.map m] AJ λp H1=>R (.func (.func G3.no) #[] #[.pointer (some p)]) H1
theorem Nt.of:∀{m H R},Nt.vc m H R->Nt.sp m H R:=ba [] (by kernel_rfl)
def I3.vc (x:Int)(H:aa)(R:Kp Bool):Prop:=
 R (x !=x) H
theorem I3.of:∀{x H R},I3.vc x H R->I3.sp x H R:=ba [] (by kernel_rfl)
def KV.vc (width:Int)(H:aa)(R:Kp Int):Prop:=
 br ((decide (width<0))||(decide (width>16))) (R (0:Int) H) (R (if (QI.wrap ((8:Int)*width))>1 then (QI.wrap ((8:Int)*width)) else (1:Int)) H)
theorem KV.of:∀{width H R},KV.vc width H R->KV.sp width H R:=ba [] (by kernel_rfl)
def Fo.vc (s:Sl)(H:aa)(R:Kp Sl):Prop:=
 br s.a.isNone (R (Sl.mk none 0 0) H) (bf aq QH (R2 J5 0 #[]) H λ(sl:Sl) H1=>bf aq QH (QM #[J5,J5] J5 #[sl.v,s.v]) H1 λ(a:Sl) b=>R a b)
theorem Fo.of:∀{s H R},Fo.vc s H R->Fo.sp s H R:=ba [] (by kernel_rfl)
def Ks.vc (x:Sl)(target:Int)(H:aa)(R:Kp (Int×Bool)):Prop:=
 ay (Int×Int) ((0:Int),(x.n:Int)) H λnext z H1=>br (decide (z.1<z.2)) (ae x.a λa=>(0<=(QI.wrap (dQ .u64 (Rj.wrap (QI.wrap (z.1+z.2))) (1:Int)))/\(QI.wrap (dQ .u64 (Rj.wrap (QI.wrap (z.1+z.2))) (1:Int)))<(x.n:Int))/\ld (ab .i64) H1 (a.add ((QI.wrap (dQ .u64 (Rj.wrap (QI.wrap (z.1+z.2))) (1:Int))).toNat*1)) λ(b:Int)=>LJ.sp b target H1 λ(r:Bool) i=>br r (next (QI.wrap ((QI.wrap (dQ .u64 (Rj.wrap (QI.wrap (z.1+z.2))) (1:Int)))+1),z.2) i) (next (z.1,QI.wrap (dQ .u64 (Rj.wrap (QI.wrap (z.1+z.2))) (1:Int))) i)) (br (decide (z.1<(x.n:Int))) (ae x.a λc=>(0<=z.1/\z.1<(x.n:Int))/\ld (ab .i64) H1 (c.add (z.1.toNat*1)) λ(d:Int)=>br (d==target) (R (z.1,true) H1) (ae x.a λe=>(0<=z.1/\z.1<(x.n:Int))/\ld (ab .i64) H1 (e.add (z.1.toNat*1)) λ(f:Int)=>JT.sp f H1 λ(g:Bool) j=>br g (JT.sp target j λ(h:Bool) k=>R (z.1,h) k) (R (z.1,false) j))) (R (z.1,false) H1))
theorem Ks.of:∀{x target H R},Ks.vc x target H R->Ks.sp x target H R:=ba [(3,[(7,(ab .i64)),(8,(ab .i64))])] (by kernel_rfl)
def IG.vc (l:Sl)(page:Int)(b:Array gp)(H:aa)(R:Kp Sl):Prop:=
 aG H b vX λp H1=>ay Sl l H1 λnext c d=>br (decide ((c.n:Int)<=page)) (bf aq QH (R2 J5 1 #[(0,(.agg (zc QH vX)))]) d λ(sl:Sl) f=>bf aq QH (QM #[J5,J5] J5 #[c.v,sl.v]) f λ(e:Sl) g=>next e g) (cN ku 512 d p λ(x:Array gp)=>ae c.a λa=>(0<=page/\page<(c.n:Int))/\jo QH (Q3 vX (.pointer (some (a.add (page.toNat*512)))) (.agg x)) d λh=>R c h)
theorem IG.of:∀{l page b H R},IG.vc l page b H R->IG.sp l page b H R:=ba [(1,[(0,aq)])] (by kernel_rfl)
def Mk.vc (d:Option hY)(no:Int)(H:aa)(R:Kp Int):Prop:=
 ay (Int×Int) ((0:Int),(0:Int)) H λnext z H1=>ae d λa=>ld aq H1 (a.add 0) λ(x:Sl)=>br (decide (z.2<(x.n:Int))) (ay (Int×Int) (z.1,(0:Int)) H1 λc b e=>ae d λi=>ld aq e (i.add 0) λ(f:Sl)=>ae f.a λj=>(0<=z.2/\z.2<(f.n:Int))/\ld aq e ((j.add (z.2.toNat*3)).add 2) λ(k:Sl)=>br (decide (b.2<(k.n:Int))) (ae d λl=>ld aq e (l.add 0) λ(g:Sl)=>ae g.a λm=>(0<=z.2/\z.2<(g.n:Int))/\ld aq e ((m.add (z.2.toNat*3)).add 2) λ(h:Sl)=>ae h.a λn=>(0<=b.2/\b.2<(h.n:Int))/\ld (ab .i64) e ((n.add (b.2.toNat*3)).add 0) λ(o:Int)=>br (decide (o<no)) (c (QI.wrap (b.1+1),QI.wrap (b.2+1)) e) (c (b.1,QI.wrap (b.2+1)) e)) (next (b.1,QI.wrap (z.2+1)) e)) (R z.1 H1)
theorem Mk.of:∀{d no H R},Mk.vc d no H R->Mk.sp d no H R:=ba [(3,[(5,(ab .i64)),(6,(ab .i64))]),(6,[(5,(ab .i64)),(7,(ab .i64))])] (by kernel_rfl)
def KP.vc (l:Sl)(k f:Int)(g:ByteArray)(H:aa)(R:Kp Sl):Prop:=
 aG H #[.int .i64 k,.int .i64 f,.string g] AO λp H1=>bf aq QH (QM #[dV,dV] dV #[.slice none 0 0,l.v]) H1 λ(out:Sl) m=>ay Sl out m λnext b e=>ld (ab .i64) e (p.add 1) λ(x:Int)=>br (decide ((b.n:Int)<=x)) (bf aq QH (SK eK (.int .i64 512) (.int .i64 512)) e λ(sl:Sl) j=>xw j sl.a sl.n λ(str:ByteArray)=>aG j #[.string str] dG λh n=>bf aq QH (QM #[dV,dV] dV #[b.v,.slice (some h) 1 1]) n λ(c:Sl) o=>next c o) (ld (ab .i64) e (p.add 1) λ(d:Int)=>ld aN e (p.add 2) λ(i:ByteArray)=>ae b.a λa=>(0<=d/\d<(b.n:Int))/\st e (a.add (d.toNat*1)) (.string i) λq=>R b q)
theorem KP.of:∀{l c a b H R},KP.vc l c a b H R->KP.sp l c a b H R:=ba [(3,[(5,aq)])] (by kernel_rfl)
def CD.vc (d:Option hY)(name:ByteArray)(H:aa)(R:Kp Int):Prop:=
 ay Int 0 H λnext i H1=>ae d λa=>ld aq H1 (a.add 0) λ(x:Sl)=>br (decide (i<(x.n:Int))) (ae d λc=>ld aq H1 (c.add 0) λ(b:Sl)=>ae b.a λe=>(0<=i/\i<(b.n:Int))/\ld aN H1 ((e.add (i.toNat*3)).add 0) λ(f:ByteArray)=>br (f.toList==name.toList) (R i H1) (next (QI.wrap (i+1)) H1)) (R (-1:Int) H1)
theorem CD.of:∀{d name H R},CD.vc d name H R->CD.sp d name H R:=ba [(2,[(5,(ab .i64))])] (by kernel_rfl)
def FC.vc (i:ByteArray)(e f:Sl)(H:aa)(R:Kp Sl):Prop:=
 aG H #[.string i,e.v,f.v] vD λp H1=>ld aq H1 (p.add 1) λ(x:Sl)=>bf aq QH (QM #[dV,dV] dV #[.slice none 0 0,x.v]) H1 λ(l:Sl) j=>ay (Sl×Int) (l,(0:Int)) j λnext z c=>ld aq c (p.add 2) λ(g:Sl)=>br (decide (z.2<(g.n:Int))) (ld aq c (p.add 2) λ(d:Sl)=>ae d.a λa=>(0<=z.2/\z.2<(d.n:Int))/\cN (bR [(ab .i64),(ab .i64),aN]) 3 c (a.add (z.2.toNat*3)) λ(b:(Int×Int×ByteArray))=>KP.sp z.1 b.1 b.2.1 b.2.2 c λ(h:Sl) k=>next (h,QI.wrap (z.2+1)) k) (R z.1 c)
theorem FC.of:∀{c a b H R},FC.vc c a b H R->FC.sp c a b H R:=ba [(4,[(3,aq),(4,(ab .i64))])] (by kernel_rfl)
def FJ.vc (d:Option hY)(name:ByteArray)(H:aa)(R:Kp (Option hY×Int)):Prop:=
 Ft.sp d H λ(e:Int) H1=>br (e !=0) (R (none,e) H1) (ae d λa=>ld cd H1 (a.add 0) λ(x:Option Nat)=>Fs (aW [aB,aC]) QH (Sd AJ (.map x) (.string name) true) H1 λ(b:(Option hY×Bool))=>br b.2 (R (b.1,(0:Int)) H1) (R (none,(11:Int)) H1))
theorem FJ.of:∀{d name H R},FJ.vc d name H R->FJ.sp d name H R:=ba [] (by kernel_rfl)
def Fy.vc (s:Sl)(H:aa)(R:Kp Sl):Prop:=
 br s.a.isNone (R (Sl.mk none 0 0) H) (aG H #[] fU λp H1=>bf aq QH (QM #[eK,eK] eK #[.slice (some p) 0 0,s.v]) H1 λ(a:Sl) b=>R a b)
theorem Fy.of:∀{s H R},Fy.vc s H R->Fy.sp s H R:=ba [] (by kernel_rfl)
def JH.vc (s:Option hY)(H:aa)(R:Kp ByteArray):Prop:=
 ae s λa=>ld (ab .i64) H (a.add 6) λ(x:Int)=>ae s λc=>st H (c.add 6) (.int .i64 (QI.wrap (x+1))) λH1=>∃G:aa->Prop,G H1/\ae s λd=>dE aN G (d.add 1) λ(b:ByteArray)=>((b.size+(Q4 #[126]).size:Nat):Int)<=9223372036854775807/\ae s λe=>ld (ab .i64) H1 (e.add 6) λ(f:Int)=>Hq.sp (QI.wrap (f - 1)) H1 λ(r:ByteArray) g=>G g/\(((b++(Q4 #[126])).size+r.size:Nat):Int)<=9223372036854775807/\R ((b++(Q4 #[126]))++r) g
theorem JH.of:∀{s H R},JH.vc s H R->JH.sp s H R:=ba [] (by kernel_rfl)
def LS.vc (p:Option hY)(name:ByteArray)(width:Int)(rows:Sl)(H:aa)(R:Kp Int):Prop:=
 J0.sp p name width H λ(r:(Option hY×Int)) H1=>ay (Int×Int) (r.2,(0:Int)) H1 λnext z b=>br ((decide (z.2<(rows.n:Int)))&&(z.1==0)) (ae rows.a λa=>(0<=z.2/\z.2<(rows.n:Int))/\ld aq b (a.add (z.2.toNat*1)) λ(x:Sl)=>CP.sp r.1 x b λ(e:Int) d=>next (e,QI.wrap (z.2+1)) d) (br (z.1==0) (I0.sp r.1 b λ(c:(Int×Int)) f=>R c.2 f) (R z.1 b))
theorem LS.of:∀{p name width rows H R},LS.vc p name width rows H R->LS.sp p name width rows H R:=ba [(3,[(10,(ab .i64)),(11,(ab .i64))])] (by kernel_rfl)
def Lc.vc (rows:Sl)(H:aa)(R:Kp Sl):Prop:=
 ay (Sl×Int) ((Sl.mk none 0 0),(0:Int)) H λnext z H1=>br (decide (z.2<(rows.n:Int))) (ae rows.a λa=>(0<=z.2/\z.2<(rows.n:Int))/\ld aq H1 (a.add (z.2.toNat*1)) λ(x:Sl)=>LD.sp z.1 x H1 λ(out:Sl) b=>next (out,QI.wrap (z.2+1)) b) (R z.1 H1)
theorem Lc.of:∀{rows H R},Lc.vc rows H R->Lc.sp rows H R:=ba [(3,[(3,aq),(4,(ab .i64))])] (by kernel_rfl)
def KY.vc (s:Option hY)(H:aa)(R:Kp (Int×Int)):Prop:=
 cut Unit (λJ=>ae s λa=>ld aq H (a.add 4) λ(x:Sl)=>br (decide ((x.n:Int)>0)) (HZ.sp s H λ(e:Int) H2=>br (e !=0) (R ((0:Int),e) H2) (J () H2)) (ae s λL=>ld aq H (L.add 5) λ(M:Sl)=>br ((M.n:Int)==0) (HZ.sp s H λ(j:Int) H3=>br (j !=0) (R ((0:Int),j) H3) (J () H3)) (J () H))) λ(_:Unit) H1=>ay Unit () H1 λnext _ d=>ae s λN=>ld aq d (N.add 5) λ(O:Sl)=>ae s λP=>ld (ab .i64) d (P.add 3) λ(Q:Int)=>br (decide ((O.n:Int)>=Q)) (ae s λS=>ld aq d (S.add 5) λ(f:Sl)=>ae s λT=>ld (ab .i64) d (T.add 3) λ(g:Int)=>(0<=(QI.wrap (g - 1))/\(QI.wrap (g - 1))<=(f.c:Int))/\bf aq QH (QM #[dV,dV] dV #[.slice none 0 0,(.slice (cM f.a f.c 0 1) (((QI.wrap (g - 1)).toNat) - 0) (f.c - 0))]) d λ(first:Sl) H5=>JH.sp s H5 λ(name:ByteArray) U=>ae s λV=>ld aB U (V.add 0) λ(W:Option hY)=>ae s λX=>ld (ab .i64) U (X.add 2) λ(Y:Int)=>G7.sp W first name Y U λ(r:(Int×Int)) H7=>cut Int (λk=>br (r.2==0) (Jm.sp s first H7 λ(Z:Int) H9=>k Z H9) (k r.2 H7)) λ(l:Int) K=>br (l !=0) (R ((0:Int),l) K) (ae s λaf=>ld aq K (af.add 5) λ(b:Sl)=>ae s λal=>ld (ab .i64) K (al.add 3) λ(c:Int)=>(0<=(QI.wrap (c - 1))/\(QI.wrap (c - 1))<=(b.n:Int))/\ae s λm=>st K (m.add 5) (.slice (cM b.a b.c ((QI.wrap (c - 1)).toNat) 1) (b.n - ((QI.wrap (c - 1)).toNat)) (b.c - ((QI.wrap (c - 1)).toNat))) λn=>ae s λo=>ld aq n (o.add 5) λ(q:Sl)=>aG n #[.string name] dG λp an=>bf aq QH (QM #[dV,dV] dV #[q.v,.slice (some p) 1 1]) an λ(a1:Sl) a6=>ae s λt=>st a6 (t.add 5) a1.v λa7=>next () a7)) (ae s λu=>ld aB d (u.add 0) λ(v:Option hY)=>ae s λw=>ld aq d (w.add 5) λ(y:Sl)=>ae s λz=>ld aN d (z.add 1) λ(A:ByteArray)=>ae s λB=>ld (ab .i64) d (B.add 2) λ(C:Int)=>G7.sp v y A C d λ(h:(Int×Int)) i=>cut Int (λD=>br (h.2==0) (ae s λE=>ld aq i (E.add 5) λ(F:Sl)=>Jm.sp s F i λ(a8:Int) bb=>D a8 bb) (D h.2 i)) λ(G:Int) I=>br (G !=0) (R ((0:Int),G) I) (R (h.1,(0:Int)) I))
theorem KY.of:∀{s H R},KY.vc s H R->KY.sp s H R:=ba [(100005,[]),(5,[]),(100012,[(8,(ab .i64))]),(100019,[(10,(ab .i64))])] (by kernel_rfl)
def I2.vc (b:Option hY)(page:Int)(H:aa)(R:Kp (Int×Sl×Int)):Prop:=
 ae b λa=>ld aB H (a.add 0) λ(x:Option hY)=>ae b λd=>ld aN H (d.add 1) λ(e:ByteArray)=>Jt.sp x e page H λ(r:(Int×Int)) H1=>br (r.2!=0) (R ((0:Int),(Sl.mk none 0 0),r.2) H1) (ae b λf=>ld aB H1 (f.add 0) λ(g:Option hY)=>Mg.sp g r.1 H1 λ(c:(Int×Sl×Int)) h=>br (c.2.2!=0) (R ((0:Int),(Sl.mk none 0 0),c.2.2) h) (ae b λi=>ld aB h (i.add 0) λ(j:Option hY)=>GC.sp j r.1 h λ(k:Int) l=>R (c.1,c.2.1,k) l))
theorem I2.of:∀{b page H R},I2.vc b page H R->I2.sp b page H R:=ba [] (by kernel_rfl)
def JG.vc (b:Sl)(width:Int)(H:aa)(R:Kp (Sl×Int)):Prop:=
 KV.sp width H λ(n:Int) H1=>br (n==0) (R ((Sl.mk none 0 0),(60:Int)) H1) (n≠0/\br ((RP (b.n:Int) n)!=0) (R ((Sl.mk none 0 0),(60:Int)) H1) (ay (Sl×Int) ((Sl.mk none 0 0),(0:Int)) H1 λnext z g=>br (decide (z.2<(b.n:Int))) (cut Unit (λJ=>br (width==0) (ae b.a λa=>(0<=z.2/\z.2<(b.n:Int))/\ld (ab .u8) g (a.add (z.2.toNat*1)) λ(x:Int)=>br (x !=0) (R ((Sl.mk none 0 0),(60:Int)) g) (J () g)) (J () g)) λ(_:Unit) o=>ay (Sl×Int) ((Sl.mk none 0 0),(0:Int)) o λe c m=>br (decide (c.2<width)) (ay (Int×Int) ((0:Int),(0:Int)) m λf d h=>br (decide (d.2<8)) (ae b.a λi=>(0<=(QI.wrap ((QI.wrap (z.2+(QI.wrap ((8:Int)*c.2))))+d.2))/\(QI.wrap ((QI.wrap (z.2+(QI.wrap ((8:Int)*c.2))))+d.2))<(b.n:Int))/\ld (ab .u8) h (i.add ((QI.wrap ((QI.wrap (z.2+(QI.wrap ((8:Int)*c.2))))+d.2)).toNat*1)) λ(j:Int)=>f (Rj.wrap ((Rj.wrap (d.1*256))+(Rj.wrap j)),QI.wrap (d.2+1)) h) (aG h #[.int .u64 d.1] fM λp q=>bf aq QH (QM #[dv,dv] dv #[c.1.v,.slice (some p) 1 1]) q λ(l:Sl) r=>e (l,QI.wrap (c.2+1)) r)) (aG m #[c.1.v] dv λk s=>bf aq QH (QM #[dY,dY] dY #[z.1.v,.slice (some k) 1 1]) s λ(out:Sl) t=>next (out,QI.wrap (z.2+n)) t)) (R (z.1,(0:Int)) g)))
theorem JG.of:∀{b width H R},JG.vc b width H R->JG.sp b width H R:=ba [(6,[(7,aq),(8,(ab .i64))]),(100011,[]),(12,[(9,aq),(10,(ab .i64))]),(16,[(11,(ab .u64)),(12,(ab .i64))])] (by kernel_rfl)
def Lg.vc (n room:Int)(H:aa)(R:Kp Int):Prop:=
 room≠0/\R (QI.wrap (Rt (QI.wrap ((QI.wrap (n+room)) - 1)) room)) H
theorem Lg.of:∀{n room H R},Lg.vc n room H R->Lg.sp n room H R:=ba [] (by kernel_rfl)
def Ml.vc (d:Option hY)(name:ByteArray)(H:aa)(R:Kp Int):Prop:=
 ae d λa=>ld aC H (a.add 8) λ(x:Bool)=>br x (R (4:Int) H) (Lm.sp name H λ(r:Bool) H1=>br (!r) (R (2:Int) H1) (CD.sp d name H1 λ(c:Int) b=>br (decide (c>=0)) (R (10:Int) b) (ae d λf=>ld aq b (f.add 0) λ(g:Sl)=>br ((g.n:Int)==4096) (R (3:Int) b) (FN.sp d b λ(e:Int) h=>br (e==0) (ae d λi=>ld aq h (i.add 0) λ(j:Sl)=>aG h #[.string name,.slice none 0 0,.slice none 0 0] vD λp l=>bf aq QH (QM #[EO,EO] EO #[j.v,.slice (some p) 1 1]) l λ(s:Sl) m=>ae d λk=>st m (k.add 0) s.v λn=>R e n) (R e h)))))
theorem Ml.of:∀{d name H R},Ml.vc d name H R->Ml.sp d name H R:=ba [] (by kernel_rfl)
def Jy.vc (b:Option hY)(kind:Int)(p:Sl)(H:aa)(R:Kp Int):Prop:=
 ae b λa=>ld aB H (a.add 0) λ(x:Option hY)=>ae b λc=>ld aN H (c.add 1) λ(d:ByteArray)=>Lz.sp x d H λ(r:(Int×Int×Int)) H1=>br ((r.2.2==0)&&(kind !=0)) (ae b λf=>ld aB H1 (f.add 0) λ(g:Option hY)=>Jk.sp g r.1 kind p H1 λ(e:Int) h=>br (e==0) (ae b λi=>ld aB h (i.add 0) λ(j:Option hY)=>GC.sp j r.1 h λ(k:Int) o=>R k o) (R e h)) (br (r.2.2==0) (ae b λl=>ld aB H1 (l.add 0) λ(m:Option hY)=>GC.sp m r.1 H1 λ(n:Int) q=>R n q) (R r.2.2 H1))
theorem Jy.of:∀{b kind p H R},Jy.vc b kind p H R->Jy.sp b kind p H R:=ba [] (by kernel_rfl)
def IF.vc (b:Option hY)(H:aa)(R:Kp Int):Prop:=
 ae b λa=>ld (ab .i64) H (a.add 3) λ(x:Int)=>br (x !=0) (ae b λc=>ld (ab .i64) H (c.add 3) λ(d:Int)=>R d H) (ae b λe=>ld aC H (e.add 4) λ(f:Bool)=>br f (R (2:Int) H) (R (0:Int) H))
theorem IF.of:∀{b H R},IF.vc b H R->IF.sp b H R:=ba [] (by kernel_rfl)
def Lu.vc (r:Option hY)(k:Int)(H:aa)(R:Kp Int):Prop:=
 ae r λa=>ld (ab .i64) H (a.add 7) λ(x:Int)=>br (x==(QI.wrap (k+1))) (R (0:Int) H) (ae r λf=>ld (ab .i64) H ((f.add 0).add 2) λ(g:Int)=>CT.sp g H λ(room:Int) H1=>ae r λh=>I2.sp (some (h.add 0)) (QI.wrap (k+1)) H1 λ(b:(Int×Sl×Int)) i=>br (b.2.2!=0) (ae r λj=>EW.sp (some (j.add 0)) b.2.2 i λ(l:Int) z=>R l z) (ae r λm=>ld (ab .i64) i ((m.add 0).add 2) λ(o:Int)=>JG.sp b.2.1 o i λ(c:(Sl×Int)) e=>br ((b.1!=1)||(c.2!=0)) (ae r λp=>EW.sp (some (p.add 0)) (280:Int) e λ(q:Int) A=>R q A) (ae r λs=>ld (ab .i64) e (s.add 5) λ(d:Int)=>br ((c.1.n:Int)!=(if (QI.wrap (d - (QI.wrap (k*room))))<room then (QI.wrap (d - (QI.wrap (k*room)))) else room)) (ae r λt=>EW.sp (some (t.add 0)) (280:Int) e λ(u:Int) B=>R u B) (ae r λw=>st e (w.add 7) (.int .i64 (QI.wrap (k+1))) λC=>ae r λy=>st C (y.add 8) c.1.v λD=>R (0:Int) D))))
theorem Lu.of:∀{r k H R},Lu.vc r k H R->Lu.sp r k H R:=ba [] (by kernel_rfl)
def J7.vc (w:Option hY)(H:aa)(R:Kp Int):Prop:=
 ae w λa=>ld (ab .i64) H (a.add 6) λ(x:Int)=>br (x==0) (R (0:Int) H) (ae w λb=>ae w λc=>ld aq H (c.add 5) λ(d:Sl)=>Jy.sp (some (b.add 0)) (1:Int) d H λ(e:Int) H1=>ae w λf=>st H1 (f.add 5) (.slice none 0 0) λi=>ae w λg=>st i (g.add 6) (.int .i64 0) λj=>ae w λh=>EW.sp (some (h.add 0)) e j λ(r:Int) k=>R r k)
theorem J7.of:∀{w H R},J7.vc w H R->J7.sp w H R:=ba [] (by kernel_rfl)
def Jt.vc (p:Option hY)(name:ByteArray)(page:Int)(H:aa)(R:Kp (Int×Int)):Prop:=
 ae p λa=>ld (ab .i64) H (a.add 6) λ(x:Int)=>br (x !=0) (ae p λN=>ld (ab .i64) H (N.add 6) λ(O:Int)=>R ((0:Int),O) H) (J9.sp p name page H λ(i:Int) H1=>br (decide (i>=0)) (IY.sp p i H1 λ(r:Int) H2=>R (r,(0:Int)) H2) (ae p λP=>ld aB H1 (P.add 0) λ(Q:Option hY)=>DQ.sp Q name H1 λ(f:(Int×Int)) k=>br ((f.2==0)&&((decide (page<0))||(decide (page>=f.1)))) (br ((12:Int)==0) (II.sp p k λ(e:Int) S=>br (e !=0) (ot.sp p e S λ(T:Int) H5=>R ((0:Int),T) H5) (ae p λU=>ld aB S (U.add 0) λ(V:Option hY)=>EZ.sp V name page S λ(l:(Sl×Int)) H6=>br (l.2!=0) (ot.sp p l.2 H6 λ(W:Int) H7=>R ((0:Int),W) H7) (GO.sp l.1 H6 λ(g:(Int×Sl×Int)) X=>br (g.2.2!=0) (ot.sp p g.2.2 X λ(Y:Int) H9=>R ((0:Int),Y) H9) (xw X g.2.1.a g.2.1.n λ(str:ByteArray)=>ER.sp p name page g.1 str false (Sl.mk none 0 0) (0:Int) X λ(Z:Int) af=>R (Z,(0:Int)) af)))) (br ((12:Int)!=0) (ot.sp p (12:Int) k λ(al:Int) an=>R ((0:Int),al) an) (ae p λa1=>ld aB k (a1.add 0) λ(a6:Option hY)=>EZ.sp a6 name page k λ(m:(Sl×Int)) w=>br (m.2!=0) (ot.sp p m.2 w λ(y:Int) a7=>R ((0:Int),y) a7) (GO.sp m.1 w λ(b:(Int×Sl×Int)) o=>br (b.2.2!=0) (ot.sp p b.2.2 o λ(z:Int) a8=>R ((0:Int),z) a8) (xw o b.2.1.a b.2.1.n λ(str_1:ByteArray)=>ER.sp p name page b.1 str_1 false (Sl.mk none 0 0) (0:Int) o λ(A:Int) bb=>R (A,(0:Int)) bb))))) (br (f.2==0) (II.sp p k λ(B:Int) q=>br (B !=0) (ot.sp p B q λ(C:Int) bd=>R ((0:Int),C) bd) (ae p λbh=>ld aB q (bh.add 0) λ(bl:Option hY)=>EZ.sp bl name page q λ(h:(Sl×Int)) D=>br (h.2!=0) (ot.sp p h.2 D λ(E:Int) bn=>R ((0:Int),E) bn) (GO.sp h.1 D λ(c:(Int×Sl×Int)) s=>br (c.2.2!=0) (ot.sp p c.2.2 s λ(F:Int) bs=>R ((0:Int),F) bs) (xw s c.2.1.a c.2.1.n λ(t:ByteArray)=>ER.sp p name page c.1 t false (Sl.mk none 0 0) (0:Int) s λ(G:Int) bx=>R (G,(0:Int)) bx)))) (br (f.2!=0) (ot.sp p f.2 k λ(I:Int) bA=>R ((0:Int),I) bA) (ae p λbB=>ld aB k (bB.add 0) λ(bC:Option hY)=>EZ.sp bC name page k λ(j:(Sl×Int)) J=>br (j.2!=0) (ot.sp p j.2 J λ(K:Int) bD=>R ((0:Int),K) bD) (GO.sp j.1 J λ(d:(Int×Sl×Int)) u=>br (d.2.2!=0) (ot.sp p d.2.2 u λ(L:Int) bM=>R ((0:Int),L) bM) (xw u d.2.1.a d.2.1.n λ(v:ByteArray)=>ER.sp p name page d.1 v false (Sl.mk none 0 0) (0:Int) u λ(M:Int) bN=>R (M,(0:Int)) bN)))))))
theorem Jt.of:∀{p name page H R},Jt.vc p name page H R->Jt.sp p name page H R:=ba [] (by kernel_rfl)
def Jk.vc (p:Option hY)(h kind:Int)(b:Sl)(H:aa)(R:Kp Int):Prop:=
 IJ.sp p h H λ(i:Int) H1=>ae p λa=>ld (ab .i64) H1 (a.add 6) λ(x:Int)=>br (x !=0) (ae p λf=>ld (ab .i64) H1 (f.add 6) λ(g:Int)=>R g H1) (br (decide (i<0)) (R (32:Int) H1) (br (decide ((b.n:Int)>504)) (R (2:Int) H1) (ae p λj=>ld aq H1 (j.add 2) λ(c:Sl)=>ae c.a λk=>(0<=i/\i<(c.n:Int))/\st H1 ((k.add (i.toNat*7)).add 2) (.int .u8 kind) λl=>ae p λm=>ld aq l (m.add 2) λ(d:Sl)=>xw l b.a b.n λ(str:ByteArray)=>ae d.a λn=>(0<=i/\i<(d.n:Int))/\st l ((n.add (i.toNat*7)).add 3) (.string str) λr=>ae p λo=>ld aq r (o.add 2) λ(e:Sl)=>ae e.a λq=>(0<=i/\i<(e.n:Int))/\st r ((q.add (i.toNat*7)).add 4) (.bool true) λs=>R (0:Int) s)))
theorem Jk.of:∀{p h kind b H R},Jk.vc p h kind b H R->Jk.sp p h kind b H R:=ba [] (by kernel_rfl)
def K7.vc (width rows:Int)(H:aa)(R:Kp Sl):Prop:=
 aG H #[.int .u8 (RE.wrap width)] fU λa H1=>aG H1 #[.int .u64 (Rj.wrap rows)] fM λp b=>Ky.sp (Sl.mk (some p) 1 1) b λ(r:Sl) c=>bf aq QH (QM #[eK,eK] eK #[.slice (some a) 1 1,r.v]) c λ(out:Sl) d=>R out d
theorem K7.of:∀{width rows H R},K7.vc width rows H R->K7.sp width rows H R:=ba [] (by kernel_rfl)
def GC.vc (p:Option hY)(h:Int)(H:aa)(R:Kp Int):Prop:=
 IJ.sp p h H λ(i:Int) H1=>ae p λa=>ld (ab .i64) H1 (a.add 6) λ(x:Int)=>br (x !=0) (ae p λy=>ld (ab .i64) H1 (y.add 6) λ(A:Int)=>R A H1) (br (decide (i<0)) (R (32:Int) H1) (ay (Sl×Int) ((Sl.mk none 0 0),(0:Int)) H1 λnext z b=>ae p λB=>ld aq b (B.add 2) λ(e:Sl)=>ae e.a λC=>(0<=i/\i<(e.n:Int))/\ld aq b ((C.add (i.toNat*7)).add 5) λ(D:Sl)=>br (decide (z.2<(D.n:Int))) (ae p λE=>ld aq b (E.add 2) λ(f:Sl)=>ae f.a λF=>(0<=i/\i<(f.n:Int))/\ld aq b ((F.add (i.toNat*7)).add 5) λ(g:Sl)=>ae g.a λG=>(0<=z.2/\z.2<(g.n:Int))/\ld (ab .i64) b (G.add (z.2.toNat*1)) λ(I:Int)=>br (I !=h) (ae p λJ=>ld aq b (J.add 2) λ(j:Sl)=>ae j.a λK=>(0<=i/\i<(j.n:Int))/\ld aq b ((K.add (i.toNat*7)).add 5) λ(k:Sl)=>ae k.a λL=>(0<=z.2/\z.2<(k.n:Int))/\ld (ab .i64) b (L.add (z.2.toNat*1)) λ(M:Int)=>aG b #[.int .i64 M] jm λN Q=>bf aq QH (QM #[Du,Du] Du #[z.1.v,.slice (some N) 1 1]) Q λ(l:Sl) S=>next (l,QI.wrap (z.2+1)) S) (next (z.1,QI.wrap (z.2+1)) b)) (ae p λm=>ld aq b (m.add 2) λ(c:Sl)=>ae c.a λn=>(0<=i/\i<(c.n:Int))/\st b ((n.add (i.toNat*7)).add 5) z.1.v λP=>ae p λo=>ld (ab .i64) P (o.add 4) λ(q:Int)=>ae p λr=>st P (r.add 4) (.int .i64 (QI.wrap (q+1))) λO=>ae p λs=>ld aq O (s.add 2) λ(d:Sl)=>ae p λt=>ld (ab .i64) O (t.add 4) λ(u:Int)=>ae d.a λw=>(0<=i/\i<(d.n:Int))/\st O ((w.add (i.toNat*7)).add 6) (.int .i64 u) λT=>R (0:Int) T)))
theorem GC.of:∀{p h H R},GC.vc p h H R->GC.sp p h H R:=ba [(8,[(6,aq),(7,(ab .i64))])] (by kernel_rfl)
def LM.vc (p:Option hY)(name:ByteArray)(H:aa)(R:Kp Int):Prop:=
 ae p λa=>ld (ab .i64) H (a.add 6) λ(x:Int)=>br (x !=0) (ae p λd=>ld (ab .i64) H (d.add 6) λ(f:Int)=>R f H) (ae p λg=>ld aB H (g.add 0) λ(h:Option hY)=>DQ.sp h name H λ(r:(Int×Int)) H1=>br (r.2!=0) (ot.sp p r.2 H1 λ(j:Int) y=>R j y) (ay Int 0 H1 λnext k l=>br (decide (k<r.1)) (J9.sp p name k l λ(i:Int) b=>br (decide (i>=0)) (ae p λm=>ld aq b (m.add 2) λ(c:Sl)=>ae c.a λn=>(0<=i/\i<(c.n:Int))/\ld aC b ((n.add (i.toNat*7)).add 4) λ(o:Bool)=>br o (KQ.sp p i b λ(e:Int) w=>br (e !=0) (ot.sp p e w λ(q:Int) z=>R q z) (next (QI.wrap (k+1)) w)) (next (QI.wrap (k+1)) b)) (next (QI.wrap (k+1)) b)) (ae p λs=>ld aB l (s.add 0) λ(t:Option hY)=>LZ.sp t name l λ(u:Int) A=>ot.sp p u A λ(v:Int) B=>R v B)))
theorem LM.of:∀{p name H R},LM.vc p name H R->LM.sp p name H R:=ba [(7,[(7,(ab .i64))])] (by kernel_rfl)
def EW.vc (b:Option hY)(e:Int)(H:aa)(R:Kp Int):Prop:=
 br (e !=0) (ae b λa=>ld (ab .i64) H (a.add 3) λ(x:Int)=>br (x==0) (ae b λc=>st H (c.add 3) (.int .i64 e) λH1=>R e H1) (R e H)) (R e H)
theorem EW.of:∀{b e H R},EW.vc b e H R->EW.sp b e H R:=ba [] (by kernel_rfl)
def Ky.vc (l:Sl)(H:aa)(R:Kp Sl):Prop:=
 br ((l.n:Int)==0) (aG H #[.int .u8 0] fU λp H1=>R (Sl.mk (some p) 1 1) H1) (ay (Sl×Int) ((Sl.mk none 0 0),(0:Int)) H λnext z f=>br (decide (z.2<(l.n:Int))) (ay (Sl×Int) (z.1,(56:Int)) f λc b d=>br (decide (b.2>=0)) (ae l.a λa=>(0<=z.2/\z.2<(l.n:Int))/\ld (ab .u64) d (a.add (z.2.toNat*1)) λ(x:Int)=>0<=b.2/\aG d #[.int .u8 (RE.wrap (dQ .u64 x b.2))] fU λe g=>bf aq QH (QM #[eK,eK] eK #[b.1.v,.slice (some e) 1 1]) g λ(out:Sl) h=>c (out,QI.wrap (b.2 - 8)) h) (next (b.1,QI.wrap (z.2+1)) d)) (R z.1 f))
theorem Ky.of:∀{l H R},Ky.vc l H R->Ky.sp l H R:=ba [(5,[(3,aq),(4,(ab .i64))]),(8,[(3,aq),(5,(ab .i64))])] (by kernel_rfl)
def K4.vc (i:Int)(H:aa)(R:Kp ByteArray):Prop:=
 MA.sp i H λ(r:ByteArray) H1=>R r H1
theorem K4.of:∀{i H R},K4.vc i H R->K4.sp i H R:=ba [] (by kernel_rfl)
def Lh.vc (p:Option hY)(name:ByteArray)(H:aa)(R:Kp Int):Prop:=
 Fz.sp p H λ(e:Int) H1=>br (e !=0) (R e H1) (ae p λa=>ld aB H1 (a.add 0) λ(x:Option hY)=>FD.sp x name H1 λ(r:(Int×Int)) s=>br (r.2!=0) (wJ.sp p r.2 s λ(d:Int) u=>R d u) (KD.sp p name s λ(l:Sl) v=>Mc.sp l v λ(g:Bool) t=>br g (R (31:Int) t) (ay Int 0 t λnext z b=>br (decide (z<(l.n:Int))) (ae l.a λh=>(0<=z/\z<(l.n:Int))/\ld aB b (h.add (z.toNat*1)) λ(f:Option hY)=>ae p λi=>ld cd b (i.add 2) λ(j:Option Nat)=>ae f λk=>cN (bR [aN,(ab .i64)]) 2 b (k.add 0) λ(c:(ByteArray×Int))=>bf gR QH (Sj #[zv,yn] BN #[.map j,(.agg #[.string c.1,.int .i64 c.2])]) b λ(_:gp) w=>next (QI.wrap (z+1)) w) (ae p λm=>ld aB b (m.add 0) λ(n:Option hY)=>Ll.sp n name b λ(o:Int) y=>wJ.sp p o y λ(q:Int) A=>R q A))))
theorem Lh.of:∀{p name H R},Lh.vc p name H R->Lh.sp p name H R:=ba [(11,[(37,(ab .i64))])] (by kernel_rfl)
def Jf.vc (s:ByteArray)(H:aa)(R:Kp Bool):Prop:=
 R ((!(s.toList==Tn.toList))&&(decide ((s.size:Int)<=100))) H
theorem Jf.of:∀{s H R},Jf.vc s H R->Jf.sp s H R:=ba [] (by kernel_rfl)
def Fg.vc (d:Option hY)(H:aa)(R:Kp Int):Prop:=
 ae d λa=>ld aC H ((a.add 6).add 0) λ(x:Bool)=>br x (ae d λb=>ld (ab .i64) H ((b.add 6).add 1) λ(c:Int)=>br (c==0) (ae d λe=>st H (e.add 9) (.bool true) λH1=>R (4:Int) H1) (ae d λf=>ld (ab .i64) H ((f.add 6).add 1) λ(g:Int)=>ae d λh=>st H ((h.add 6).add 1) (.int .i64 (QI.wrap (g - 1))) λo=>ae d λi=>ld (ab .i64) o (i.add 4) λ(j:Int)=>ae d λk=>st o (k.add 4) (.int .i64 (QI.wrap (j+1))) λp=>R (0:Int) p)) (ae d λl=>ld (ab .i64) H (l.add 4) λ(m:Int)=>ae d λn=>st H (n.add 4) (.int .i64 (QI.wrap (m+1))) λq=>R (0:Int) q)
theorem Fg.of:∀{d H R},Fg.vc d H R->Fg.sp d H R:=ba [] (by kernel_rfl)
def LX.vc (p:Option hY)(name:ByteArray)(H:aa)(R:Kp (Int×Int×Int)):Prop:=
 Fz.sp p H λ(e:Int) H1=>br (e !=0) (R ((0:Int),(0:Int),e) H1) (ae p λa=>ld aB H1 (a.add 0) λ(x:Option hY)=>FD.sp x name H1 λ(r:(Int×Int)) z=>br (r.2==0) (Jv.sp p z λ(c:Int) B=>aG B #[.string name,.int .i64 r.1,.int .u8 0,.slice none 0 0,.bool false,.int .i64 0,.int .i64 0] Mz λd j=>br (c==0) (Fx.sp p (some d) j λ(g:Int) A=>br (g !=0) (wJ.sp p g A λ(k:Int) C=>R ((0:Int),(0:Int),k) C) (EX.sp p (some d) A λ(l:Int) D=>R (l,r.1,(0:Int)) D)) (br (c !=0) (wJ.sp p c j λ(m:Int) E=>R ((0:Int),(0:Int),m) E) (EX.sp p (some d) j λ(n:Int) F=>R (n,r.1,(0:Int)) F))) (aG z #[.string name,.int .i64 r.1,.int .u8 0,.slice none 0 0,.bool false,.int .i64 0,.int .i64 0] Mz λb f=>br (r.2==0) (Fx.sp p (some b) f λ(h:Int) i=>br (h !=0) (wJ.sp p h i λ(o:Int) q=>R ((0:Int),(0:Int),o) q) (EX.sp p (some b) i λ(s:Int) t=>R (s,r.1,(0:Int)) t)) (br (r.2!=0) (wJ.sp p r.2 f λ(u:Int) v=>R ((0:Int),(0:Int),u) v) (EX.sp p (some b) f λ(w:Int) y=>R (w,r.1,(0:Int)) y))))
theorem LX.of:∀{p name H R},LX.vc p name H R->LX.sp p name H R:=ba [] (by kernel_rfl)
def L5.vc (b:Array gp)(n:Int)(H:aa)(R:Kp (Array gp)):Prop:=
 aG H b Hi λp H1=>aG H1 (zc QH Hi) Hi λa e=>ay Int 0 e λnext z c=>br (decide (z<8)) (0<=(QI.wrap ((56:Int) - (QI.wrap ((8:Int)*z))))/\(0<=z/\z<((8:Nat):Int))/\st c (p.add (z.toNat*1)) (.int .u8 (RE.wrap (dQ .u64 n (QI.wrap ((56:Int) - (QI.wrap ((8:Int)*z))))))) λf=>next (QI.wrap (z+1)) f) (cN ku 8 c p λ(x:Array gp)=>jo QH (Q3 Hi (.pointer (some a)) (.agg x)) c λd=>cN ku 8 d a λ(res:Array gp)=>R res d)
theorem L5.of:∀{b n H R},L5.vc b n H R->L5.sp b n H R:=ba [(2,[(6,(ab .i64))])] (by kernel_rfl)
def Fz.vc (p:Option hY)(H:aa)(R:Kp Int):Prop:=
 br p.isNone (R (1:Int) H) (ae p λa=>ld (ab .i64) H (a.add 7) λ(x:Int)=>R x H)
theorem Fz.of:∀{p H R},Fz.vc p H R->Fz.sp p H R:=ba [] (by kernel_rfl)
def HF.vc (p f:Option hY)(H:aa)(R:Kp Int):Prop:=
 ae f λa=>ld (ab .i64) H (a.add 5) λ(x:Int)=>ae f λb=>st H (b.add 5) (.int .i64 (QI.wrap (x+1))) λH1=>ae p λc=>ld cd H1 (c.add 3) λ(d:Option Nat)=>ae p λe=>ld (ab .i64) H1 (e.add 4) λ(g:Int)=>jo QH (SZ Oc (.map d) (.int .i64 g) (.pointer f)) H1 λm=>ae p λh=>ld (ab .i64) m (h.add 4) λ(i:Int)=>ae p λj=>st m (j.add 4) (.int .i64 (QI.wrap (i+1))) λn=>ae p λk=>ld (ab .i64) n (k.add 4) λ(l:Int)=>R (QI.wrap (l - 1)) n
theorem HF.of:∀{p f H R},HF.vc p f H R->HF.sp p f H R:=ba [] (by kernel_rfl)
def Lt.vc (p:Option hY)(at_:ByteArray)(h:Int)(H:aa)(R:Kp (Option hY×Int)):Prop:=
 aG H #[.string at_,.int .i64 h] yn λb H1=>ae p λa=>ld aB H1 (a.add 0) λ(x:Option hY)=>ld aN H1 (b.add 0) λ(k:ByteArray)=>FD.sp x k H1 λ(r:(Int×Int)) g=>br (r.2!=0) (R (none,r.2) g) (ld (ab .i64) g (b.add 1) λ(l:Int)=>br (decide (l<0)) (R (none,(12:Int)) g) (ld (ab .i64) g (b.add 1) λ(m:Int)=>br (decide (m>=r.1)) (R (none,(12:Int)) g) (Jv.sp p g λ(e:Int) i=>br (e !=0) (R (none,e) i) (ae p λn=>ld aB i (n.add 0) λ(o:Option hY)=>ld aN i (b.add 0) λ(q:ByteArray)=>ld (ab .i64) i (b.add 1) λ(s:Int)=>Ke.sp o q s i λ(c:(Sl×Int)) t=>br (c.2!=0) (R (none,c.2) t) (cN (bR [aN,(ab .i64)]) 2 t b λ(j:(ByteArray×Int))=>aG t #[.string j.1,.int .i64 j.2,.int .u8 0,.slice none 0 0,.bool false,.int .i64 0,.int .i64 0] Mz λd u=>LL.sp c.1 u λ(f:(Int×Sl×Int)) w=>st w (d.add 2) (.int .u8 f.1) λy=>st y (d.add 3) f.2.1.v λz=>R (some d,f.2.2) z)))))
theorem Lt.of:∀{p at_ a H R},Lt.vc p at_ a H R->Lt.sp p at_ a H R:=ba [] (by kernel_rfl)
def wJ.vc (p:Option hY)(e:Int)(H:aa)(R:Kp Int):Prop:=
 br (e==4) (br (e==4) (ae p λa=>st H (a.add 7) (.int .i64 e) λH1=>R e H1) (R e H)) (br (e==5) (br (e==5) (ae p λb=>st H (b.add 7) (.int .i64 e) λd=>R e d) (R e H)) (br (e==20) (ae p λc=>st H (c.add 7) (.int .i64 e) λf=>R e f) (R e H)))
theorem wJ.of:∀{p e H R},wJ.vc p e H R->wJ.sp p e H R:=ba [] (by kernel_rfl)
def EX.vc (p f:Option hY)(H:aa)(R:Kp Int):Prop:=
 ae p λa=>ld cd H (a.add 2) λ(x:Option Nat)=>ae f λd=>cN (bR [aN,(ab .i64)]) 2 H (d.add 0) λ(b:(ByteArray×Int))=>jo QH (SZ zv (.map x) (.agg #[.string b.1,.int .i64 b.2]) (.pointer f)) H λH1=>ae p λe=>ld (ab .i64) H1 (e.add 6) λ(c:Int)=>ae p λg=>ld cd H1 (g.add 2) λ(h:Option Nat)=>Ct H1 h λ(n:Nat)=>ae p λi=>st H1 (i.add 6) (.int .i64 (if (n:Int)>c then (n:Int) else c)) λj=>HF.sp p f j λ(r:Int) k=>R r k
theorem EX.of:∀{p f H R},EX.vc p f H R->EX.sp p f H R:=ba [] (by kernel_rfl)
def IC.vc (p:Option hY)(h:Int)(H:aa)(R:Kp (Option hY×Int)):Prop:=
 Fz.sp p H λ(e:Int) H1=>br (e !=0) (R (none,e) H1) (ae p λa=>ld cd H1 (a.add 3) λ(x:Option Nat)=>Fs (aW [aB,aC]) QH (Sd Oc (.map x) (.int .i64 h) true) H1 λ(b:(Option hY×Bool))=>br b.2 (R (b.1,(0:Int)) H1) (R (none,(32:Int)) H1))
theorem IC.of:∀{p h H R},IC.vc p h H R->IC.sp p h H R:=ba [] (by kernel_rfl)
def KD.vc (p:Option hY)(name:ByteArray)(H:aa)(R:Kp Sl):Prop:=
 aG H #[.string name] dG λb H1=>ae p λa=>ld cd H1 (a.add 2) λ(x:Option Nat)=>Mn.sp x H1 λ(r:gp) d=>M7.sp r d λ(c:Sl) e=>LK.sp c b e λ(l:Sl) f=>Pw.sp l (.func (.func Fq.no) #[] #[]) f λ(_:Unit) g=>R l g
theorem KD.of:∀{p name H R},KD.vc p name H R->KD.sp p name H R:=ba [] (by kernel_rfl)
def Fx.vc (p f:Option hY)(H:aa)(R:Kp Int):Prop:=
 ae f λa=>ld (ab .u8) H (a.add 2) λ(x:Int)=>ae f λb=>ld aq H (b.add 3) λ(c:Sl)=>Ln.sp x c H λ(r:(Sl×Int)) H1=>br (r.2!=0) (R r.2 H1) (ae p λd=>ld aB H1 (d.add 0) λ(g:Option hY)=>ae f λh=>ld aN H1 ((h.add 0).add 0) λ(i:ByteArray)=>ae f λj=>ld (ab .i64) H1 ((j.add 0).add 1) λ(k:Int)=>Lb.sp g i k r.1 H1 λ(e:Int) m=>br (e==0) (ae f λl=>st m (l.add 4) (.bool false) λn=>R e n) (R e m))
theorem Fx.of:∀{p f H R},Fx.vc p f H R->Fx.sp p f H R:=ba [] (by kernel_rfl)
def La.vc (d:Option hY)(name:ByteArray)(H:aa)(R:Kp Int):Prop:=
 FJ.sp d name H λ(r:(Option hY×Int)) H1=>br (r.2!=0) (R r.2 H1) (Fg.sp d H1 λ(e:Int) b=>br (e==0) (ae r.1 λa=>ld aq b (a.add 0) λ(x:Sl)=>Fo.sp x b λ(c:Sl) h=>ae r.1 λf=>st h (f.add 1) c.v λi=>ae r.1 λg=>st i (g.add 2) (.slice none 0 0) λj=>R e j) (R e b))
theorem La.of:∀{d name H R},La.vc d name H R->La.sp d name H R:=ba [] (by kernel_rfl)
def Mi.vc (p:Option hY)(h:Int)(H:aa)(R:Kp (Int×Sl×Int)):Prop:=
 IC.sp p h H λ(r:(Option hY×Int)) H1=>br (r.2!=0) (R ((0:Int),(Sl.mk none 0 0),r.2) H1) (∃G:aa->Prop,G H1/\ae r.1 λa=>dE (ab .u8) G (a.add 2) λ(x:Int)=>ae r.1 λb=>ld aq H1 (b.add 3) λ(c:Sl)=>Fy.sp c H1 λ(d:Sl) e=>G e/\R (x,d,(0:Int)) e)
theorem Mi.of:∀{p h H R},Mi.vc p h H R->Mi.sp p h H R:=ba [] (by kernel_rfl)
def Lv.vc (s:Sl)(n:Int)(H:aa)(R:Kp gp):Prop:=
 aG H #[s.v] eK λp H1=>aG H1 #[.int .i64 n] jm λa b=>ld (ab .i64) b a λ(x:Int)=>br (decide (x<1)) (False) (R (.func (.func Fw.no) #[] #[.pointer (some p),.pointer (some a)]) b)
theorem Lv.of:∀{s n H R},Lv.vc s n H R->Lv.sp s n H R:=ba [] (by kernel_rfl)
def Mt.vc (seq:gp)(H:aa)(R:Kp Sl):Prop:=
 Ly.sp (Sl.mk none 0 0) seq H λ(r:Sl) H1=>R r H1
theorem Mt.of:∀{seq H R},Mt.vc seq H R->Mt.sp seq H R:=ba [] (by kernel_rfl)
def G3.vc (l:Nat)(cap:hY)(H:aa)(R:Kp Unit):Prop:=
 ld cd H cap λ(x:Option Nat)=>bf aB QH (SS AJ (.map x)) H λ(it:Option hY) H1=>ay Unit () H1 λnext _ d=>bf gM QH (SO (.pointer it) false BN) d λ(e:Bool×List gp) a=>br e.1 (bf pS QH (Sr (.pointer it)) a λ(f:gp×gp) g=>JA aN f.1 λ(k:ByteArray)=>cq QH l #[.string k] g λ(b:Bool) c=>br (!b) (R () c) (next () c)) (R () a)
theorem G3.of:∀{l cap H R},G3.vc l cap H R->G3.sp l cap H R:=ba [(1,[])] (by kernel_rfl)
def LJ.vc (x y:Int)(H:aa)(R:Kp Bool):Prop:=
 Lp.sp x H λ(r:Bool) H1=>br r (Lp.sp y H1 λ(a:Bool) b=>R ((!a)||(decide (x<y))) b) (R (decide (x<y)) H1)
theorem LJ.of:∀{x y H R},LJ.vc x y H R->LJ.sp x y H R:=ba [] (by kernel_rfl)
def JT.vc (x:Int)(H:aa)(R:Kp Bool):Prop:=
 R (x !=x) H
theorem JT.of:∀{x H R},JT.vc x H R->JT.sp x H R:=ba [] (by kernel_rfl)
def Hq.vc (n:Int)(H:aa)(R:Kp ByteArray):Prop:=
 aG H #[(.int .u8 (RE.wrap (QI.wrap ((48:Int)+(RP n (10:Int))))))] fU λp H1=>xw H1 (some p) 1 λ(s:ByteArray)=>br (decide (n>9)) (Hq.sp (QI.wrap (Rt n (10:Int))) H1 λ(r:ByteArray) a=>((r.size+s.size:Nat):Int)<=9223372036854775807/\R (r++s) a) (R s H1)
theorem Hq.of:∀{n H R},Hq.vc n H R->Hq.sp n H R:=ba [] (by kernel_rfl)
def LD.vc (l x:Sl)(H:aa)(R:Kp Sl):Prop:=
 LN.sp l x H λ(r:Int) H1=>br (decide (r<(l.n:Int))) (ae l.a λa=>(0<=r/\r<(l.n:Int))/\ld aq H1 (a.add (r.toNat*1)) λ(h:Sl)=>BV.sp h x H1 λ(j:Int) C=>br (j==0) (R l C) (bf aq QH (QM #[dv,dv] dv #[.slice none 0 0,x.v]) C λ(own:Sl) D=>aG D #[own.v] dv λp E=>bf aq QH (QM #[dY,dY] dY #[l.v,.slice (some p) 1 1]) E λ(b:Sl) F=>ay Int (QI.wrap ((b.n:Int) - 1)) F λnext i k=>br (decide (i>r)) (ae b.a λm=>(0<=(QI.wrap (i - 1))/\(QI.wrap (i - 1))<(b.n:Int))/\ld aq k (m.add ((QI.wrap (i - 1)).toNat*1)) λ(n:Sl)=>ae b.a λo=>(0<=i/\i<(b.n:Int))/\st k (o.add (i.toNat*1)) n.v λG=>next (QI.wrap (i - 1)) G) (ae b.a λq=>(0<=r/\r<(b.n:Int))/\st k (q.add (r.toNat*1)) own.v λI=>R b I))) (bf aq QH (QM #[dv,dv] dv #[.slice none 0 0,x.v]) H1 λ(e:Sl) J=>aG J #[e.v] dv λs t=>bf aq QH (QM #[dY,dY] dY #[l.v,.slice (some s) 1 1]) t λ(c:Sl) u=>ay Int (QI.wrap ((c.n:Int) - 1)) u λf d g=>br (decide (d>r)) (ae c.a λv=>(0<=(QI.wrap (d - 1))/\(QI.wrap (d - 1))<(c.n:Int))/\ld aq g (v.add ((QI.wrap (d - 1)).toNat*1)) λ(w:Sl)=>ae c.a λy=>(0<=d/\d<(c.n:Int))/\st g (y.add (d.toNat*1)) w.v λz=>f (QI.wrap (d - 1)) z) (ae c.a λA=>(0<=r/\r<(c.n:Int))/\st g (A.add (r.toNat*1)) e.v λB=>R c B))
theorem LD.of:∀{l x H R},LD.vc l x H R->LD.sp l x H R:=ba [(8,[(7,(ab .i64))])] (by kernel_rfl)
def Jm.vc (s:Option hY)(names:Sl)(H:aa)(R:Kp Int):Prop:=
 ay Int 0 H λnext i H1=>br (decide (i<(names.n:Int))) (ae s λa=>ld aB H1 (a.add 0) λ(x:Option hY)=>ae names.a λb=>(0<=i/\i<(names.n:Int))/\ld aN H1 (b.add (i.toNat*1)) λ(c:ByteArray)=>KM.sp x c H1 λ(e:Int) d=>br (e !=0) (R e d) (next (QI.wrap (i+1)) d)) (R (0:Int) H1)
theorem Jm.of:∀{s names H R},Jm.vc s names H R->Jm.sp s names H R:=ba [(2,[(5,(ab .i64))])] (by kernel_rfl)
def Mg.vc (p:Option hY)(h:Int)(H:aa)(R:Kp (Int×Sl×Int)):Prop:=
 IJ.sp p h H λ(i:Int) H1=>ae p λa=>ld (ab .i64) H1 (a.add 6) λ(x:Int)=>br (x !=0) (ae p λd=>ld (ab .i64) H1 (d.add 6) λ(e:Int)=>R ((0:Int),(Sl.mk none 0 0),e) H1) (br (decide (i<0)) (R ((0:Int),(Sl.mk none 0 0),(32:Int)) H1) (∃G:aa->Prop,G H1/\ae p λf=>dE aq G (f.add 2) λ(b:Sl)=>ae b.a λg=>(0<=i/\i<(b.n:Int))/\dE (ab .u8) G ((g.add (i.toNat*7)).add 2) λ(j:Int)=>ae p λk=>ld aq H1 (k.add 2) λ(c:Sl)=>ae c.a λl=>(0<=i/\i<(c.n:Int))/\ld aN H1 ((l.add (i.toNat*7)).add 3) λ(m:ByteArray)=>bf aq QH (convert dG eK (.string m)) H1 λ(n:Sl) o=>G o/\R (j,n,(0:Int)) o))
theorem Mg.of:∀{p h H R},Mg.vc p h H R->Mg.sp p h H R:=ba [] (by kernel_rfl)
def Lm.vc (s:ByteArray)(H:aa)(R:Kp Bool):Prop:=
 R ((decide ((s.size:Int)>=1))&&(decide ((s.size:Int)<=100))) H
theorem Lm.of:∀{s H R},Lm.vc s H R->Lm.sp s H R:=ba [] (by kernel_rfl)
def FN.vc (d:Option hY)(H:aa)(R:Kp Int):Prop:=
 ae d λa=>ld aC H (a.add 5) λ(x:Bool)=>br x (ae d λj=>ld (ab .i64) H (j.add 6) λ(k:Int)=>br (k==0) (ae d λl=>st H (l.add 8) (.bool true) λH1=>R (4:Int) H1) (ae d λm=>ld aC H (m.add 5) λ(n:Bool)=>br n (ae d λo=>ld (ab .i64) H (o.add 6) λ(p:Int)=>ae d λq=>st H (q.add 6) (.int .i64 (QI.wrap (p - 1))) λC=>ae d λr=>ld (ab .i64) C (r.add 3) λ(s:Int)=>ae d λt=>st C (t.add 3) (.int .i64 (QI.wrap (s+1))) λE=>R (0:Int) E) (ae d λu=>ld (ab .i64) H (u.add 3) λ(v:Int)=>ae d λw=>st H (w.add 3) (.int .i64 (QI.wrap (v+1))) λF=>R (0:Int) F))) (ae d λb=>ld aC H (b.add 5) λ(y:Bool)=>br y (ae d λc=>ld (ab .i64) H (c.add 6) λ(z:Int)=>ae d λe=>st H (e.add 6) (.int .i64 (QI.wrap (z - 1))) λD=>ae d λf=>ld (ab .i64) D (f.add 3) λ(A:Int)=>ae d λg=>st D (g.add 3) (.int .i64 (QI.wrap (A+1))) λG=>R (0:Int) G) (ae d λh=>ld (ab .i64) H (h.add 3) λ(B:Int)=>ae d λi=>st H (i.add 3) (.int .i64 (QI.wrap (B+1))) λI=>R (0:Int) I))
theorem FN.of:∀{d H R},FN.vc d H R->FN.sp d H R:=ba [] (by kernel_rfl)
def Lz.vc (p:Option hY)(name:ByteArray)(H:aa)(R:Kp (Int×Int×Int)):Prop:=
 ae p λa=>ld (ab .i64) H (a.add 6) λ(x:Int)=>br (x !=0) (ae p λf=>ld (ab .i64) H (f.add 6) λ(g:Int)=>R ((0:Int),(0:Int),g) H) (ae p λh=>ld aB H (h.add 0) λ(i:Option hY)=>DQ.sp i name H λ(r:(Int×Int)) H1=>br (r.2==0) (II.sp p H1 λ(e:Int) A=>br (e !=0) (ot.sp p e A λ(j:Int) E=>R ((0:Int),(0:Int),j) E) (Ig.sp (0:Int) (Sl.mk none 0 0) A λ(k:(Sl×Int)) B=>ae p λl=>ld aB B (l.add 0) λ(m:Option hY)=>IN.sp m name r.1 k.1 B λ(b:Int) C=>br (b !=0) (ot.sp p b C λ(n:Int) F=>R ((0:Int),(0:Int),n) F) (ER.sp p name r.1 (0:Int) Tn false (Sl.mk none 0 0) (0:Int) C λ(o:Int) G=>R (o,r.1,(0:Int)) G))) (br (r.2!=0) (ot.sp p r.2 H1 λ(q:Int) I=>R ((0:Int),(0:Int),q) I) (Ig.sp (0:Int) (Sl.mk none 0 0) H1 λ(s:(Sl×Int)) D=>ae p λt=>ld aB D (t.add 0) λ(u:Option hY)=>IN.sp u name r.1 s.1 D λ(c:Int) d=>br (c !=0) (ot.sp p c d λ(v:Int) w=>R ((0:Int),(0:Int),v) w) (ER.sp p name r.1 (0:Int) Tn false (Sl.mk none 0 0) (0:Int) d λ(y:Int) z=>R (y,r.1,(0:Int)) z))))
theorem Lz.of:∀{p name H R},Lz.vc p name H R->Lz.sp p name H R:=ba [] (by kernel_rfl)
def J9.vc (p:Option hY)(name:ByteArray)(page:Int)(H:aa)(R:Kp Int):Prop:=
 ay Int 0 H λnext i H1=>ae p λa=>ld aq H1 (a.add 2) λ(x:Sl)=>br (decide (i<(x.n:Int))) (ae p λd=>ld aq H1 (d.add 2) λ(b:Sl)=>ae b.a λe=>(0<=i/\i<(b.n:Int))/\ld aN H1 ((e.add (i.toNat*7)).add 0) λ(f:ByteArray)=>br (f.toList==name.toList) (ae p λg=>ld aq H1 (g.add 2) λ(c:Sl)=>ae c.a λh=>(0<=i/\i<(c.n:Int))/\ld (ab .i64) H1 ((h.add (i.toNat*7)).add 1) λ(j:Int)=>br (j==page) (R i H1) (next (QI.wrap (i+1)) H1)) (next (QI.wrap (i+1)) H1)) (R (-1:Int) H1)
theorem J9.of:∀{p name page H R},J9.vc p name page H R->J9.sp p name page H R:=ba [(2,[(7,(ab .i64))])] (by kernel_rfl)
def IY.vc (p:Option hY)(i:Int)(H:aa)(R:Kp Int):Prop:=
 ∃G:aa->Prop,G H/\ae p λa=>dE aq G (a.add 2) λ(x:Sl)=>ae p λc=>dE aq G (c.add 2) λ(b:Sl)=>ae b.a λd=>(0<=i/\i<(b.n:Int))/\dE aq G ((d.add (i.toNat*7)).add 5) λ(e:Sl)=>ae p λf=>ld (ab .i64) H (f.add 3) λ(g:Int)=>aG H #[.int .i64 g] jm λh H1=>G H1/\bf aq QH (QM #[Du,Du] Du #[e.v,.slice (some h) 1 1]) H1 λ(s:Sl) q=>G q/\ae x.a λj=>(0<=i/\i<(x.n:Int))/\st q ((j.add (i.toNat*7)).add 5) s.v λr=>ae p λk=>ld (ab .i64) r (k.add 3) λ(l:Int)=>ae p λm=>st r (m.add 3) (.int .i64 (QI.wrap (l+1))) λt=>ae p λn=>ld (ab .i64) t (n.add 3) λ(o:Int)=>R (QI.wrap (o - 1)) t
theorem IY.of:∀{p i H R},IY.vc p i H R->IY.sp p i H R:=ba [] (by kernel_rfl)
def II.vc (p:Option hY)(H:aa)(R:Kp Int):Prop:=
 ae p λa=>ld aq H (a.add 2) λ(x:Sl)=>ae p λi=>ld (ab .i64) H (i.add 1) λ(j:Int)=>br (decide ((x.n:Int)<j)) (R (0:Int) H) (ay (Int×Int) ((-1:Int),(0:Int)) H λnext z H1=>ae p λk=>ld aq H1 (k.add 2) λ(l:Sl)=>br (decide (z.2<(l.n:Int))) (ae p λm=>ld aq H1 (m.add 2) λ(b:Sl)=>ae b.a λn=>(0<=z.2/\z.2<(b.n:Int))/\ld aq H1 ((n.add (z.2.toNat*7)).add 5) λ(o:Sl)=>br (((o.n:Int)==0)==true) (br (decide (z.1<0)) (next (z.2,QI.wrap (z.2+1)) H1) (ae p λq=>ld aq H1 (q.add 2) λ(c:Sl)=>ae c.a λr=>(0<=z.2/\z.2<(c.n:Int))/\ld (ab .i64) H1 ((r.add (z.2.toNat*7)).add 6) λ(s:Int)=>ae p λt=>ld aq H1 (t.add 2) λ(d:Sl)=>ae d.a λu=>(0<=z.1/\z.1<(d.n:Int))/\ld (ab .i64) H1 ((u.add (z.1.toNat*7)).add 6) λ(v:Int)=>br (decide (s<v)) (next (z.2,QI.wrap (z.2+1)) H1) (next (z.1,QI.wrap (z.2+1)) H1))) (next (z.1,QI.wrap (z.2+1)) H1)) (br (decide (z.1<0)) (R (31:Int) H1) (ae p λw=>ld aq H1 (w.add 2) λ(f:Sl)=>ae f.a λg=>(0<=z.1/\z.1<(f.n:Int))/\ld aC H1 ((g.add (z.1.toNat*7)).add 4) λ(h:Bool)=>br h (KQ.sp p z.1 H1 λ(e:Int) y=>br (e !=0) (R e y) (JC.sp p z.1 y λ(_:Unit) A=>R (0:Int) A)) (JC.sp p z.1 H1 λ(_:Unit) B=>R (0:Int) B))))
theorem II.of:∀{p H R},II.vc p H R->II.sp p H R:=ba [(5,[(3,(ab .i64)),(4,(ab .i64))])] (by kernel_rfl)
def ot.vc (p:Option hY)(e:Int)(H:aa)(R:Kp Int):Prop:=
 br (((e==4)||(e==5))||(e==20)) (ae p λa=>st H (a.add 6) (.int .i64 e) λH1=>R e H1) (R e H)
theorem ot.of:∀{p e H R},ot.vc p e H R->ot.sp p e H R:=ba [] (by kernel_rfl)
def GO.vc (b:Sl)(H:aa)(R:Kp (Int×Sl×Int)):Prop:=
 br ((b.n:Int)!=512) (R ((0:Int),(Sl.mk none 0 0),(2:Int)) H) (ae b.a λa=>(0<=(4:Int)/\(4:Int)<(b.n:Int))/\ld (ab .u8) H (a.add ((4:Int).toNat*1)) λ(x:Int)=>ae b.a λe=>(0<=(5:Int)/\(5:Int)<(b.n:Int))/\ld (ab .u8) H (e.add ((5:Int).toNat*1)) λ(c:Int)=>br (decide ((QI.wrap ((QI.wrap x)+(QI.wrap ((256:Int)*(QI.wrap c)))))>504)) (R ((0:Int),(Sl.mk none 0 0),(20:Int)) H) ((0<=(QI.wrap ((8:Int)+(QI.wrap ((QI.wrap x)+(QI.wrap ((256:Int)*(QI.wrap c)))))))/\(QI.wrap ((8:Int)+(QI.wrap ((QI.wrap x)+(QI.wrap ((256:Int)*(QI.wrap c)))))))<=(b.c:Int))/\(0<=(8:Int)/\(8:Int)<=(QI.wrap ((8:Int)+(QI.wrap ((QI.wrap x)+(QI.wrap ((256:Int)*(QI.wrap c))))))))/\bf aq QH (QM #[eK,eK] eK #[.slice none 0 0,(.slice (cM b.a b.c ((8:Int).toNat) 1) (((QI.wrap ((8:Int)+(QI.wrap ((QI.wrap x)+(QI.wrap ((256:Int)*(QI.wrap c))))))).toNat) - ((8:Int).toNat)) (b.c - ((8:Int).toNat)))]) H λ(s:Sl) H1=>ae b.a λf=>(0<=(6:Int)/\(6:Int)<(b.n:Int))/\ld (ab .u8) H1 (f.add ((6:Int).toNat*1)) λ(g:Int)=>Ig.sp g s H1 λ(r:(Sl×Int)) d=>xw d r.1.a r.1.n λ(str:ByteArray)=>xw d b.a b.n λ(str_1:ByteArray)=>br (!(str.toList==str_1.toList)) (R ((0:Int),(Sl.mk none 0 0),(20:Int)) d) (ae b.a λh=>(0<=(6:Int)/\(6:Int)<(b.n:Int))/\ld (ab .u8) d (h.add ((6:Int).toNat*1)) λ(i:Int)=>R (i,s,(0:Int)) d)))
theorem GO.of:∀{b H R},GO.vc b H R->GO.sp b H R:=ba [] (by kernel_rfl)
def ER.vc (p:Option hY)(A:ByteArray)(e f:Int)(g:ByteArray)(h:Bool)(i:Sl)(j:Int)(H:aa)(R:Kp Int):Prop:=
 aG H #[.string A,.int .i64 e,.int .u8 f,.string g,.bool h,i.v,.int .i64 j] vh λk H1=>∃G:aa->Prop,G H1/\ae p λa=>dE aq G (a.add 2) λ(x:Sl)=>cN (bR [aN,(ab .i64),(ab .u8),aN,aC,aq,(ab .i64)]) 7 H1 k λ(b:(ByteArray×Int×Int×ByteArray×Bool×Sl×Int))=>aG H1 #[.string b.1,.int .i64 b.2.1,.int .u8 b.2.2.1,.string b.2.2.2.1,.bool b.2.2.2.2.1,b.2.2.2.2.2.1.v,.int .i64 b.2.2.2.2.2.2] vh λl y=>G y/\bf aq QH (QM #[Ej,Ej] Ej #[x.v,.slice (some l) 1 1]) y λ(s:Sl) B=>ae p λm=>st B (m.add 2) s.v λn=>ae p λo=>ld (ab .i64) n (o.add 5) λ(c:Int)=>ae p λq=>ld aq n (q.add 2) λ(d:Sl)=>ae p λt=>st n (t.add 5) (.int .i64 (if (d.n:Int)>c then (d.n:Int) else c)) λz=>ae p λu=>ld aq z (u.add 2) λ(w:Sl)=>IY.sp p (QI.wrap ((w.n:Int) - 1)) z λ(r:Int) C=>R r C
theorem ER.of:∀{p g a b c d e f H R},ER.vc p g a b c d e f H R->ER.sp p g a b c d e f H R:=ba [] (by kernel_rfl)
def IJ.vc (p:Option hY)(h:Int)(H:aa)(R:Kp Int):Prop:=
 ay Int 0 H λnext i H1=>ae p λa=>ld aq H1 (a.add 2) λ(x:Sl)=>br (decide (i<(x.n:Int))) (ay Int 0 H1 λb k c=>ae p λg=>ld aq c (g.add 2) λ(d:Sl)=>ae d.a λj=>(0<=i/\i<(d.n:Int))/\ld aq c ((j.add (i.toNat*7)).add 5) λ(l:Sl)=>br (decide (k<(l.n:Int))) (ae p λm=>ld aq c (m.add 2) λ(e:Sl)=>ae e.a λn=>(0<=i/\i<(e.n:Int))/\ld aq c ((n.add (i.toNat*7)).add 5) λ(f:Sl)=>ae f.a λo=>(0<=k/\k<(f.n:Int))/\ld (ab .i64) c (o.add (k.toNat*1)) λ(q:Int)=>br (q==h) (R i c) (b (QI.wrap (k+1)) c)) (next (QI.wrap (i+1)) c)) (R (-1:Int) H1)
theorem IJ.of:∀{p h H R},IJ.vc p h H R->IJ.sp p h H R:=ba [(2,[(5,(ab .i64))]),(5,[(6,(ab .i64))])] (by kernel_rfl)
def KQ.vc (p:Option hY)(i:Int)(H:aa)(R:Kp Int):Prop:=
 ∃G:aa->Prop,G H/\ae p λa=>dE aq G (a.add 2) λ(x:Sl)=>ae x.a λj=>(0<=i/\i<(x.n:Int))/\dE (ab .u8) G ((j.add (i.toNat*7)).add 2) λ(k:Int)=>ae p λl=>ld aq H (l.add 2) λ(d:Sl)=>ae d.a λm=>(0<=i/\i<(d.n:Int))/\ld aN H ((m.add (i.toNat*7)).add 3) λ(n:ByteArray)=>bf aq QH (convert dG eK (.string n)) H λ(o:Sl) H1=>G H1/\Ig.sp k o H1 λ(r:(Sl×Int)) c=>ae p λq=>ld aB c (q.add 0) λ(s:Option hY)=>ae p λt=>ld aq c (t.add 2) λ(f:Sl)=>ae f.a λu=>(0<=i/\i<(f.n:Int))/\ld aN c ((u.add (i.toNat*7)).add 0) λ(v:ByteArray)=>ae p λw=>ld aq c (w.add 2) λ(g:Sl)=>ae g.a λy=>(0<=i/\i<(g.n:Int))/\ld (ab .i64) c ((y.add (i.toNat*7)).add 1) λ(z:Int)=>IN.sp s v z r.1 c λ(e:Int) A=>br (e==0) (ae p λB=>ld aq A (B.add 2) λ(b:Sl)=>ae b.a λh=>(0<=i/\i<(b.n:Int))/\st A ((h.add (i.toNat*7)).add 4) (.bool false) λC=>R e C) (R e A)
theorem KQ.of:∀{p i H R},KQ.vc p i H R->KQ.sp p i H R:=ba [] (by kernel_rfl)
def LZ.vc (d:Option hY)(name:ByteArray)(H:aa)(R:Kp Int):Prop:=
 CD.sp d name H λ(i:Int) H1=>ae d λa=>ld aC H1 (a.add 8) λ(x:Bool)=>br x (R (4:Int) H1) (br (decide (i<0)) (R (11:Int) H1) (FN.sp d H1 λ(e:Int) c=>br (e==0) (∃G:aa->Prop,G c/\ae d λj=>dE aq G (j.add 0) λ(f:Sl)=>ae d λk=>ld aq c (k.add 0) λ(g:Sl)=>ae g.a λl=>(0<=i/\i<(g.n:Int))/\cN (bR [aN,aq,aq]) 3 c (l.add (i.toNat*3)) λ(b:(ByteArray×Sl×Sl))=>FC.sp b.1 b.2.1 b.2.2 c λ(r:Sl) p=>G p/\ae f.a λm=>(0<=i/\i<(f.n:Int))/\st p ((m.add (i.toNat*3)).add 1) r.v λq=>ae d λn=>ld aq q (n.add 0) λ(h:Sl)=>ae h.a λo=>(0<=i/\i<(h.n:Int))/\st q ((o.add (i.toNat*3)).add 2) (.slice none 0 0) λs=>R e s) (R e c)))
theorem LZ.of:∀{d name H R},LZ.vc d name H R->LZ.sp d name H R:=ba [] (by kernel_rfl)
def MA.vc (i:Int)(H:aa)(R:Kp ByteArray):Prop:=
 Nf.sp i (10:Int) H λ(r:ByteArray) H1=>R r H1
theorem MA.of:∀{i H R},MA.vc i H R->MA.sp i H R:=ba [] (by kernel_rfl)
def Mc.vc (s:Sl)(H:aa)(R:Kp Bool):Prop:=
 KW.sp s H λ(r:Int) H1=>R (decide (r>=0)) H1
theorem Mc.of:∀{s H R},Mc.vc s H R->Mc.sp s H R:=ba [] (by kernel_rfl)
def FV.vc (f:Option hY)(H:aa)(R:Kp Bool):Prop:=
 ae f λa=>ld (ab .i64) H (a.add 5) λ(x:Int)=>R (decide (x>0)) H
theorem FV.of:∀{f H R},FV.vc f H R->FV.sp f H R:=ba [] (by kernel_rfl)
def Ll.vc (d:Option hY)(name:ByteArray)(H:aa)(R:Kp Int):Prop:=
 FJ.sp d name H λ(r:(Option hY×Int)) H1=>br (r.2!=0) (R r.2 H1) (Fg.sp d H1 λ(e:Int) a=>br (e==0) (LG.sp d name a λ(_:Unit) b=>R e b) (R e a))
theorem Ll.of:∀{d name H R},Ll.vc d name H R->Ll.sp d name H R:=ba [] (by kernel_rfl)
def Jv.vc (p:Option hY)(H:aa)(R:Kp Int):Prop:=
 ae p λa=>ld cd H (a.add 2) λ(x:Option Nat)=>Ct H x λ(n:Nat)=>ae p λg=>ld (ab .i64) H (g.add 1) λ(h:Int)=>br (decide ((n:Int)<h)) (R (0:Int) H) (K8.sp p H λ(f:Option hY) H1=>br f.isNone (R (31:Int) H1) (ae f λi=>ld aC H1 (i.add 4) λ(j:Bool)=>br j (Fx.sp p f H1 λ(e:Int) d=>br (e !=0) (R e d) (ae p λk=>ld cd d (k.add 2) λ(l:Option Nat)=>ae f λm=>cN (bR [aN,(ab .i64)]) 2 d (m.add 0) λ(b:(ByteArray×Int))=>bf gR QH (Sj #[zv,yn] BN #[.map l,(.agg #[.string b.1,.int .i64 b.2])]) d λ(_:gp) s=>R (0:Int) s)) (ae p λo=>ld cd H1 (o.add 2) λ(q:Option Nat)=>ae f λr=>cN (bR [aN,(ab .i64)]) 2 H1 (r.add 0) λ(c:(ByteArray×Int))=>bf gR QH (Sj #[zv,yn] BN #[.map q,(.agg #[.string c.1,.int .i64 c.2])]) H1 λ(_:gp) t=>R (0:Int) t)))
theorem Jv.of:∀{p H R},Jv.vc p H R->Jv.sp p H R:=ba [] (by kernel_rfl)
def LL.vc (b:Sl)(H:aa)(R:Kp (Int×Sl×Int)):Prop:=
 br ((b.n:Int)!=512) (R ((0:Int),(Sl.mk none 0 0),(2:Int)) H) ((0<=(4:Int)/\(4:Int)<=(b.n:Int))/\J6.sp (Sl.mk (cM b.a b.c ((4:Int).toNat) 1) (b.n - ((4:Int).toNat)) (b.c - ((4:Int).toNat))) H λ(n:Int) H1=>ay Int 0 H1 λnext z e=>br (decide (z<4)) (ae b.a λa=>(0<=z/\z<(b.n:Int))/\ld (ab .u8) e (a.add (z.toNat*1)) λ(x:Int)=>0<=(QI.wrap ((8:Int)*z))/\br (x !=(RE.wrap (dQ .u32 n (QI.wrap ((8:Int)*z))))) (R ((0:Int),(Sl.mk none 0 0),(20:Int)) e) (next (QI.wrap (z+1)) e)) (ae b.a λf=>(0<=(4:Int)/\(4:Int)<(b.n:Int))/\ld (ab .u8) e (f.add ((4:Int).toNat*1)) λ(c:Int)=>ae b.a λg=>(0<=(5:Int)/\(5:Int)<(b.n:Int))/\ld (ab .u8) e (g.add ((5:Int).toNat*1)) λ(d:Int)=>br (decide ((AN .i64 (QI.wrap c) (lW .i64 (QI.wrap d) (8:Int)))>504)) (R ((0:Int),(Sl.mk none 0 0),(20:Int)) e) (ae b.a λh=>(0<=(7:Int)/\(7:Int)<(b.n:Int))/\ld (ab .u8) e (h.add ((7:Int).toNat*1)) λ(i:Int)=>br (i !=157) (R ((0:Int),(Sl.mk none 0 0),(20:Int)) e) ((0<=(QI.wrap ((8:Int)+(AN .i64 (QI.wrap c) (lW .i64 (QI.wrap d) (8:Int)))))/\(QI.wrap ((8:Int)+(AN .i64 (QI.wrap c) (lW .i64 (QI.wrap d) (8:Int)))))<=(b.n:Int))/\LA.sp (Sl.mk (cM b.a b.c ((QI.wrap ((8:Int)+(AN .i64 (QI.wrap c) (lW .i64 (QI.wrap d) (8:Int))))).toNat) 1) (b.n - ((QI.wrap ((8:Int)+(AN .i64 (QI.wrap c) (lW .i64 (QI.wrap d) (8:Int))))).toNat)) (b.c - ((QI.wrap ((8:Int)+(AN .i64 (QI.wrap c) (lW .i64 (QI.wrap d) (8:Int))))).toNat))) e λ(r:Bool) j=>br r (R ((0:Int),(Sl.mk none 0 0),(20:Int)) j) (∃G:aa->Prop,G j/\ae b.a λk=>(0<=(6:Int)/\(6:Int)<(b.n:Int))/\dE (ab .u8) G (k.add ((6:Int).toNat*1)) λ(l:Int)=>(0<=(QI.wrap ((8:Int)+(AN .i64 (QI.wrap c) (lW .i64 (QI.wrap d) (8:Int)))))/\(QI.wrap ((8:Int)+(AN .i64 (QI.wrap c) (lW .i64 (QI.wrap d) (8:Int)))))<=(b.c:Int))/\(0<=(8:Int)/\(8:Int)<=(QI.wrap ((8:Int)+(AN .i64 (QI.wrap c) (lW .i64 (QI.wrap d) (8:Int))))))/\Fy.sp (Sl.mk (cM b.a b.c ((8:Int).toNat) 1) (((QI.wrap ((8:Int)+(AN .i64 (QI.wrap c) (lW .i64 (QI.wrap d) (8:Int))))).toNat) - ((8:Int).toNat)) (b.c - ((8:Int).toNat))) j λ(m:Sl) o=>G o/\R (l,m,(0:Int)) o)))))
theorem LL.of:∀{b H R},LL.vc b H R->LL.sp b H R:=ba [(5,[(14,(ab .i64))])] (by kernel_rfl)
def LK.vc (s:Sl)(cap:hY)(H:aa)(R:Kp Sl):Prop:=
 LF.sp s cap H λ(i:Int) H1=>br (i==(-1:Int)) (R s H1) (ay (Int×Int) (i,QI.wrap (i+1)) H1 λnext z b=>br (decide (z.2<(s.n:Int))) (ae s.a λa=>(0<=z.2/\z.2<(s.n:Int))/\ld aB b (a.add (z.2.toNat*1)) λ(v:Option hY)=>Fh.sp v cap b λ(r:Bool) d=>br (!r) (ae s.a λc=>(0<=z.1/\z.1<(s.n:Int))/\st d (c.add (z.1.toNat*1)) (.pointer v) λe=>next (QI.wrap (z.1+1),QI.wrap (z.2+1)) e) (next (z.1,QI.wrap (z.2+1)) d)) ((0<=z.1/\z.1<=(s.n:Int))/\bf gR QH (VY #[DM] BN #[.slice (cM s.a s.c z.1.toNat 1) (s.n - z.1.toNat) (s.c - z.1.toNat)]) b λ(_:gp) f=>(0<=z.1/\z.1<=(s.c:Int))/\R (Sl.mk (cM s.a s.c 0 1) (z.1.toNat - 0) (s.c - 0)) f))
theorem LK.of:∀{s cap H R},LK.vc s cap H R->LK.sp s cap H R:=ba [(5,[(5,(ab .i64)),(6,(ab .i64))])] (by kernel_rfl)
def M7.vc (seq:gp)(H:aa)(R:Kp Sl):Prop:=
 Md.sp (Sl.mk none 0 0) seq H λ(r:Sl) H1=>R r H1
theorem M7.of:∀{seq H R},M7.vc seq H R->M7.sp seq H R:=ba [] (by kernel_rfl)
def Mn.vc (m:Option Nat)(H:aa)(R:Kp gp):Prop:=
 aG H #[.map m] zv λp H1=>R (.func (.func Ho.no) #[] #[.pointer (some p)]) H1
theorem Mn.of:∀{m H R},Mn.vc m H R->Mn.sp m H R:=ba [] (by kernel_rfl)
def Fh.vc (f:Option hY)(cap:hY)(H:aa)(R:Kp Bool):Prop:=
 ae f λa=>ld aN H ((a.add 0).add 0) λ(x:ByteArray)=>ld aN H cap λ(b:ByteArray)=>R (!(x.toList==b.toList)) H
theorem Fh.of:∀{f cap H R},Fh.vc f cap H R->Fh.sp f cap H R:=ba [] (by kernel_rfl)
def Fq.vc (a b:Option hY)(H:aa)(R:Kp Int):Prop:=
 ae a λc=>ld (ab .i64) H ((c.add 0).add 1) λ(x:Int)=>ae b λd=>ld (ab .i64) H ((d.add 0).add 1) λ(e:Int)=>R (QI.wrap (x - e)) H
theorem Fq.of:∀{a b H R},Fq.vc a b H R->Fq.sp a b H R:=ba [] (by kernel_rfl)
def Ln.vc (kind:Int)(b:Sl)(H:aa)(R:Kp (Sl×Int)):Prop:=
 br (decide ((b.n:Int)>504)) (R ((Sl.mk none 0 0),(2:Int)) H) (aG H (zc QH Nv) Nv λp H1=>(0<=(4:Int)/\(4:Int)<((512:Nat):Int))/\st H1 (p.add ((4:Int).toNat*1)) (.int .u8 (RE.wrap (b.n:Int))) λd=>(0<=(5:Int)/\(5:Int)<((512:Nat):Int))/\st d (p.add ((5:Int).toNat*1)) (.int .u8 (RE.wrap (dQ .i64 (b.n:Int) (8:Int)))) λe=>(0<=(6:Int)/\(6:Int)<((512:Nat):Int))/\st e (p.add ((6:Int).toNat*1)) (.int .u8 kind) λf=>(0<=(7:Int)/\(7:Int)<((512:Nat):Int))/\st f (p.add ((7:Int).toNat*1)) (.int .u8 157) λg=>(0<=(8:Int)/\(8:Int)<=512)/\bf (ab .i64) QH (Wf #[eK,eK] jm #[(.slice (cM (some p) 512 ((8:Int).toNat) 1) (512 - ((8:Int).toNat)) (512 - ((8:Int).toNat))),b.v]) g λ(_:Int) h=>(0<=(4:Int)/\(4:Int)<=512)/\J6.sp (Sl.mk (cM (some p) 512 ((4:Int).toNat) 1) (512 - ((4:Int).toNat)) (512 - ((4:Int).toNat))) h λ(n:Int) i=>ay Int 0 i λnext z c=>br (decide (z<4)) (0<=(QI.wrap ((8:Int)*z))/\(0<=z/\z<((512:Nat):Int))/\st c (p.add (z.toNat*1)) (.int .u8 (RE.wrap (dQ .u32 n (QI.wrap ((8:Int)*z))))) λj=>next (QI.wrap (z+1)) j) (Fy.sp (Sl.mk (cM (some p) 512 0 1) (512 - 0) (512 - 0)) c λ(r:Sl) a=>R (r,(0:Int)) a))
theorem Ln.of:∀{kind b H R},Ln.vc kind b H R->Ln.sp kind b H R:=ba [(9,[(29,(ab .i64))])] (by kernel_rfl)
def Lb.vc (d:Option hY)(name:ByteArray)(page:Int)(b:Sl)(H:aa)(R:Kp Int):Prop:=
 Ft.sp d H λ(e:Int) H1=>br (e !=0) (R e H1) (br ((b.n:Int)!=512) (R (2:Int) H1) (FJ.sp d name H1 λ(r:(Option hY×Int)) c=>cut Unit (λJ=>br (r.2!=0) (R r.2 c) (br (decide (page<0)) (br (decide (page<0)) (R (12:Int) c) (ae r.1 λa=>ld aq c (a.add 0) λ(x:Sl)=>br (page==(x.n:Int)) (ae d λL=>ld (ab .i64) c (L.add 1) λ(M:Int)=>ae d λN=>ld (ab .i64) c (N.add 3) λ(O:Int)=>br (M==O) (R (5:Int) c) (J () c)) (J () c))) (ae r.1 λP=>ld aq c (P.add 0) λ(Q:Sl)=>br (decide (page>(Q.n:Int))) (R (12:Int) c) (ae r.1 λS=>ld aq c (S.add 0) λ(T:Sl)=>br (page==(T.n:Int)) (ae d λU=>ld (ab .i64) c (U.add 1) λ(V:Int)=>ae d λW=>ld (ab .i64) c (W.add 3) λ(X:Int)=>br (V==X) (R (5:Int) c) (J () c)) (J () c))))) λ(_:Unit) H3=>Fg.sp d H3 λ(h:Int) i=>br (h !=0) (R h i) (cut Unit (λj=>ae r.1 λY=>ld aq i (Y.add 0) λ(Z:Sl)=>br (page==(Z.n:Int)) (ae d λaf=>ld (ab .i64) i (af.add 1) λ(al:Int)=>ae d λan=>st i (an.add 1) (.int .i64 (QI.wrap (al+1))) λH6=>ae d λk=>ld (ab .i64) H6 (k.add 2) λ(l:Int)=>ae d λm=>ld (ab .i64) H6 (m.add 1) λ(f:Int)=>ae d λn=>st H6 (n.add 2) (.int .i64 (if f>l then f else l)) λH7=>j () H7) (j () i)) λ(_:Unit) H5=>∃G:aa->Prop,G H5/\ae r.1 λo=>dE aq G (o.add 2) λ(p:Sl)=>ae d λq=>ld (ab .i64) H5 (q.add 5) λ(t:Int)=>512<=b.n/\ae b.a λu=>Nq ku 512 G u λ(v:Array gp)=>tF ku QH (Instr.build sS #[(0,(.int .i64 t)),(1,(.int .i64 page)),(2,(.agg v))]) λ(y:Array gp)=>bf aq QH (R2 NL 1 #[(0,(.agg y))]) H5 λ(sl:Sl) H8=>G H8/\bf aq QH (QM #[NL,NL] NL #[p.v,sl.v]) H8 λ(s:Sl) H9=>ae r.1 λw=>st H9 (w.add 2) s.v λg=>ae r.1 λz=>ld aq g (z.add 0) λ(A:Sl)=>512<=b.n/\ae b.a λB=>cN ku 512 g B λ(C:Array gp)=>IG.sp A page C g λ(a1:Sl) a6=>ae r.1 λD=>st a6 (D.add 0) a1.v λE=>ae d λF=>ld (ab .i64) E (F.add 5) λ(I:Int)=>ae d λK=>st E (K.add 5) (.int .i64 (QI.wrap (I+1))) λa7=>R (0:Int) a7)))
theorem Lb.of:∀{d name page b H R},Lb.vc d name page b H R->Lb.sp d name page b H R:=ba [(100014,[]),(100020,[])] (by kernel_rfl)
def Fw.vc (l:Nat)(cap d:hY)(H:aa)(R:Kp Unit):Prop:=
 ay Int 0 H λnext i H1=>ld aq H1 cap λ(x:Sl)=>br (decide (i<(x.n:Int))) (ld (ab .i64) H1 d λ(c:Int)=>ld aq H1 cap λ(a:Sl)=>(0<=i/\i<=(a.n:Int))/\ld aq H1 cap λ(e:Sl)=>(0<=(QI.wrap (i+(if ((a.n - i.toNat:Nat):Int)<c then ((a.n - i.toNat:Nat):Int) else c)))/\(QI.wrap (i+(if ((a.n - i.toNat:Nat):Int)<c then ((a.n - i.toNat:Nat):Int) else c)))<=(e.c:Int))/\(0<=(QI.wrap (i+(if ((a.n - i.toNat:Nat):Int)<c then ((a.n - i.toNat:Nat):Int) else c)))/\(QI.wrap (i+(if ((a.n - i.toNat:Nat):Int)<c then ((a.n - i.toNat:Nat):Int) else c)))<=(QI.wrap (i+(if ((a.n - i.toNat:Nat):Int)<c then ((a.n - i.toNat:Nat):Int) else c))))/\(0<=i/\i<=(QI.wrap (i+(if ((a.n - i.toNat:Nat):Int)<c then ((a.n - i.toNat:Nat):Int) else c))))/\cq QH l #[(.slice (cM e.a ((QI.wrap (i+(if ((a.n - i.toNat:Nat):Int)<c then ((a.n - i.toNat:Nat):Int) else c))).toNat) i.toNat 1) ((QI.wrap (i+(if ((a.n - i.toNat:Nat):Int)<c then ((a.n - i.toNat:Nat):Int) else c))).toNat - i.toNat) ((QI.wrap (i+(if ((a.n - i.toNat:Nat):Int)<c then ((a.n - i.toNat:Nat):Int) else c))).toNat - i.toNat))] H1 λ(b:Bool) f=>br (!b) (R () f) (ld (ab .i64) f d λ(g:Int)=>next (QI.wrap (i+g)) f)) (R () H1)
theorem Fw.of:∀{l cap a H R},Fw.vc l cap a H R->Fw.sp l cap a H R:=ba [(1,[(4,(ab .i64))])] (by kernel_rfl)
def Ly.vc (s:Sl)(seq:gp)(H:aa)(R:Kp Sl):Prop:=
 aG H #[s.v] dV λp H1=>qc QH seq H1 (λl rec vs b h=>ji (du.dec [aN] vs) λ(z:ByteArray)=>b[l]?=some (.loop (rec .ready none))/\ld aq (b.setIfInBounds l (.loop (rec .busy none))) p λ(x:Sl)=>aG (b.setIfInBounds l (.loop (rec .busy none))) #[.string z] dG λc j=>bf aq QH (QM #[dV,dV] dV #[x.v,.slice (some c) 1 1]) j λ(d:Sl) k=>st k p d.v λg=>g[l]?=some (.loop (rec .busy none))/\h true (g.setIfInBounds l (.loop (rec .ready none)))) (λr a=>ld aq a p λ(e:Sl)=>a[r]?=some (.deferred (some []))/\R e (a.setIfInBounds r (.deferred none))) (λi r a=>bif Rh i 0 then ld aq a p λ(f:Sl)=>a[r]?=some (.deferred (some []))/\R f (a.setIfInBounds r (.deferred none)) else False) (λr a=>a[r]?=some (.deferred (some []))/\R (Sl.mk none 0 0) (a.setIfInBounds r (.deferred none)))
theorem Ly.of:∀{s seq H R},Ly.vc s seq H R->Ly.sp s seq H R:=ba [(200003,[(7,aN)])] (by kernel_rfl)
def Lp.vc (x:Int)(H:aa)(R:Kp Bool):Prop:=
 R (x !=x) H
theorem Lp.of:∀{x H R},Lp.vc x H R->Lp.sp x H R:=ba [] (by kernel_rfl)
def LN.vc (l x:Sl)(H:aa)(R:Kp Int):Prop:=
 ay (Int×Int) ((0:Int),(l.n:Int)) H λnext z H1=>br (decide (z.1<z.2)) (ae l.a λa=>(0<=(QI.wrap (Rt (QI.wrap (z.1+z.2)) (2:Int)))/\(QI.wrap (Rt (QI.wrap (z.1+z.2)) (2:Int)))<(l.n:Int))/\ld aq H1 (a.add ((QI.wrap (Rt (QI.wrap (z.1+z.2)) (2:Int))).toNat*1)) λ(b:Sl)=>BV.sp b x H1 λ(r:Int) c=>br (decide (r<0)) (next (QI.wrap ((QI.wrap (Rt (QI.wrap (z.1+z.2)) (2:Int)))+1),z.2) c) (next (z.1,QI.wrap (Rt (QI.wrap (z.1+z.2)) (2:Int))) c)) (R z.1 H1)
theorem LN.of:∀{l x H R},LN.vc l x H R->LN.sp l x H R:=ba [(2,[(5,(ab .i64)),(6,(ab .i64))])] (by kernel_rfl)
def KM.vc (p:Option hY)(name:ByteArray)(H:aa)(R:Kp Int):Prop:=
 ae p λa=>ld (ab .i64) H (a.add 6) λ(x:Int)=>br (x !=0) (ae p λj=>ld (ab .i64) H (j.add 6) λ(k:Int)=>R k H) (ae p λm=>ld aB H (m.add 0) λ(n:Option hY)=>DQ.sp n name H λ(r:(Int×Int)) H1=>br (r.2!=0) (ot.sp p r.2 H1 λ(o:Int) J=>R o J) (ay (Sl×Int) ((Sl.mk none 0 0),(0:Int)) H1 λnext z c=>ae p λq=>ld aq c (q.add 2) λ(s:Sl)=>br (decide (z.2<(s.n:Int))) (ae p λt=>ld aq c (t.add 2) λ(d:Sl)=>ae d.a λu=>(0<=z.2/\z.2<(d.n:Int))/\ld aN c ((u.add (z.2.toNat*7)).add 0) λ(w:ByteArray)=>br (!(w.toList==name.toList)) (ae p λy=>ld aq c (y.add 2) λ(e:Sl)=>ae e.a λA=>(0<=z.2/\z.2<(e.n:Int))/\cN (bR [aN,(ab .i64),(ab .u8),aN,aC,aq,(ab .i64)]) 7 c (A.add (z.2.toNat*7)) λ(b:(ByteArray×Int×Int×ByteArray×Bool×Sl×Int))=>aG c #[.string b.1,.int .i64 b.2.1,.int .u8 b.2.2.1,.string b.2.2.2.1,.bool b.2.2.2.2.1,b.2.2.2.2.2.1.v,.int .i64 b.2.2.2.2.2.2] vh λB K=>bf aq QH (QM #[Ej,Ej] Ej #[z.1.v,.slice (some B) 1 1]) K λ(l:Sl) L=>next (l,QI.wrap (z.2+1)) L) (ae p λC=>ld aq c (C.add 2) λ(f:Sl)=>ae f.a λD=>(0<=z.2/\z.2<(f.n:Int))/\ld aq c ((D.add (z.2.toNat*7)).add 5) λ(E:Sl)=>br (decide ((E.n:Int)>0)) (R (31:Int) c) (next (z.1,QI.wrap (z.2+1)) c))) (ae p λg=>st c (g.add 2) z.1.v λI=>ae p λh=>ld aB I (h.add 0) λ(i:Option hY)=>LO.sp i name I λ(F:Int) M=>ot.sp p F M λ(G:Int) N=>R G N)))
theorem KM.of:∀{p name H R},KM.vc p name H R->KM.sp p name H R:=ba [(8,[(7,aq),(8,(ab .i64))])] (by kernel_rfl)
def Ig.vc (kind:Int)(b:Sl)(H:aa)(R:Kp (Sl×Int)):Prop:=
 br (decide ((b.n:Int)>504)) (R ((Sl.mk none 0 0),(2:Int)) H) (aG H #[(.int .u8 (RE.wrap (RP (b.n:Int) (256:Int)))),(.int .u8 (RE.wrap (QI.wrap (Rt (b.n:Int) (256:Int))))),.int .u8 kind,.int .u8 157] fU λc H1=>bf aq QH (QM #[eK,eK] eK #[.slice (some c) 4 4,b.v]) H1 λ(rest:Sl) f=>bf aq QH (QM #[eK,jm] eK #[rest.v,(.int .i64 (QI.wrap ((508:Int) - (rest.n:Int))))]) f λ(a:Sl) g=>Lx.sp a g λ(n:Int) h=>ay (Sl×Int) ((Sl.mk none 0 0),(0:Int)) h λnext z e=>br (decide (z.2<4)) (0<=(QI.wrap ((8:Int)*z.2))/\aG e #[(.int .u8 (RE.wrap (dQ .u32 n (QI.wrap ((8:Int)*z.2)))))] fU λp i=>bf aq QH (QM #[eK,eK] eK #[z.1.v,.slice (some p) 1 1]) i λ(out:Sl) j=>next (out,QI.wrap (z.2+1)) j) (bf aq QH (QM #[eK,eK] eK #[z.1.v,a.v]) e λ(d:Sl) k=>R (d,(0:Int)) k))
theorem Ig.of:∀{kind b H R},Ig.vc kind b H R->Ig.sp kind b H R:=ba [(9,[(8,aq),(9,(ab .i64))])] (by kernel_rfl)
def IN.vc (d:Option hY)(name:ByteArray)(page:Int)(b:Sl)(H:aa)(R:Kp Int):Prop:=
 CD.sp d name H λ(i:Int) H1=>ae d λa=>ld aC H1 (a.add 8) λ(x:Bool)=>br x (R (4:Int) H1) (br ((b.n:Int)!=512) (R (2:Int) H1) (br (decide (i<0)) (R (11:Int) H1) (ae d λw=>ld aq H1 (w.add 0) λ(h:Sl)=>ae h.a λy=>(0<=i/\i<(h.n:Int))/\cN (bR [aN,aq,aq]) 3 H1 (y.add (i.toNat*3)) λ(f:(ByteArray×Sl×Sl))=>FC.sp f.1 f.2.1 f.2.2 H1 λ(r:Sl) u=>cut Unit (λJ=>br ((decide (page<0))||(decide (page>(r.n:Int)))) (R (12:Int) u) (∃G:aa->Prop,G u/\br (page==(r.n:Int)) (KA.sp d u λ(z:Int) A=>G A/\ae d λB=>dE (ab .i64) G (B.add 2) λ(C:Int)=>br (decide (z>=C)) (R (5:Int) A) (J () A)) (J () u))) λ(_:Unit) V=>FN.sp d V λ(e:Int) v=>br (e !=0) (R e v) (∃c:aa->Prop,c v/\ae d λD=>dE aq c (D.add 0) λ(j:Sl)=>ae d λE=>dE aq c (E.add 0) λ(k:Sl)=>ae k.a λF=>(0<=i/\i<(k.n:Int))/\dE aq c ((F.add (i.toNat*3)).add 2) λ(I:Sl)=>ae d λK=>ld (ab .i64) v (K.add 4) λ(L:Int)=>NX c b.a b.n λ(str:ByteArray)=>aG v #[.int .i64 L,.int .i64 page,.string str] AO λp Q=>c Q/\bf aq QH (QM #[OC,OC] OC #[I.v,.slice (some p) 1 1]) Q λ(s:Sl) S=>c S/\ae j.a λM=>(0<=i/\i<(j.n:Int))/\st S ((M.add (i.toNat*3)).add 2) s.v λT=>ae d λN=>ld (ab .i64) T (N.add 4) λ(O:Int)=>ae d λl=>st T (l.add 4) (.int .i64 (QI.wrap (O+1))) λU=>∃g:aa->Prop,g U/\ae d λm=>dE (ab .i64) g (m.add 1) λ(n:Int)=>KA.sp d U λ(o:Int) q=>g q/\ae d λt=>st q (t.add 1) (.int .i64 (if o>n then o else n)) λP=>R (0:Int) P))))
theorem IN.of:∀{d name page b H R},IN.vc d name page b H R->IN.sp d name page b H R:=ba [(100013,[])] (by kernel_rfl)
def JC.vc (p:Option hY)(i:Int)(H:aa)(R:Kp Unit):Prop:=
 ae p λa=>ld aq H (a.add 2) λ(x:Sl)=>(0<=i/\i<=(x.c:Int))/\bf aq QH (QM #[Ej,Ej] Ej #[.slice none 0 0,.slice (cM x.a x.c 0 7) (i.toNat - 0) (x.c - 0)]) H λ(l:Sl) H1=>ae p λc=>ld aq H1 (c.add 2) λ(b:Sl)=>(0<=(QI.wrap (i+1))/\(QI.wrap (i+1))<=(b.n:Int))/\bf aq QH (QM #[Ej,Ej] Ej #[l.v,(.slice (cM b.a b.c ((QI.wrap (i+1)).toNat) 7) (b.n - ((QI.wrap (i+1)).toNat)) (b.c - ((QI.wrap (i+1)).toNat)))]) H1 λ(d:Sl) f=>ae p λe=>st f (e.add 2) d.v λg=>R () g
theorem JC.of:∀{p i H R},JC.vc p i H R->JC.sp p i H R:=ba [] (by kernel_rfl)
def Nf.vc (i base:Int)(H:aa)(R:Kp ByteArray):Prop:=
 br (base==10) (br ((decide ((0:Int)<=i))&&(decide (i<100))) (M1.sp i H λ(r:ByteArray) H1=>R r H1) (aG H (zc QH Pa) Pa λp h=>br (decide (i<0)) (O8.sp (Rj.wrap (0 - (Rj.wrap i))) h λ(b:Int) l=>(0<=(QI.wrap ((1:Int)+b))/\(QI.wrap ((1:Int)+b))<=24)/\(0<=(1:Int)/\(1:Int)<=(QI.wrap ((1:Int)+b)))/\Po.sp (Sl.mk (cM (some p) 24 ((1:Int).toNat) 1) (((QI.wrap ((1:Int)+b)).toNat) - ((1:Int).toNat)) (24 - ((1:Int).toNat))) (Rj.wrap (0 - (Rj.wrap i))) l λ(_:Unit) e=>br (decide (i<0)) ((0<=(0:Int)/\(0:Int)<((24:Nat):Int))/\st e (p.add ((0:Int).toNat*1)) (.int .u8 45) λj=>(0<=(QI.wrap ((1:Int)+b))/\(QI.wrap ((1:Int)+b))<=24)/\xw j (cM (some p) 24 0 1) (((QI.wrap ((1:Int)+b)).toNat) - 0) λ(str:ByteArray)=>R str j) ((0<=(QI.wrap ((1:Int)+b))/\(QI.wrap ((1:Int)+b))<=24)/\(0<=(1:Int)/\(1:Int)<=(QI.wrap ((1:Int)+b)))/\xw e (cM (some p) 24 ((1:Int).toNat) 1) (((QI.wrap ((1:Int)+b)).toNat) - ((1:Int).toNat)) λ(str_1:ByteArray)=>R str_1 e)) (O8.sp (Rj.wrap i) h λ(a:Int) m=>(0<=(QI.wrap ((1:Int)+a))/\(QI.wrap ((1:Int)+a))<=24)/\(0<=(1:Int)/\(1:Int)<=(QI.wrap ((1:Int)+a)))/\Po.sp (Sl.mk (cM (some p) 24 ((1:Int).toNat) 1) (((QI.wrap ((1:Int)+a)).toNat) - ((1:Int).toNat)) (24 - ((1:Int).toNat))) (Rj.wrap i) m λ(_:Unit) f=>br (decide (i<0)) ((0<=(0:Int)/\(0:Int)<((24:Nat):Int))/\st f (p.add ((0:Int).toNat*1)) (.int .u8 45) λk=>(0<=(QI.wrap ((1:Int)+a))/\(QI.wrap ((1:Int)+a))<=24)/\xw k (cM (some p) 24 0 1) (((QI.wrap ((1:Int)+a)).toNat) - 0) λ(c:ByteArray)=>R c k) ((0<=(QI.wrap ((1:Int)+a))/\(QI.wrap ((1:Int)+a))<=24)/\(0<=(1:Int)/\(1:Int)<=(QI.wrap ((1:Int)+a)))/\xw f (cM (some p) 24 ((1:Int).toNat) 1) (((QI.wrap ((1:Int)+a)).toNat) - ((1:Int).toNat)) λ(d:ByteArray)=>R d f)))) (Pt.sp (Sl.mk none 0 0) (Rj.wrap i) base (decide (i<0)) false H λ(g:(Sl×ByteArray)) n=>R g.2 n)
theorem Nf.of:∀{i base H R},Nf.vc i base H R->Nf.sp i base H R:=ba [] (by kernel_rfl)
def KW.vc (s:Sl)(H:aa)(R:Kp Int):Prop:=
 ay Int 0 H λnext z H1=>br (decide (z<(s.n:Int))) (ae s.a λa=>(0<=z/\z<(s.n:Int))/\ld aB H1 (a.add (z.toNat*1)) λ(x:Option hY)=>FV.sp x H1 λ(r:Bool) b=>br r (R z b) (next (QI.wrap (z+1)) b)) (R (-1:Int) H1)
theorem KW.of:∀{s H R},KW.vc s H R->KW.sp s H R:=ba [(2,[(8,(ab .i64))])] (by kernel_rfl)
def LF.vc (s:Sl)(cap:hY)(H:aa)(R:Kp Int):Prop:=
 ay Int 0 H λnext z H1=>br (decide (z<(s.n:Int))) (ae s.a λa=>(0<=z/\z<(s.n:Int))/\ld aB H1 (a.add (z.toNat*1)) λ(x:Option hY)=>Fh.sp x cap H1 λ(r:Bool) b=>br r (R z b) (next (QI.wrap (z+1)) b)) (R (-1:Int) H1)
theorem LF.of:∀{s cap H R},LF.vc s cap H R->LF.sp s cap H R:=ba [(2,[(8,(ab .i64))])] (by kernel_rfl)
def LG.vc (d:Option hY)(name:ByteArray)(H:aa)(R:Kp Unit):Prop:=
 ae d λa=>ld cd H (a.add 0) λ(x:Option Nat)=>Fs (aW [aB,aC]) QH (Sd AJ (.map x) (.string name) true) H λ(b:(Option hY×Bool))=>br b.2 (ae d λc=>ld (ab .i64) H (c.add 1) λ(e:Int)=>ae b.1 λf=>ld aq H (f.add 0) λ(g:Sl)=>ae d λh=>st H (h.add 1) (.int .i64 (QI.wrap (e - (g.n:Int)))) λH1=>ae d λi=>ld cd H1 (i.add 0) λ(j:Option Nat)=>bf gR QH (Sj #[AJ,dG] BN #[.map j,.string name]) H1 λ(_:gp) k=>R () k) (R () H)
theorem LG.of:∀{d name H R},LG.vc d name H R->LG.sp d name H R:=ba [] (by kernel_rfl)
def K8.vc (p:Option hY)(H:aa)(R:Kp (Option hY)):Prop:=
 ae p λa=>ld cd H (a.add 2) λ(x:Option Nat)=>bf aB QH (SS zv (.map x)) H λ(it:Option hY) H1=>ay (Option hY) none H1 λnext ky g=>bf gM QH (SO (.pointer it) false BN) g λ(h:Bool×List gp) d=>br h.1 (bf pS QH (Sr (.pointer it)) d λ(i:gp×gp) j=>JA aB i.2 λ(f:Option hY)=>Jh.sp f j λ(r:Bool) b=>br r (br ky.isNone (next f b) (Kj.sp f ky b λ(c:Bool) e=>br c (next f e) (next ky e))) (next ky b)) (R ky d)
theorem K8.of:∀{p H R},K8.vc p H R->K8.sp p H R:=ba [(3,[(7,aB)])] (by kernel_rfl)
def Jh.vc (f:Option hY)(H:aa)(R:Kp Bool):Prop:=
 ae f λa=>ld (ab .i64) H (a.add 5) λ(x:Int)=>R (x==0) H
theorem Jh.of:∀{f H R},Jh.vc f H R->Jh.sp f H R:=ba [] (by kernel_rfl)
def Kj.vc (a b:Option hY)(H:aa)(R:Kp Bool):Prop:=
 ae a λc=>ld (ab .i64) H (c.add 6) λ(x:Int)=>ae b λd=>ld (ab .i64) H (d.add 6) λ(e:Int)=>R (decide (x<e)) H
theorem Kj.of:∀{a b H R},Kj.vc a b H R->Kj.sp a b H R:=ba [] (by kernel_rfl)
def J6.vc (b:Sl)(H:aa)(R:Kp Int):Prop:=
 ay (Int×Int) ((4294967295:Int),(0:Int)) H λnext z H1=>br (decide (z.2<(b.n:Int))) (ae b.a λa=>(0<=z.2/\z.2<(b.n:Int))/\ld (ab .u8) H1 (a.add (z.2.toNat*1)) λ(c:Int)=>(0<=(mS .u32 (jj .u32 z.1 (Ss.wrap c)) (15:Int))/\(mS .u32 (jj .u32 z.1 (Ss.wrap c)) (15:Int))<((16:Nat):Int))/\ld (ab .u32) H1 ((abn 0 0 none).add ((mS .u32 (jj .u32 z.1 (Ss.wrap c)) (15:Int)).toNat*1)) λ(x:Int)=>(0<=(mS .u32 (jj .u32 (dQ .u32 (jj .u32 z.1 (Ss.wrap c)) (4:Int)) x) (15:Int))/\(mS .u32 (jj .u32 (dQ .u32 (jj .u32 z.1 (Ss.wrap c)) (4:Int)) x) (15:Int))<((16:Nat):Int))/\ld (ab .u32) H1 ((abn 0 0 none).add ((mS .u32 (jj .u32 (dQ .u32 (jj .u32 z.1 (Ss.wrap c)) (4:Int)) x) (15:Int)).toNat*1)) λ(d:Int)=>next (jj .u32 (dQ .u32 (jj .u32 (dQ .u32 (jj .u32 z.1 (Ss.wrap c)) (4:Int)) x) (4:Int)) d,QI.wrap (z.2+1)) H1) (R (jj .u32 (4294967295:Int) z.1) H1)
theorem J6.of:∀{b H R},J6.vc b H R->J6.sp b H R:=ba [(3,[(3,(ab .u32)),(8,(ab .i64))])] (by kernel_rfl)
def LA.vc (s:Sl)(H:aa)(R:Kp Bool):Prop:=
 Mj.sp s H λ(r:Int) H1=>R (decide (r>=0)) H1
theorem LA.of:∀{s H R},LA.vc s H R->LA.sp s H R:=ba [] (by kernel_rfl)
def IW.vc (c:Int)(H:aa)(R:Kp Bool):Prop:=
 R (c !=0) H
theorem IW.of:∀{c H R},IW.vc c H R->IW.sp c H R:=ba [] (by kernel_rfl)
def Md.vc (s:Sl)(seq:gp)(H:aa)(R:Kp Sl):Prop:=
 aG H #[s.v] DM λp H1=>qc QH seq H1 (λl rec vs b h=>ji (du.dec [aB] vs) λ(z:Option hY)=>b[l]?=some (.loop (rec .ready none))/\ld aq (b.setIfInBounds l (.loop (rec .busy none))) p λ(x:Sl)=>aG (b.setIfInBounds l (.loop (rec .busy none))) #[.pointer z] uO λc j=>bf aq QH (QM #[DM,DM] DM #[x.v,.slice (some c) 1 1]) j λ(d:Sl) k=>st k p d.v λg=>g[l]?=some (.loop (rec .busy none))/\h true (g.setIfInBounds l (.loop (rec .ready none)))) (λr a=>ld aq a p λ(e:Sl)=>a[r]?=some (.deferred (some []))/\R e (a.setIfInBounds r (.deferred none))) (λi r a=>bif Rh i 0 then ld aq a p λ(f:Sl)=>a[r]?=some (.deferred (some []))/\R f (a.setIfInBounds r (.deferred none)) else False) (λr a=>a[r]?=some (.deferred (some []))/\R (Sl.mk none 0 0) (a.setIfInBounds r (.deferred none)))
theorem Md.of:∀{s seq H R},Md.vc s seq H R->Md.sp s seq H R:=ba [(200003,[(7,aB)])] (by kernel_rfl)
def Ho.vc (l:Nat)(cap:hY)(H:aa)(R:Kp Unit):Prop:=
 ld cd H cap λ(x:Option Nat)=>bf aB QH (SS zv (.map x)) H λ(it:Option hY) H1=>ay Unit () H1 λnext _ d=>bf gM QH (SO (.pointer it) false BN) d λ(e:Bool×List gp) a=>br e.1 (bf pS QH (Sr (.pointer it)) a λ(f:gp×gp) g=>JA aB f.2 λ(v:Option hY)=>cq QH l #[.pointer v] g λ(b:Bool) c=>br (!b) (R () c) (next () c)) (R () a)
theorem Ho.of:∀{l cap H R},Ho.vc l cap H R->Ho.sp l cap H R:=ba [(1,[])] (by kernel_rfl)
def LO.vc (d:Option hY)(name:ByteArray)(H:aa)(R:Kp Int):Prop:=
 ae d λa=>ld aC H (a.add 8) λ(x:Bool)=>br x (R (4:Int) H) (CD.sp d name H λ(r:Int) H1=>br (decide (r<0)) (R (11:Int) H1) (FN.sp d H1 λ(e:Int) c=>br (e==0) (CD.sp d name c λ(b:Int) f=>K0.sp d b f λ(_:Unit) g=>R e g) (R e c)))
theorem LO.of:∀{d name H R},LO.vc d name H R->LO.sp d name H R:=ba [] (by kernel_rfl)
def Lx.vc (b:Sl)(H:aa)(R:Kp Int):Prop:=
 ay (Int×Int) ((4294967295:Int),(0:Int)) H λnext z H1=>br (decide (z.2<(b.n:Int))) (ae b.a λa=>(0<=z.2/\z.2<(b.n:Int))/\ld (ab .u8) H1 (a.add (z.2.toNat*1)) λ(x:Int)=>ay (Int×Int) (jj .u32 z.1 (Ss.wrap x),(0:Int)) H1 λd c e=>br (decide (c.2<8)) (br ((mS .u32 c.1 (1:Int))==1) (d (jj .u32 (dQ .u32 c.1 (1:Int)) (3988292384:Int),QI.wrap (c.2+1)) e) (d (dQ .u32 c.1 (1:Int),QI.wrap (c.2+1)) e)) (next (c.1,QI.wrap (z.2+1)) e)) (R (jj .u32 z.1 (4294967295:Int)) H1)
theorem Lx.of:∀{b H R},Lx.vc b H R->Lx.sp b H R:=ba [(3,[(3,(ab .u32)),(4,(ab .i64))]),(7,[(3,(ab .u32)),(5,(ab .i64))])] (by kernel_rfl)
def KA.vc (d:Option hY)(H:aa)(R:Kp Int):Prop:=
 ay (Int×Int) ((0:Int),(0:Int)) H λnext z H1=>ae d λa=>ld aq H1 (a.add 0) λ(x:Sl)=>br (decide (z.2<(x.n:Int))) (ae d λe=>ld aq H1 (e.add 0) λ(c:Sl)=>ae c.a λf=>(0<=z.2/\z.2<(c.n:Int))/\cN (bR [aN,aq,aq]) 3 H1 (f.add (z.2.toNat*3)) λ(b:(ByteArray×Sl×Sl))=>FC.sp b.1 b.2.1 b.2.2 H1 λ(r:Sl) g=>next (QI.wrap (z.1+(r.n:Int)),QI.wrap (z.2+1)) g) (R z.1 H1)
theorem KA.of:∀{d H R},KA.vc d H R->KA.sp d H R:=ba [(3,[(3,(ab .i64)),(4,(ab .i64))])] (by kernel_rfl)
def M1.vc (i:Int)(H:aa)(R:Kp ByteArray):Prop:=
 br (decide (i<10)) ((0<=(QI.wrap (i+1))/\(QI.wrap (i+1))<=(((Q4 #[48,49,50,51,52,53,54,55,56,57,97,98,99,100,101,102,103,104,105,106,107,108,109,110,111,112,113,114,115,116,117,118,119,120,121,122]).size:Nat):Int))/\(0<=i/\i<=(QI.wrap (i+1)))/\R ((Q4 #[48,49,50,51,52,53,54,55,56,57,97,98,99,100,101,102,103,104,105,106,107,108,109,110,111,112,113,114,115,116,117,118,119,120,121,122]).extract i.toNat ((QI.wrap (i+1)).toNat)) H) ((0<=(QI.wrap ((QI.wrap (i*2))+2))/\(QI.wrap ((QI.wrap (i*2))+2))<=(LY.size:Int))/\(0<=(QI.wrap (i*2))/\(QI.wrap (i*2))<=(QI.wrap ((QI.wrap (i*2))+2)))/\R (LY.extract ((QI.wrap (i*2)).toNat) ((QI.wrap ((QI.wrap (i*2))+2)).toNat)) H)
theorem M1.of:∀{i H R},M1.vc i H R->M1.sp i H R:=ba [] (by kernel_rfl)
def Mj.vc (s:Sl)(H:aa)(R:Kp Int):Prop:=
 ay Int 0 H λnext z H1=>br (decide (z<(s.n:Int))) (ae s.a λa=>(0<=z/\z<(s.n:Int))/\ld (ab .u8) H1 (a.add (z.toNat*1)) λ(x:Int)=>IW.sp x H1 λ(r:Bool) b=>br r (R z b) (next (QI.wrap (z+1)) b)) (R (-1:Int) H1)
theorem Mj.of:∀{s H R},Mj.vc s H R->Mj.sp s H R:=ba [(2,[(8,(ab .i64))])] (by kernel_rfl)
def K0.vc (d:Option hY)(i:Int)(H:aa)(R:Kp Unit):Prop:=
 ae d λa=>ld aq H (a.add 0) λ(x:Sl)=>(0<=i/\i<=(x.c:Int))/\bf aq QH (QM #[EO,EO] EO #[.slice none 0 0,.slice (cM x.a x.c 0 3) (i.toNat - 0) (x.c - 0)]) H λ(l:Sl) H1=>ae d λc=>ld aq H1 (c.add 0) λ(b:Sl)=>(0<=(QI.wrap (i+1))/\(QI.wrap (i+1))<=(b.n:Int))/\bf aq QH (QM #[EO,EO] EO #[l.v,(.slice (cM b.a b.c ((QI.wrap (i+1)).toNat) 3) (b.n - ((QI.wrap (i+1)).toNat)) (b.c - ((QI.wrap (i+1)).toNat)))]) H1 λ(e:Sl) g=>ae d λf=>st g (f.add 0) e.v λh=>R () h
theorem K0.of:∀{d i H R},K0.vc d i H R->K0.sp d i H R:=ba [] (by kernel_rfl)
end
