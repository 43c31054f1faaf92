/-
 Written by wip/tools/gen.py: what the walk of each function asks, in plain form, and that it is enough.
-/
import Derived.Test.YtmkbhnholcaghaaGreatDoorFxf
import Derived.Test.YtmkbhnholcaghaaGreatDoorProg
import Derived.KernelRfl
open ByteArray renaming mk->Pe,empty->Qu
open Go.Addr renaming mk->X8
open Go.Builtin renaming append_->Oa,delete_->PF,clear_->To,copy_->UW
open Go.Instr renaming storeAt->Ot,buildSlice->Ps,lookup->Px,entry->PM,next->P5,range->P9,mapUpdate->Qe,makeSlice->QX
open Go.IntKind renaming i64->N6,u64->OI,u8->O5,u32->PN
open Go.Proofs.Tryz renaming prog->N5
open Int renaming tdiv->OX,tmod->Pq
open Nat renaming beq->OC
namespace Go.Proofs.YtmkbhnholcaghaaGreatDoor
set_option maxRecDepth 100000
theorem y9:N5.follows .mixedOrders=true:=by kernel_rfl
theorem E3:(N5.funcs.toList.all λfn=>!(fn.name=="runtime.NumGoroutine"))=true:=by kernel_rfl
theorem Hc:lQ N5:=by
 intro f fn a;have h1:=List.all_eq_true.1 E3 fn (by
  have:=Array.getElem?_eq_some_iff.1 a;obtain⟨h,e⟩:=this;rw[<-e];simp)
 simpa using h1
theorem aU {c:eO}{f:FuncId}(A:Bc){args:List Value}{H:aa}{R:c.α->aa->Prop}{V:Prop}(e:LF c N5 f A args H R=V)(h:V):ai c N5 f args.toArray H R:=yb Hc y9 (A:=A) (Eq.mpr e h)
abbrev Kp (α:Type):=α->aa->Prop
@[reducible] def Af:TypeId:=0
abbrev ib:TypeId:=3
abbrev Le:TypeId:=4
abbrev fx:TypeId:=5
abbrev dI:TypeId:=9
abbrev ez:TypeId:=22
abbrev Lc:TypeId:=24
abbrev dU:TypeId:=30
abbrev gh:TypeId:=34
abbrev gS:TypeId:=44
abbrev DT:TypeId:=46
abbrev Dh:TypeId:=61
abbrev vT:TypeId:=72
abbrev L9:TypeId:=75
abbrev Md:TypeId:=83
abbrev LJ:TypeId:=85
abbrev Mt:TypeId:=86
abbrev jU:TypeId:=89
abbrev CA:TypeId:=102
abbrev ry:TypeId:=104
abbrev yN:TypeId:=106
abbrev C0:TypeId:=107
abbrev wP:TypeId:=109
abbrev dQ:TypeId:=112
abbrev Lk:TypeId:=115
abbrev Mb:TypeId:=116
abbrev K7:TypeId:=122
abbrev Iw:TypeId:=126
abbrev yM:TypeId:=127
abbrev MH:TypeId:=129
abbrev xp:TypeId:=131
abbrev xO:TypeId:=132
abbrev LM:TypeId:=133
abbrev Cv:TypeId:=135
abbrev qV:TypeId:=140
abbrev GD:TypeId:=147
abbrev MK:TypeId:=149
abbrev Me:TypeId:=152
abbrev wO:TypeId:=169
abbrev tx:TypeId:=170
abbrev KE:TypeId:=172
abbrev tN:TypeId:=175
abbrev Ir:TypeId:=176
abbrev Lq:TypeId:=177
abbrev CL:TypeId:=179
abbrev Lf:TypeId:=180
abbrev uA:TypeId:=181
abbrev qR:TypeId:=183
abbrev L8:TypeId:=189
abbrev ub:TypeId:=191
abbrev yP:TypeId:=193
abbrev Lw:TypeId:=202
abbrev Fj:TypeId:=211
abbrev Cf:TypeId:=218
abbrev MD:TypeId:=292
abbrev NV:TypeId:=311
@[reducible] def J3:ByteArray:=Pe #[48,48,48,49,48,50,48,51,48,52,48,53,48,54,48,55,48,56,48,57,49,48,49,49,49,50,49,51,49,52,49,53,49,54,49,55,49,56,49,57,50,48,50,49,50,50,50,51,50,52,50,53,50,54,50,55,50,56,50,57,51,48,51,49,51,50,51,51,51,52,51,53,51,54,51,55,51,56,51,57,52,48,52,49,52,50,52,51,52,52,52,53,52,54,52,55,52,56,52,57,53,48,53,49,53,50,53,51,53,52,53,53,53,54,53,55,53,56,53,57,54,48,54,49,54,50,54,51,54,52,54,53,54,54,54,55,54,56,54,57,55,48,55,49,55,50,55,51,55,52,55,53,55,54,55,55,55,56,55,57,56,48,56,49,56,50,56,51,56,52,56,53,56,54,56,55,56,56,56,57,57,48,57,49,57,50,57,51,57,52,57,53,57,54,57,55,57,56,57,57]
@[reducible] def MQ:ByteArray:=Pe #[115,116,114,99,111,110,118,58,32,105,108,108,101,103,97,108,32,65,112,112,101,110,100,73,110,116,47,70,111,114,109,97,116,73,110,116,32,98,97,115,101]
abbrev wR.no:FuncId:=17
abbrev DE.no:FuncId:=37
abbrev GA.no:FuncId:=50
abbrev EV.no:FuncId:=96
abbrev E6.no:FuncId:=157
abbrev Eg.no:FuncId:=179
abbrev Dr.no:FuncId:=186
abbrev DJ.no:FuncId:=188
abbrev DB.no:FuncId:=201
abbrev Ja.no:FuncId:=219
abbrev Hv.no:FuncId:=222
abbrev Hj.no:FuncId:=223
abbrev GK.no:FuncId:=226
abbrev Fs.no:FuncId:=228
abbrev KJ.sp (f a b c d e:Int)(rows:Sl)(p:Int)(H:aa)(R:Kp Bool):=ai ay N5 5 #[(.agg #[(.int .i64 f),(.int .i64 a),(.int .i64 b),(.int .i64 c),(.int .i64 d),(.int .u64 e)]),rows.v,(.int .i64 p)] H R
abbrev MZ.sp (j e f g h i:Int)(a b c d:Sl)(H:aa)(R:Kp Bool):=ai ay N5 6 #[(.agg #[(.int .i64 j),(.int .i64 e),(.int .i64 f),(.int .i64 g),(.int .i64 h),(.int .u64 i)]),a.v,b.v,c.v,d.v] H R
abbrev Df.sp (s:Option Addr)(H:aa)(R:Kp (Int×Int)):=ai (aR [(ab .i64),(ab .i64)]) N5 8 #[(.pointer s)] H R
abbrev Hk.sp (p:Option Addr)(name:ByteArray)(width frames:Int)(H:aa)(R:Kp (Option Addr×Int)):=ai (aR [av,(ab .i64)]) N5 9 #[(.pointer p),(.string name),(.int .i64 width),(.int .i64 frames)] H R
abbrev Kt.sp (p:Option Addr)(names:Sl)(to:ByteArray)(width:Int)(H:aa)(R:Kp (Int×Int)):=ai (aR [(ab .i64),(ab .i64)]) N5 10 #[(.pointer p),names.v,(.string to),(.int .i64 width)] H R
abbrev xi.sp (s:Option Addr)(l:Sl)(H:aa)(R:Kp Int):=ai (ab .i64) N5 11 #[(.pointer s),l.v] H R
abbrev GQ.sp (H:aa)(R:Kp Bool):=ai ay N5 12 #[] H R
abbrev Jj.sp (i n:Int)(H:aa)(R:Kp Int):=ai (ab .i64) N5 13 #[(.int .i64 i),(.int .i64 n)] H R
abbrev wR.sp (a b:Sl)(H:aa)(R:Kp Int):=ai (ab .i64) N5 17 #[a.v,b.v] H R
abbrev JT.sp (a b:Sl)(H:aa)(R:Kp Bool):=ai ay N5 19 #[a.v,b.v] H R
abbrev Kc.sp (f a b c d e:Int)(H:aa)(R:Kp (Option Addr×Option Addr×Option Addr×Option Addr)):=ai (aR [av,av,av,av]) N5 20 #[(.agg #[(.int .i64 f),(.int .i64 a),(.int .i64 b),(.int .i64 c),(.int .i64 d),(.int .u64 e)])] H R
abbrev Jo.sp (p:Option Addr)(name:ByteArray)(width frames:Int)(H:aa)(R:Kp (Option Addr×Int)):=ai (aR [av,(ab .i64)]) N5 21 #[(.pointer p),(.string name),(.int .i64 width),(.int .i64 frames)] H R
abbrev GU.sp (d n p m:Option Addr)(H:aa)(R:Kp Bool):=ai ay N5 22 #[(.pointer d),(.pointer n),(.pointer p),(.pointer m)] H R
abbrev I6.sp (l:Sl)(H:aa)(R:Kp Sl):=ai ak N5 23 #[l.v] H R
abbrev CF.sp (s:Option Addr)(l:Sl)(H:aa)(R:Kp Int):=ai (ab .i64) N5 24 #[(.pointer s),l.v] H R
abbrev GP.sp (a l:Sl)(H:aa)(R:Kp Bool):=ai ay N5 25 #[a.v,l.v] H R
abbrev GV.sp (l:Sl)(H:aa)(R:Kp Unit):=ai (aR []) N5 26 #[l.v] H R
abbrev GH.sp (s t:Option Addr)(H:aa)(R:Kp Bool):=ai ay N5 27 #[(.pointer s),(.pointer t)] H R
abbrev Hr.sp (p:Option Addr)(names:Sl)(to:ByteArray)(width:Int)(H:aa)(R:Kp (Int×Int)):=ai (aR [(ab .i64),(ab .i64)]) N5 28 #[(.pointer p),names.v,(.string to),(.int .i64 width)] H R
abbrev HO.sp (quota:Int)(H:aa)(R:Kp (Option Addr)):=ai av N5 29 #[(.int .i64 quota)] H R
abbrev Hs.sp (d:Option Addr)(frames:Int)(H:aa)(R:Kp (Option Addr×Int)):=ai (aR [av,(ab .i64)]) N5 30 #[(.pointer d),(.int .i64 frames)] H R
abbrev Hy.sp (s:Option Addr)(H:aa)(R:Kp Int):=ai (ab .i64) N5 31 #[(.pointer s)] H R
abbrev Jf.sp (s:Option Addr)(H:aa)(R:Kp (Int×Int)):=ai (aR [(ab .i64),(ab .i64)]) N5 32 #[(.pointer s)] H R
abbrev GJ.sp (width:Int)(H:aa)(R:Kp Int):=ai (ab .i64) N5 33 #[(.int .i64 width)] H R
abbrev Ko.sp (p:Option Addr)(H:aa)(R:Kp Int):=ai (ab .i64) N5 34 #[(.pointer p)] H R
abbrev Kf.sp (p:Option Addr)(names:Sl)(width:Int)(H:aa)(R:Kp (Sl×Int)):=ai (aR [ak,(ab .i64)]) N5 35 #[(.pointer p),names.v,(.int .i64 width)] H R
abbrev GZ.sp (p:Option Addr)(name:ByteArray)(width:Int)(H:aa)(R:Kp (Option Addr×Int)):=ai (aR [av,(ab .i64)]) N5 36 #[(.pointer p),(.string name),(.int .i64 width)] H R
abbrev DE.sp (e:Int)(a:Sl)(b:Option Addr)(f:Int)(c:Sl)(d:Option Addr)(H:aa)(R:Kp Bool):=ai ay N5 37 #[(.agg #[(.int .i64 e),a.v,(.pointer b)]),(.agg #[(.int .i64 f),c.v,(.pointer d)])] H R
abbrev GY.sp (h:Option Addr)(c:Int)(a:Sl)(b:Option Addr)(H:aa)(R:Kp Int):=ai (ab .i64) N5 38 #[(.pointer h),(.agg #[(.int .i64 c),a.v,(.pointer b)])] H R
abbrev IZ.sp (h:Option Addr)(H:aa)(R:Kp (Int×Sl×Option Addr)):=ai (bQ [(ab .i64),ak,av]) N5 39 #[(.pointer h)] H R
abbrev yQ.sp (w:Option Addr)(l:Sl)(H:aa)(R:Kp Int):=ai (ab .i64) N5 40 #[(.pointer w),l.v] H R
abbrev Is.sp (r:Option Addr)(H:aa)(R:Kp Unit):=ai (aR []) N5 41 #[(.pointer r)] H R
abbrev Fb.sp (w:Option Addr)(H:aa)(R:Kp (Int×Int)):=ai (aR [(ab .i64),(ab .i64)]) N5 42 #[(.pointer w)] H R
abbrev G4.sp (s:Sl)(H:aa)(R:Kp Sl):=ai ak N5 43 #[s.v] H R
abbrev DU.sp (s:Option Addr)(H:aa)(R:Kp Int):=ai (ab .i64) N5 44 #[(.pointer s)] H R
abbrev Ii.sp (p:Option Addr)(name:ByteArray)(width:Int)(H:aa)(R:Kp (Option Addr×Int)):=ai (aR [av,(ab .i64)]) N5 45 #[(.pointer p),(.string name),(.int .i64 width)] H R
abbrev ET.sp (r:Option Addr)(H:aa)(R:Kp (Sl×Bool×Int)):=ai (aR [ak,ay,(ab .i64)]) N5 46 #[(.pointer r)] H R
abbrev HW.sp (d:Option Addr)(H:aa)(R:Kp Sl):=ai ak N5 47 #[(.pointer d)] H R
abbrev JA.sp (p:Option Addr)(H:aa)(R:Kp Int):=ai (ab .i64) N5 48 #[(.pointer p)] H R
abbrev K4.sp (s1 s2:Sl)(H:aa)(R:Kp Int):=ai (ab .i64) N5 49 #[s1.v,s2.v,(.func (.func GA.no) #[] #[])] H R
abbrev GA.sp (x y:Int)(H:aa)(R:Kp Int):=ai (ab .i64) N5 50 #[(.int .u64 x),(.int .u64 y)] H R
abbrev JP.sp (quota:Int)(H:aa)(R:Kp (Option Addr)):=ai av N5 51 #[(.int .i64 quota)] H R
abbrev Ks.sp (d:Option Addr)(p keep:Int)(H:aa)(R:Kp Unit):=ai (aR []) N5 52 #[(.pointer d),(.int .i64 p),(.int .u64 keep)] H R
abbrev Ki.sp (d:Option Addr)(p keep:Int)(H:aa)(R:Kp Unit):=ai (aR []) N5 53 #[(.pointer d),(.int .i64 p),(.int .u64 keep)] H R
abbrev JO.sp (d:Option Addr)(frames:Int)(H:aa)(R:Kp (Option Addr×Int)):=ai (aR [av,(ab .i64)]) N5 54 #[(.pointer d),(.int .i64 frames)] H R
abbrev Bz.sp (width:Int)(H:aa)(R:Kp Int):=ai (ab .i64) N5 55 #[(.int .i64 width)] H R
abbrev J5.sp (d:Option Addr)(H:aa)(R:Kp Int):=ai (ab .i64) N5 56 #[(.pointer d)] H R
abbrev Jq.sp (d:Option Addr)(H:aa)(R:Kp Bool):=ai ay N5 57 #[(.pointer d)] H R
abbrev Jh.sp (d:Option Addr)(H:aa)(R:Kp Int):=ai (ab .i64) N5 58 #[(.pointer d)] H R
abbrev JZ.sp (p:Option Addr)(H:aa)(R:Kp Int):=ai (ab .i64) N5 59 #[(.pointer p)] H R
abbrev JE.sp (p:Option Addr)(H:aa)(R:Kp Int):=ai (ab .i64) N5 60 #[(.pointer p)] H R
abbrev JM.sp (d:Option Addr)(H:aa)(R:Kp Unit):=ai (aR []) N5 61 #[(.pointer d)] H R
abbrev J7.sp (d:Option Addr)(H:aa)(R:Kp Unit):=ai (aR []) N5 62 #[(.pointer d)] H R
abbrev JU.sp (a b:Sl)(H:aa)(R:Kp Bool):=ai ay N5 63 #[a.v,b.v] H R
abbrev J1.sp (d:Option Addr)(H:aa)(R:Kp Sl):=ai ak N5 64 #[(.pointer d)] H R
abbrev C2.sp (d:Option Addr)(name:ByteArray)(H:aa)(R:Kp (Int×Int)):=ai (aR [(ab .i64),(ab .i64)]) N5 65 #[(.pointer d),(.string name)] H R
abbrev HA.sp (d:Option Addr)(name:ByteArray)(page:Int)(H:aa)(R:Kp (Sl×Int)):=ai (aR [ak,(ab .i64)]) N5 66 #[(.pointer d),(.string name),(.int .i64 page)] H R
abbrev CB.sp (d:Option Addr)(name:ByteArray)(page:Int)(H:aa)(R:Kp (Sl×Int)):=ai (aR [ak,(ab .i64)]) N5 67 #[(.pointer d),(.string name),(.int .i64 page)] H R
abbrev Hq.sp (s:Option Addr)(H:aa)(R:Kp Int):=ai (ab .i64) N5 68 #[(.pointer s)] H R
abbrev Gg.sp (s:Option Addr)(H:aa)(R:Kp Int):=ai (ab .i64) N5 69 #[(.pointer s)] H R
abbrev DI.sp (s:Option Addr)(H:aa)(R:Kp (Int×Int)):=ai (aR [(ab .i64),(ab .i64)]) N5 70 #[(.pointer s)] H R
abbrev G7.sp (p:Option Addr)(name:ByteArray)(width:Int)(H:aa)(R:Kp (Option Addr×Int)):=ai (aR [av,(ab .i64)]) N5 71 #[(.pointer p),(.string name),(.int .i64 width)] H R
abbrev Hm.sp (p:Option Addr)(name:ByteArray)(width:Int)(H:aa)(R:Kp (Option Addr×Int)):=ai (aR [av,(ab .i64)]) N5 72 #[(.pointer p),(.string name),(.int .i64 width)] H R
abbrev BR.sp (r:Option Addr)(H:aa)(R:Kp (Sl×Bool×Int)):=ai (aR [ak,ay,(ab .i64)]) N5 73 #[(.pointer r)] H R
abbrev Am.sp (a b:Sl)(H:aa)(R:Kp Int):=ai (ab .i64) N5 74 #[a.v,b.v] H R
abbrev G5.sp (w:Option Addr)(H:aa)(R:Kp (Int×Int)):=ai (aR [(ab .i64),(ab .i64)]) N5 75 #[(.pointer w)] H R
abbrev AP.sp (w:Option Addr)(l:Sl)(H:aa)(R:Kp Int):=ai (ab .i64) N5 76 #[(.pointer w),l.v] H R
abbrev Im.sp (s:Option Addr)(H:aa)(R:Kp ByteArray):=ai aK N5 77 #[(.pointer s)] H R
abbrev HL.sp (s:Option Addr)(k:Int)(to:ByteArray)(H:aa)(R:Kp (Int×Int)):=ai (aR [(ab .i64),(ab .i64)]) N5 78 #[(.pointer s),(.int .i64 k),(.string to)] H R
abbrev JQ.sp (s:Sl)(H:aa)(R:Kp Sl):=ai ak N5 79 #[s.v] H R
abbrev HZ.sp (width:Int)(H:aa)(R:Kp Int):=ai (ab .i64) N5 80 #[(.int .i64 width)] H R
abbrev Ip.sp (p:Option Addr)(name:ByteArray)(width:Int)(H:aa)(R:Kp ((Option Addr×ByteArray×Int×Int×Int×Bool)×Int)):=ai (aR [(bQ [av,aK,(ab .i64),(ab .i64),(ab .i64),ay]),(ab .i64)]) N5 81 #[(.pointer p),(.string name),(.int .i64 width)] H R
abbrev Hf.sp (p:Option Addr)(H:aa)(R:Kp (Option Addr)):=ai av N5 82 #[(.pointer p)] H R
abbrev JL.sp (d:Option Addr)(name:ByteArray)(H:aa)(R:Kp Int):=ai (ab .i64) N5 83 #[(.pointer d),(.string name)] H R
abbrev G0.sp (b:Option Addr)(kind:Int)(p:Sl)(H:aa)(R:Kp Int):=ai (ab .i64) N5 84 #[(.pointer b),(.int .u8 kind),p.v] H R
abbrev JJ.sp (h:Option Addr)(c:Int)(a:Sl)(b:Option Addr)(H:aa)(R:Kp Unit):=ai (aR []) N5 85 #[(.pointer h),(.agg #[(.int .i64 c),a.v,(.pointer b)])] H R
abbrev GX.sp (b:Option Addr)(H:aa)(R:Kp Int):=ai (ab .i64) N5 86 #[(.pointer b)] H R
abbrev zU.sp (l:Sl)(H:aa)(R:Kp Sl):=ai ak N5 87 #[l.v] H R
abbrev I0.sp (w:Option Addr)(H:aa)(R:Kp Int):=ai (ab .i64) N5 88 #[(.pointer w)] H R
abbrev G2.sp (p:Option Addr)(name:ByteArray)(page:Int)(H:aa)(R:Kp (Int×Int)):=ai (aR [(ab .i64),(ab .i64)]) N5 89 #[(.pointer p),(.string name),(.int .i64 page)] H R
abbrev zX.sp (p:Option Addr)(h kind:Int)(b:Sl)(H:aa)(R:Kp Int):=ai (ab .i64) N5 90 #[(.pointer p),(.int .i64 h),(.int .u8 kind),b.v] H R
abbrev Dz.sp (p:Option Addr)(h:Int)(H:aa)(R:Kp Int):=ai (ab .i64) N5 91 #[(.pointer p),(.int .i64 h)] H R
abbrev IF.sp (p:Option Addr)(name:ByteArray)(H:aa)(R:Kp Int):=ai (ab .i64) N5 92 #[(.pointer p),(.string name)] H R
abbrev BN.sp (b:Option Addr)(e:Int)(H:aa)(R:Kp Int):=ai (ab .i64) N5 93 #[(.pointer b),(.int .i64 e)] H R
abbrev MI.sp (x:Sl)(cmp:Value)(H:aa)(R:Kp Unit):=ai (aR []) N5 94 #[x.v,cmp] H R
abbrev JK.sp (s:Sl)(H:aa)(R:Kp Sl):=ai ak N5 95 #[s.v,(.func (.func EV.no) #[] #[])] H R
abbrev EV.sp (a b:Sl)(H:aa)(R:Kp Bool):=ai ay N5 96 #[a.v,b.v] H R
abbrev ID.sp (b:Option Addr)(page:Int)(H:aa)(R:Kp (Int×Sl×Int)):=ai (aR [(ab .u8),ak,(ab .i64)]) N5 97 #[(.pointer b),(.int .i64 page)] H R
abbrev DF.sp (d:Option Addr)(name:ByteArray)(H:aa)(R:Kp (Int×Int)):=ai (aR [(ab .i64),(ab .i64)]) N5 98 #[(.pointer d),(.string name)] H R
abbrev GN.sp (b:Sl)(width:Int)(H:aa)(R:Kp (Sl×Int)):=ai (aR [ak,(ab .i64)]) N5 99 #[b.v,(.int .i64 width)] H R
abbrev J9.sp (b:Option Addr)(n:Int)(H:aa)(R:Kp Int):=ai (ab .i64) N5 100 #[(.pointer b),(.int .i64 n)] H R
abbrev Jw.sp (r:Option Addr)(k:Int)(H:aa)(R:Kp Int):=ai (ab .i64) N5 101 #[(.pointer r),(.int .i64 k)] H R
abbrev Dv.sp (d:Option Addr)(H:aa)(R:Kp Int):=ai (ab .i64) N5 102 #[(.pointer d)] H R
abbrev KF.sp (seq:Value)(H:aa)(R:Kp Sl):=ai ak N5 103 #[seq] H R
abbrev Ld.sp (m:Option Nat)(H:aa)(R:Kp Value):=ai gi N5 104 #[(.map m)] H R
abbrev HC.sp (x:Int)(H:aa)(R:Kp Bool):=ai ay N5 105 #[(.int .u64 x)] H R
abbrev Hd.sp (width:Int)(H:aa)(R:Kp Int):=ai (ab .i64) N5 106 #[(.int .i64 width)] H R
abbrev ML.sp (x:Sl)(H:aa)(R:Kp Unit):=ai (aR []) N5 107 #[x.v] H R
abbrev Du.sp (s:Sl)(H:aa)(R:Kp Sl):=ai ak N5 108 #[s.v] H R
abbrev IK.sp (x:Sl)(target:Int)(H:aa)(R:Kp (Int×Bool)):=ai (aR [(ab .i64),ay]) N5 109 #[x.v,(.int .i64 target)] H R
abbrev GB.sp (l:Sl)(page:Int)(b:Array Value)(H:aa)(R:Kp Sl):=ai ak N5 110 #[l.v,(.int .i64 page),(.agg b)] H R
abbrev J4.sp (d:Option Addr)(no:Int)(H:aa)(R:Kp Int):=ai (ab .i64) N5 111 #[(.pointer d),(.int .i64 no)] H R
abbrev Hn.sp (l:Sl)(c a:Int)(b:ByteArray)(H:aa)(R:Kp Sl):=ai ak N5 112 #[l.v,(.agg #[(.int .i64 c),(.int .i64 a),(.string b)])] H R
abbrev AR.sp (d:Option Addr)(name:ByteArray)(H:aa)(R:Kp Int):=ai (ab .i64) N5 113 #[(.pointer d),(.string name)] H R
abbrev DH.sp (c:ByteArray)(a b:Sl)(H:aa)(R:Kp Sl):=ai ak N5 114 #[(.agg #[(.string c),a.v,b.v])] H R
abbrev Dx.sp (d:Option Addr)(name:ByteArray)(H:aa)(R:Kp (Option Addr×Int)):=ai (aR [av,(ab .i64)]) N5 115 #[(.pointer d),(.string name)] H R
abbrev DC.sp (s:Sl)(H:aa)(R:Kp Sl):=ai ak N5 116 #[s.v] H R
abbrev Io.sp (s:Option Addr)(H:aa)(R:Kp ByteArray):=ai aK N5 117 #[(.pointer s)] H R
abbrev JW.sp (p:Option Addr)(name:ByteArray)(width:Int)(rows:Sl)(H:aa)(R:Kp Int):=ai (ab .i64) N5 118 #[(.pointer p),(.string name),(.int .i64 width),rows.v] H R
abbrev Jg.sp (rows:Sl)(H:aa)(R:Kp Sl):=ai ak N5 119 #[rows.v] H R
abbrev JX.sp (s:Option Addr)(H:aa)(R:Kp (Int×Int)):=ai (aR [(ab .i64),(ab .i64)]) N5 120 #[(.pointer s)] H R
abbrev HD.sp (b:Option Addr)(page:Int)(H:aa)(R:Kp (Int×Sl×Int)):=ai (aR [(ab .u8),ak,(ab .i64)]) N5 121 #[(.pointer b),(.int .i64 page)] H R
abbrev IQ.sp (b:Sl)(width:Int)(H:aa)(R:Kp (Sl×Int)):=ai (aR [ak,(ab .i64)]) N5 122 #[b.v,(.int .i64 width)] H R
abbrev Js.sp (n room:Int)(H:aa)(R:Kp Int):=ai (ab .i64) N5 123 #[(.int .i64 n),(.int .i64 room)] H R
abbrev JB.sp (d:Option Addr)(name:ByteArray)(H:aa)(R:Kp Int):=ai (ab .i64) N5 124 #[(.pointer d),(.string name)] H R
abbrev I3.sp (b:Option Addr)(kind:Int)(p:Sl)(H:aa)(R:Kp Int):=ai (ab .i64) N5 125 #[(.pointer b),(.int .u8 kind),p.v] H R
abbrev G1.sp (b:Option Addr)(H:aa)(R:Kp Int):=ai (ab .i64) N5 126 #[(.pointer b)] H R
abbrev Jn.sp (r:Option Addr)(k:Int)(H:aa)(R:Kp Int):=ai (ab .i64) N5 127 #[(.pointer r),(.int .i64 k)] H R
abbrev Iy.sp (w:Option Addr)(H:aa)(R:Kp Int):=ai (ab .i64) N5 128 #[(.pointer w)] H R
abbrev Hw.sp (p:Option Addr)(name:ByteArray)(page:Int)(H:aa)(R:Kp (Int×Int)):=ai (aR [(ab .i64),(ab .i64)]) N5 129 #[(.pointer p),(.string name),(.int .i64 page)] H R
abbrev I9.sp (p:Option Addr)(h kind:Int)(b:Sl)(H:aa)(R:Kp Int):=ai (ab .i64) N5 130 #[(.pointer p),(.int .i64 h),(.int .u8 kind),b.v] H R
abbrev Kg.sp (width rows:Int)(H:aa)(R:Kp Sl):=ai ak N5 131 #[(.int .i64 width),(.int .i64 rows)] H R
abbrev EW.sp (p:Option Addr)(h:Int)(H:aa)(R:Kp Int):=ai (ab .i64) N5 132 #[(.pointer p),(.int .i64 h)] H R
abbrev Jv.sp (p:Option Addr)(name:ByteArray)(H:aa)(R:Kp Int):=ai (ab .i64) N5 133 #[(.pointer p),(.string name)] H R
abbrev Cl.sp (b:Option Addr)(e:Int)(H:aa)(R:Kp Int):=ai (ab .i64) N5 134 #[(.pointer b),(.int .i64 e)] H R
abbrev It.sp (l:Sl)(H:aa)(R:Kp Sl):=ai ak N5 135 #[l.v] H R
abbrev Kl.sp (i:Int)(H:aa)(R:Kp ByteArray):=ai aK N5 136 #[(.int .i64 i)] H R
abbrev JD.sp (p:Option Addr)(name:ByteArray)(H:aa)(R:Kp Int):=ai (ab .i64) N5 137 #[(.pointer p),(.string name)] H R
abbrev IG.sp (s:ByteArray)(H:aa)(R:Kp Bool):=ai ay N5 138 #[(.string s)] H R
abbrev Ds.sp (d:Option Addr)(H:aa)(R:Kp Int):=ai (ab .i64) N5 139 #[(.pointer d)] H R
abbrev Jd.sp (p:Option Addr)(name:ByteArray)(H:aa)(R:Kp (Int×Int×Int)):=ai (aR [(ab .i64),(ab .i64),(ab .i64)]) N5 140 #[(.pointer p),(.string name)] H R
abbrev Kq.sp (b:Array Value)(n:Int)(H:aa)(R:Kp (Array Value)):=ai jQ N5 141 #[(.agg b),(.int .u64 n)] H R
abbrev DD.sp (p:Option Addr)(H:aa)(R:Kp Int):=ai (ab .i64) N5 142 #[(.pointer p)] H R
abbrev Ft.sp (p f:Option Addr)(H:aa)(R:Kp Int):=ai (ab .i64) N5 143 #[(.pointer p),(.pointer f)] H R
abbrev Kv.sp (p:Option Addr)(at_:ByteArray)(a:Int)(H:aa)(R:Kp (Option Addr×Int)):=ai (aR [av,(ab .i64)]) N5 144 #[(.pointer p),(.agg #[(.string at_),(.int .i64 a)])] H R
abbrev vo.sp (p:Option Addr)(e:Int)(H:aa)(R:Kp Int):=ai (ab .i64) N5 145 #[(.pointer p),(.int .i64 e)] H R
abbrev Ci.sp (p f:Option Addr)(H:aa)(R:Kp Int):=ai (ab .i64) N5 146 #[(.pointer p),(.pointer f)] H R
abbrev GW.sp (p:Option Addr)(h:Int)(H:aa)(R:Kp (Option Addr×Int)):=ai (aR [av,(ab .i64)]) N5 147 #[(.pointer p),(.int .i64 h)] H R
abbrev IP.sp (p:Option Addr)(name:ByteArray)(H:aa)(R:Kp Sl):=ai ak N5 148 #[(.pointer p),(.string name)] H R
abbrev Dy.sp (p f:Option Addr)(H:aa)(R:Kp Int):=ai (ab .i64) N5 149 #[(.pointer p),(.pointer f)] H R
abbrev Ke.sp (d:Option Addr)(name:ByteArray)(H:aa)(R:Kp Int):=ai (ab .i64) N5 150 #[(.pointer d),(.string name)] H R
abbrev NY.sp (data:Sl)(a b c:Int)(cmp:Value)(H:aa)(R:Kp Unit):=ai (aR []) N5 151 #[data.v,(.int .i64 a),(.int .i64 b),(.int .i64 c),cmp] H R
abbrev Nk.sp (x:Int)(H:aa)(R:Kp Int):=ai (ab .i64) N5 152 #[(.int .u64 x)] H R
abbrev J8.sp (p:Option Addr)(h:Int)(H:aa)(R:Kp (Int×Sl×Int)):=ai (aR [(ab .u8),ak,(ab .i64)]) N5 153 #[(.pointer p),(.int .i64 h)] H R
abbrev JF.sp (s:Sl)(n:Int)(H:aa)(R:Kp Value):=ai gi N5 154 #[s.v,(.int .i64 n)] H R
abbrev Lh.sp (seq:Value)(H:aa)(R:Kp Sl):=ai ak N5 155 #[seq] H R
abbrev ME.sp (x:Sl)(H:aa)(R:Kp Unit):=ai (aR []) N5 156 #[x.v] H R
abbrev E6.sp (l:Nat)(cap:Addr)(H:aa)(R:Kp Unit):=ai (aR []) N5 157 #[(.func (.yield l) #[] #[]),(.pointer (some cap))] H R
abbrev NQ.sp (data:Sl)(a b c:Int)(H:aa)(R:Kp Unit):=ai (aR []) N5 158 #[data.v,(.int .i64 a),(.int .i64 b),(.int .i64 c)] H R
abbrev Je.sp (x y:Int)(H:aa)(R:Kp Bool):=ai ay N5 159 #[(.int .i64 x),(.int .i64 y)] H R
abbrev I8.sp (x:Int)(H:aa)(R:Kp Bool):=ai ay N5 160 #[(.int .i64 x)] H R
abbrev Gf.sp (n:Int)(H:aa)(R:Kp ByteArray):=ai aK N5 161 #[(.int .i64 n)] H R
abbrev J2.sp (l x:Sl)(H:aa)(R:Kp Sl):=ai ak N5 162 #[l.v,x.v] H R
abbrev Iz.sp (s:Option Addr)(names:Sl)(H:aa)(R:Kp Int):=ai (ab .i64) N5 163 #[(.pointer s),names.v] H R
abbrev Jl.sp (p:Option Addr)(h:Int)(H:aa)(R:Kp (Int×Sl×Int)):=ai (aR [(ab .u8),ak,(ab .i64)]) N5 164 #[(.pointer p),(.int .i64 h)] H R
abbrev Jm.sp (s:ByteArray)(H:aa)(R:Kp Bool):=ai ay N5 165 #[(.string s)] H R
abbrev EL.sp (d:Option Addr)(H:aa)(R:Kp Int):=ai (ab .i64) N5 166 #[(.pointer d)] H R
abbrev Kw.sp (p:Option Addr)(name:ByteArray)(H:aa)(R:Kp (Int×Int×Int)):=ai (aR [(ab .i64),(ab .i64),(ab .i64)]) N5 167 #[(.pointer p),(.string name)] H R
abbrev Ho.sp (p:Option Addr)(name:ByteArray)(page:Int)(H:aa)(R:Kp Int):=ai (ab .i64) N5 168 #[(.pointer p),(.string name),(.int .i64 page)] H R
abbrev GG.sp (p:Option Addr)(i:Int)(H:aa)(R:Kp Int):=ai (ab .i64) N5 169 #[(.pointer p),(.int .i64 i)] H R
abbrev GI.sp (p:Option Addr)(H:aa)(R:Kp Int):=ai (ab .i64) N5 170 #[(.pointer p)] H R
abbrev nq.sp (p:Option Addr)(e:Int)(H:aa)(R:Kp Int):=ai (ab .i64) N5 171 #[(.pointer p),(.int .i64 e)] H R
abbrev Gx.sp (b:Sl)(H:aa)(R:Kp (Int×Sl×Int)):=ai (aR [(ab .u8),ak,(ab .i64)]) N5 172 #[b.v] H R
abbrev BT.sp (p:Option Addr)(g:ByteArray)(a b:Int)(c:ByteArray)(d:Bool)(e:Sl)(f:Int)(H:aa)(R:Kp Int):=ai (ab .i64) N5 173 #[(.pointer p),(.agg #[(.string g),(.int .i64 a),(.int .u8 b),(.string c),(.bool d),e.v,(.int .i64 f)])] H R
abbrev GL.sp (p:Option Addr)(h:Int)(H:aa)(R:Kp Int):=ai (ab .i64) N5 174 #[(.pointer p),(.int .i64 h)] H R
abbrev HX.sp (p:Option Addr)(i:Int)(H:aa)(R:Kp Int):=ai (ab .i64) N5 175 #[(.pointer p),(.int .i64 i)] H R
abbrev Jb.sp (d:Option Addr)(name:ByteArray)(H:aa)(R:Kp Int):=ai (ab .i64) N5 176 #[(.pointer d),(.string name)] H R
abbrev KR.sp (i:Int)(H:aa)(R:Kp ByteArray):=ai aK N5 177 #[(.int .i64 i)] H R
abbrev Kj.sp (s:Sl)(H:aa)(R:Kp Bool):=ai ay N5 178 #[s.v,(.func (.func Eg.no) #[] #[])] H R
abbrev Eg.sp (f:Option Addr)(H:aa)(R:Kp Bool):=ai ay N5 179 #[(.pointer f)] H R
abbrev JR.sp (d:Option Addr)(name:ByteArray)(H:aa)(R:Kp Int):=ai (ab .i64) N5 180 #[(.pointer d),(.string name)] H R
abbrev G9.sp (p:Option Addr)(H:aa)(R:Kp Int):=ai (ab .i64) N5 181 #[(.pointer p)] H R
abbrev JG.sp (b:Sl)(H:aa)(R:Kp (Int×Sl×Int)):=ai (aR [(ab .u8),ak,(ab .i64)]) N5 182 #[b.v] H R
abbrev JS.sp (s:Sl)(cap:Addr)(H:aa)(R:Kp Sl):=ai ak N5 183 #[s.v,(.func (.func Dr.no) #[] #[(.pointer (some cap))])] H R
abbrev K1.sp (seq:Value)(H:aa)(R:Kp Sl):=ai ak N5 184 #[seq] H R
abbrev Ky.sp (m:Option Nat)(H:aa)(R:Kp Value):=ai gi N5 185 #[(.map m)] H R
abbrev Dr.sp (f:Option Addr)(cap:Addr)(H:aa)(R:Kp Bool):=ai ay N5 186 #[(.pointer f),(.pointer (some cap))] H R
abbrev MU.sp (x:Sl)(cmp:Value)(H:aa)(R:Kp Unit):=ai (aR []) N5 187 #[x.v,cmp] H R
abbrev DJ.sp (a b:Option Addr)(H:aa)(R:Kp Int):=ai (ab .i64) N5 188 #[(.pointer a),(.pointer b)] H R
abbrev J6.sp (kind:Int)(b:Sl)(H:aa)(R:Kp (Sl×Int)):=ai (aR [ak,(ab .i64)]) N5 189 #[(.int .u8 kind),b.v] H R
abbrev Kh.sp (d:Option Addr)(name:ByteArray)(page:Int)(b:Sl)(H:aa)(R:Kp Int):=ai (ab .i64) N5 190 #[(.pointer d),(.string name),(.int .i64 page),b.v] H R
abbrev Nc.sp (data:Sl)(a b:Int)(cmp:Value)(H:aa)(R:Kp Unit):=ai (aR []) N5 191 #[data.v,(.int .i64 a),(.int .i64 b),cmp] H R
abbrev NS.sp (data:Sl)(a b:Int)(cmp:Value)(H:aa)(R:Kp Unit):=ai (aR []) N5 192 #[data.v,(.int .i64 a),(.int .i64 b),cmp] H R
abbrev M3.sp (data:Sl)(a b:Int)(cmp:Value)(H:aa)(R:Kp Unit):=ai (aR []) N5 193 #[data.v,(.int .i64 a),(.int .i64 b),cmp] H R
abbrev M8.sp (data:Sl)(a b:Int)(cmp:Value)(H:aa)(R:Kp (Int×Int)):=ai (aR [(ab .i64),(ab .i64)]) N5 194 #[data.v,(.int .i64 a),(.int .i64 b),cmp] H R
abbrev N3.sp (data:Sl)(a b:Int)(cmp:Value)(H:aa)(R:Kp Unit):=ai (aR []) N5 195 #[data.v,(.int .i64 a),(.int .i64 b),cmp] H R
abbrev M9.sp (data:Sl)(a b:Int)(cmp:Value)(H:aa)(R:Kp Bool):=ai ay N5 196 #[data.v,(.int .i64 a),(.int .i64 b),cmp] H R
abbrev NA.sp (data:Sl)(a b pivot:Int)(cmp:Value)(H:aa)(R:Kp Int):=ai (ab .i64) N5 197 #[data.v,(.int .i64 a),(.int .i64 b),(.int .i64 pivot),cmp] H R
abbrev N1.sp (data:Sl)(a b pivot:Int)(cmp:Value)(H:aa)(R:Kp (Int×Bool)):=ai (aR [(ab .i64),ay]) N5 198 #[data.v,(.int .i64 a),(.int .i64 b),(.int .i64 pivot),cmp] H R
abbrev Nz.sp (x:Int)(H:aa)(R:Kp Int):=ai (ab .i64) N5 199 #[(.int .u32 x)] H R
abbrev Nh.sp (x:Int)(H:aa)(R:Kp Int):=ai (ab .i64) N5 200 #[(.int .u64 x)] H R
abbrev DB.sp (l:Nat)(cap a:Addr)(H:aa)(R:Kp Unit):=ai (aR []) N5 201 #[(.func (.yield l) #[] #[]),(.pointer (some cap)),(.pointer (some a))] H R
abbrev JH.sp (s:Sl)(seq:Value)(H:aa)(R:Kp Sl):=ai ak N5 202 #[s.v,seq] H R
abbrev NI.sp (data:Sl)(a b c:Int)(H:aa)(R:Kp Unit):=ai (aR []) N5 203 #[data.v,(.int .i64 a),(.int .i64 b),(.int .i64 c)] H R
abbrev NL.sp (data:Sl)(a b:Int)(H:aa)(R:Kp Unit):=ai (aR []) N5 204 #[data.v,(.int .i64 a),(.int .i64 b)] H R
abbrev NF.sp (data:Sl)(a b:Int)(H:aa)(R:Kp Unit):=ai (aR []) N5 205 #[data.v,(.int .i64 a),(.int .i64 b)] H R
abbrev MW.sp (data:Sl)(a b:Int)(H:aa)(R:Kp Unit):=ai (aR []) N5 206 #[data.v,(.int .i64 a),(.int .i64 b)] H R
abbrev NK.sp (data:Sl)(a b:Int)(H:aa)(R:Kp (Int×Int)):=ai (aR [(ab .i64),(ab .i64)]) N5 207 #[data.v,(.int .i64 a),(.int .i64 b)] H R
abbrev Nq.sp (data:Sl)(a b:Int)(H:aa)(R:Kp Unit):=ai (aR []) N5 208 #[data.v,(.int .i64 a),(.int .i64 b)] H R
abbrev M1.sp (data:Sl)(a b:Int)(H:aa)(R:Kp Bool):=ai ay N5 209 #[data.v,(.int .i64 a),(.int .i64 b)] H R
abbrev Ni.sp (data:Sl)(a b pivot:Int)(H:aa)(R:Kp Int):=ai (ab .i64) N5 210 #[data.v,(.int .i64 a),(.int .i64 b),(.int .i64 pivot)] H R
abbrev NR.sp (data:Sl)(a b pivot:Int)(H:aa)(R:Kp (Int×Bool)):=ai (aR [(ab .i64),ay]) N5 211 #[data.v,(.int .i64 a),(.int .i64 b),(.int .i64 pivot)] H R
abbrev Jy.sp (x:Int)(H:aa)(R:Kp Bool):=ai ay N5 212 #[(.int .i64 x)] H R
abbrev Ju.sp (l x:Sl)(H:aa)(R:Kp Int):=ai (ab .i64) N5 213 #[l.v,x.v] H R
abbrev G6.sp (p:Option Addr)(name:ByteArray)(H:aa)(R:Kp Int):=ai (ab .i64) N5 214 #[(.pointer p),(.string name)] H R
abbrev Er.sp (kind:Int)(b:Sl)(H:aa)(R:Kp (Sl×Int)):=ai (aR [ak,(ab .i64)]) N5 215 #[(.int .u8 kind),b.v] H R
abbrev GO.sp (d:Option Addr)(name:ByteArray)(page:Int)(b:Sl)(H:aa)(R:Kp Int):=ai (ab .i64) N5 216 #[(.pointer d),(.string name),(.int .i64 page),b.v] H R
abbrev IX.sp (p:Option Addr)(i:Int)(H:aa)(R:Kp Unit):=ai (aR []) N5 217 #[(.pointer p),(.int .i64 i)] H R
abbrev K5.sp (i base:Int)(H:aa)(R:Kp ByteArray):=ai aK N5 218 #[(.int .i64 i),(.int .i64 base)] H R
abbrev Ja.sp (s:Sl)(H:aa)(R:Kp Int):=ai (ab .i64) N5 219 #[s.v,(.func (.func Eg.no) #[] #[])] H R
abbrev JN.sp (s:Sl)(cap:Addr)(H:aa)(R:Kp Int):=ai (ab .i64) N5 219 #[s.v,(.func (.func Dr.no) #[] #[(.pointer (some cap))])] H R
abbrev Jk.sp (d:Option Addr)(name:ByteArray)(H:aa)(R:Kp Unit):=ai (aR []) N5 220 #[(.pointer d),(.string name)] H R
abbrev JC.sp (p:Option Addr)(H:aa)(R:Kp (Option Addr)):=ai av N5 221 #[(.pointer p),(.func (.func Hv.no) #[] #[]),(.func (.func Hj.no) #[] #[])] H R
abbrev Hv.sp (f:Option Addr)(H:aa)(R:Kp Bool):=ai ay N5 222 #[(.pointer f)] H R
abbrev Hj.sp (a b:Option Addr)(H:aa)(R:Kp Bool):=ai ay N5 223 #[(.pointer a),(.pointer b)] H R
abbrev HI.sp (b:Sl)(H:aa)(R:Kp Int):=ai (ab .u32) N5 224 #[b.v] H R
abbrev JI.sp (s:Sl)(H:aa)(R:Kp Bool):=ai ay N5 225 #[s.v,(.func (.func GK.no) #[] #[])] H R
abbrev GK.sp (c:Int)(H:aa)(R:Kp Bool):=ai ay N5 226 #[(.int .u8 c)] H R
abbrev Kk.sp (s:Sl)(seq:Value)(H:aa)(R:Kp Sl):=ai ak N5 227 #[s.v,seq] H R
abbrev Fs.sp (l:Nat)(cap:Addr)(H:aa)(R:Kp Unit):=ai (aR []) N5 228 #[(.func (.yield l) #[] #[]),(.pointer (some cap))] H R
abbrev NP.sp (data:Sl)(a b c:Int)(cmp:Value)(H:aa)(R:Kp Unit):=ai (aR []) N5 229 #[data.v,(.int .i64 a),(.int .i64 b),(.int .i64 c),cmp] H R
abbrev MX.sp (data:Sl)(lo hi first:Int)(cmp:Value)(H:aa)(R:Kp Unit):=ai (aR []) N5 230 #[data.v,(.int .i64 lo),(.int .i64 hi),(.int .i64 first),cmp] H R
abbrev Nd.sp (length:Int)(H:aa)(R:Kp Int):=ai (ab .u64) N5 231 #[(.int .i64 length)] H R
abbrev NW.sp (r:Option Addr)(H:aa)(R:Kp Int):=ai (ab .u64) N5 232 #[(.pointer r)] H R
abbrev ND.sp (data:Sl)(a:Int)(b:Option Addr)(cmp:Value)(H:aa)(R:Kp Int):=ai (ab .i64) N5 233 #[data.v,(.int .i64 a),(.pointer b),cmp] H R
abbrev NG.sp (data:Sl)(a b c:Int)(d:Option Addr)(cmp:Value)(H:aa)(R:Kp Int):=ai (ab .i64) N5 234 #[data.v,(.int .i64 a),(.int .i64 b),(.int .i64 c),(.pointer d),cmp] H R
abbrev M6.sp (data:Sl)(a b:Int)(H:aa)(R:Kp Unit):=ai (aR []) N5 235 #[data.v,(.int .i64 a),(.int .i64 b)] H R
abbrev NB.sp (data:Sl)(a b:Int)(H:aa)(R:Kp Unit):=ai (aR []) N5 236 #[data.v,(.int .i64 a),(.int .i64 b)] H R
abbrev Nj.sp (data:Sl)(a b:Int)(H:aa)(R:Kp Unit):=ai (aR []) N5 237 #[data.v,(.int .i64 a),(.int .i64 b)] H R
abbrev Ns.sp (data:Sl)(a b:Int)(H:aa)(R:Kp (Int×Int)):=ai (aR [(ab .i64),(ab .i64)]) N5 238 #[data.v,(.int .i64 a),(.int .i64 b)] H R
abbrev Na.sp (data:Sl)(a b:Int)(H:aa)(R:Kp Unit):=ai (aR []) N5 239 #[data.v,(.int .i64 a),(.int .i64 b)] H R
abbrev N0.sp (data:Sl)(a b:Int)(H:aa)(R:Kp Bool):=ai ay N5 240 #[data.v,(.int .i64 a),(.int .i64 b)] H R
abbrev Np.sp (x y:ByteArray)(H:aa)(R:Kp Bool):=ai ay N5 241 #[(.string x),(.string y)] H R
abbrev NX.sp (data:Sl)(a b pivot:Int)(H:aa)(R:Kp Int):=ai (ab .i64) N5 242 #[data.v,(.int .i64 a),(.int .i64 b),(.int .i64 pivot)] H R
abbrev NC.sp (data:Sl)(a b pivot:Int)(H:aa)(R:Kp (Int×Bool)):=ai (aR [(ab .i64),ay]) N5 243 #[data.v,(.int .i64 a),(.int .i64 b),(.int .i64 pivot)] H R
abbrev Nb.sp (data:Sl)(lo hi first:Int)(H:aa)(R:Kp Unit):=ai (aR []) N5 244 #[data.v,(.int .i64 lo),(.int .i64 hi),(.int .i64 first)] H R
abbrev Nr.sp (data:Sl)(a:Int)(b:Option Addr)(H:aa)(R:Kp Int):=ai (ab .i64) N5 245 #[data.v,(.int .i64 a),(.pointer b)] H R
abbrev N4.sp (data:Sl)(a b c:Int)(d:Option Addr)(H:aa)(R:Kp Int):=ai (ab .i64) N5 246 #[data.v,(.int .i64 a),(.int .i64 b),(.int .i64 c),(.pointer d)] H R
abbrev Ka.sp (d:Option Addr)(name:ByteArray)(H:aa)(R:Kp Int):=ai (ab .i64) N5 247 #[(.pointer d),(.string name)] H R
abbrev Jc.sp (b:Sl)(H:aa)(R:Kp Int):=ai (ab .u32) N5 248 #[b.v] H R
abbrev Ij.sp (d:Option Addr)(H:aa)(R:Kp Int):=ai (ab .i64) N5 249 #[(.pointer d)] H R
abbrev Lj.sp (i:Int)(H:aa)(R:Kp ByteArray):=ai aK N5 250 #[(.int .i64 i)] H R
abbrev MB.sp (d:Int)(H:aa)(R:Kp Int):=ai (ab .i64) N5 251 #[(.int .u64 d)] H R
abbrev MN.sp (a:Sl)(u:Int)(H:aa)(R:Kp Unit):=ai (aR []) N5 252 #[a.v,(.int .u64 u)] H R
abbrev MS.sp (dst:Sl)(u base:Int)(neg append_:Bool)(H:aa)(R:Kp (Sl×ByteArray)):=ai (aR [ak,aK]) N5 253 #[dst.v,(.int .u64 u),(.int .i64 base),(.bool neg),(.bool append_)] H R
abbrev Ku.sp (s:Sl)(H:aa)(R:Kp Int):=ai (ab .i64) N5 254 #[s.v,(.func (.func GK.no) #[] #[])] H R
abbrev M5.sp (data:Sl)(a b:Int)(cmp:Value)(H:aa)(R:Kp Unit):=ai (aR []) N5 255 #[data.v,(.int .i64 a),(.int .i64 b),cmp] H R
abbrev Nx.sp (data:Sl)(a b:Int)(cmp:Value)(H:aa)(R:Kp Unit):=ai (aR []) N5 256 #[data.v,(.int .i64 a),(.int .i64 b),cmp] H R
abbrev Nn.sp (data:Sl)(a b:Int)(cmp:Value)(H:aa)(R:Kp Unit):=ai (aR []) N5 257 #[data.v,(.int .i64 a),(.int .i64 b),cmp] H R
abbrev NJ.sp (data:Sl)(a b:Int)(cmp:Value)(H:aa)(R:Kp (Int×Int)):=ai (aR [(ab .i64),(ab .i64)]) N5 258 #[data.v,(.int .i64 a),(.int .i64 b),cmp] H R
abbrev M7.sp (data:Sl)(a b:Int)(cmp:Value)(H:aa)(R:Kp Unit):=ai (aR []) N5 259 #[data.v,(.int .i64 a),(.int .i64 b),cmp] H R
abbrev NZ.sp (data:Sl)(a b:Int)(cmp:Value)(H:aa)(R:Kp Bool):=ai ay N5 260 #[data.v,(.int .i64 a),(.int .i64 b),cmp] H R
abbrev MY.sp (data:Sl)(a b pivot:Int)(cmp:Value)(H:aa)(R:Kp Int):=ai (ab .i64) N5 261 #[data.v,(.int .i64 a),(.int .i64 b),(.int .i64 pivot),cmp] H R
abbrev NT.sp (data:Sl)(a b pivot:Int)(cmp:Value)(H:aa)(R:Kp (Int×Bool)):=ai (aR [(ab .i64),ay]) N5 262 #[data.v,(.int .i64 a),(.int .i64 b),(.int .i64 pivot),cmp] H R
abbrev Ng.sp (data:Sl)(a b:Int)(c:Option Addr)(cmp:Value)(H:aa)(R:Kp (Int×Int)):=ai (aR [(ab .i64),(ab .i64)]) N5 263 #[data.v,(.int .i64 a),(.int .i64 b),(.pointer c),cmp] H R
abbrev M4.sp (data:Sl)(lo hi first:Int)(H:aa)(R:Kp Unit):=ai (aR []) N5 264 #[data.v,(.int .i64 lo),(.int .i64 hi),(.int .i64 first)] H R
abbrev NU.sp (data:Sl)(a:Int)(b:Option Addr)(H:aa)(R:Kp Int):=ai (ab .i64) N5 265 #[data.v,(.int .i64 a),(.pointer b)] H R
abbrev NM.sp (data:Sl)(a b c:Int)(d:Option Addr)(H:aa)(R:Kp Int):=ai (ab .i64) N5 266 #[data.v,(.int .i64 a),(.int .i64 b),(.int .i64 c),(.pointer d)] H R
abbrev NN.sp (x:ByteArray)(H:aa)(R:Kp Bool):=ai ay N5 267 #[(.string x)] H R
abbrev N2.sp (data:Sl)(a b:Int)(c:Option Addr)(H:aa)(R:Kp (Int×Int)):=ai (aR [(ab .i64),(ab .i64)]) N5 268 #[data.v,(.int .i64 a),(.int .i64 b),(.pointer c)] H R
abbrev Kd.sp (d:Option Addr)(i:Int)(H:aa)(R:Kp Unit):=ai (aR []) N5 269 #[(.pointer d),(.int .i64 i)] H R
abbrev Nv.sp (x:Int)(H:aa)(R:Kp Int):=ai (ab .i64) N5 270 #[(.int .i64 x)] H R
abbrev Nt.sp (b:Bool)(H:aa)(R:Kp Int):=ai (ab .i64) N5 271 #[(.bool b)] H R
abbrev NH.sp (x:Int)(H:aa)(R:Kp Bool):=ai ay N5 272 #[(.int .i64 x)] H R
abbrev Nu.sp (x:Int)(H:aa)(R:Kp Int):=ai (ab .i64) N5 273 #[(.int .u64 x)] H R
abbrev Nw.sp (data:Sl)(lo hi first:Int)(cmp:Value)(H:aa)(R:Kp Unit):=ai (aR []) N5 274 #[data.v,(.int .i64 lo),(.int .i64 hi),(.int .i64 first),cmp] H R
abbrev No.sp (data:Sl)(a:Int)(b:Option Addr)(cmp:Value)(H:aa)(R:Kp Int):=ai (ab .i64) N5 275 #[data.v,(.int .i64 a),(.pointer b),cmp] H R
abbrev Ny.sp (data:Sl)(a b c:Int)(d:Option Addr)(cmp:Value)(H:aa)(R:Kp Int):=ai (ab .i64) N5 276 #[data.v,(.int .i64 a),(.int .i64 b),(.int .i64 c),(.pointer d),cmp] H R
abbrev M0.sp (data:Sl)(a b:Int)(c:Option Addr)(H:aa)(R:Kp (Int×Int)):=ai (aR [(ab .i64),(ab .i64)]) N5 277 #[data.v,(.int .i64 a),(.int .i64 b),(.pointer c)] H R
abbrev Nf.sp (x:Int)(H:aa)(R:Kp Int):=ai (ab .i64) N5 278 #[(.int .u32 x)] H R
abbrev Nl.sp (x:Int)(H:aa)(R:Kp Int):=ai (ab .i64) N5 279 #[(.int .u64 x)] H R
abbrev NO.sp (data:Sl)(a b:Int)(c:Option Addr)(cmp:Value)(H:aa)(R:Kp (Int×Int)):=ai (aR [(ab .i64),(ab .i64)]) N5 280 #[data.v,(.int .i64 a),(.int .i64 b),(.pointer c),cmp] H R
def KJ.vc (X w y z A B:Int)(rows:Sl)(p:Int)(H:aa)(R:Kp Bool):Prop:=
 aI H #[(.int .i64 X),(.int .i64 w),(.int .i64 y),(.int .i64 z),(.int .i64 A),(.int .u64 B)] DT λd H1=>br (decide ((rows.n:Int)>400)) (R true H1) (c8 (bQ [(ab .i64),(ab .i64),(ab .i64),(ab .i64),(ab .i64),(ab .u64)]) 6 H1 d λ(x:(Int×Int×Int×Int×Int×Int))=>Kc.sp x.1 x.2.1 x.2.2.1 x.2.2.2.1 x.2.2.2.2.1 x.2.2.2.2.2 H1 λ(r:(Option Addr×Option Addr×Option Addr×Option Addr)) C=>ld (ab .i64) C (d.add 3) λ(D:Int)=>ld (ab .i64) C (d.add 2) λ(E:Int)=>Hk.sp r.2.2.1 (Pe #[102]) D E C λ(b:(Option Addr×Int)) F=>ld (ab .i64) F (d.add 3) λ(G:Int)=>ld (ab .i64) F (d.add 2) λ(I:Int)=>Jo.sp r.2.2.2 (Pe #[102]) G I F λ(c:(Option Addr×Int)) v=>br (b.2!=c.2) (R false v) (br (!(b.1.isNone==c.1.isNone)) (R false v) (br (b.2!=0) (GU.sp r.1 r.2.1 r.2.2.1 r.2.2.2 v λ(J:Bool) V=>br J (GQ.sp V λ(K:Bool) Y=>R K Y) (R false V)) (aw Int 0 v λnext i L=>br (decide (i<(rows.n:Int))) (ae rows.a λa=>(0<=i/\i<(rows.n:Int))/\ld ak L (a.add (i.toNat*1)) λ(f:Sl)=>I6.sp f L λ(l:Sl) Z=>xi.sp b.1 l Z λ(M:Int) W=>ae rows.a λN=>(0<=i/\i<(rows.n:Int))/\ld ak W (N.add (i.toNat*1)) λ(g:Sl)=>CF.sp c.1 g W λ(O:Int) e=>br (M !=O) (R false e) (ae rows.a λP=>(0<=i/\i<(rows.n:Int))/\ld ak e (P.add (i.toNat*1)) λ(h:Sl)=>GP.sp l h e λ(Q:Bool) j=>br (!Q) (R false j) (GV.sp l j λ(_:Unit) k=>br (i==p) (GH.sp b.1 c.1 k λ(S:Bool) m=>br (!S) (R false m) (next (N6.wrap (i+1)) m)) (next (N6.wrap (i+1)) k)))) (GH.sp b.1 c.1 L λ(T:Bool) n=>br T (GH.sp b.1 c.1 n λ(o:Bool) q=>br o (GU.sp r.1 r.2.1 r.2.2.1 r.2.2.2 q λ(s:Bool) t=>br s (GQ.sp t λ(u:Bool) U=>R u U) (R false t)) (R false q)) (R false n))))))
theorem KJ.of:∀{f a b c d e rows p H R},KJ.vc f a b c d e rows p H R->KJ.sp f a b c d e rows p H R:=aU [(11,[(15,(ab .i64))])] (by kernel_rfl)
def Df.vc (s:Option Addr)(H:aa)(R:Kp (Int×Int)):Prop:=
 Hy.sp s H λ(e:Int) H1=>br (e !=0) (R ((0:Int),e) H1) (Jf.sp s H1 λ(r:(Int×Int)) c=>br (r.2!=0) (ae s λa=>st c (a.add 7) (.int .i64 r.2) λd=>R ((0:Int),r.2) d) (ae s λb=>st c (b.add 8) (.bool true) λf=>R (r.1,(0:Int)) f))
theorem Df.of:∀{s H R},Df.vc s H R->Df.sp s H R:=aU [] (by kernel_rfl)
def Hk.vc (p:Option Addr)(name:ByteArray)(width frames:Int)(H:aa)(R:Kp (Option Addr×Int)):Prop:=
 br p.isNone (R (none,(1:Int)) H) (GJ.sp width H λ(r:Int) H1=>br (r==0) (R (none,(60:Int)) H1) (br (decide (frames<3)) (br (decide (frames<3)) (R (none,(30:Int)) H1) (aI H1 #[(.pointer p),(.string name),(.int .i64 width),(.int .i64 frames),(.slice none 0 0),(.slice none 0 0),(.int .i64 0),(.int .i64 0),(.bool false)] vT λa e=>R (some a,(0:Int)) e)) (Ko.sp p H1 λ(b:Int) d=>br (decide (frames>b)) (R (none,(30:Int)) d) (aI d #[(.pointer p),(.string name),(.int .i64 width),(.int .i64 frames),(.slice none 0 0),(.slice none 0 0),(.int .i64 0),(.int .i64 0),(.bool false)] vT λc f=>R (some c,(0:Int)) f))))
theorem Hk.of:∀{p name width frames H R},Hk.vc p name width frames H R->Hk.sp p name width frames H R:=aU [] (by kernel_rfl)
def Kt.vc (p:Option Addr)(names:Sl)(to:ByteArray)(width:Int)(H:aa)(R:Kp (Int×Int)):Prop:=
 br p.isNone (R ((0:Int),(1:Int)) H) (br ((names.n:Int)==0) (R ((0:Int),(2:Int)) H) (Kf.sp p names width H λ(r:(Sl×Int)) H1=>br (r.2!=0) (R ((0:Int),r.2) H1) (GZ.sp p to width H1 λ(c:(Option Addr×Int)) P=>br (c.2!=0) (R ((0:Int),c.2) P) (aI P #[(.slice none 0 0),(.func (.func DE.no) #[] #[])] LJ λf S=>aw Int 0 S λnext z C=>br (decide (z<(r.1.n:Int))) (ae r.1.a λa=>(0<=z/\z<(r.1.n:Int))/\ld av C (a.add (z.toNat*1)) λ(D:Option Addr)=>GY.sp (some f) z (Sl.mk none 0 0) D C λ(e:Int) Q=>br (e !=0) (R ((0:Int),e) Q) (next (N6.wrap (z+1)) Q)) (aw (Sl×Bool) ((Sl.mk none 0 0),true) C λg o E=>ld ak E (f.add 0) λ(x:Sl)=>br (decide ((x.n:Int)>0)) (IZ.sp (some f) E λ(i:(Int×Sl×Option Addr)) T=>aI T (zc N5 jU) jU λb U=>jk N5 (Ot jU (.pointer (some b)) (.agg #[(.int .i64 i.1),i.2.1.v,(.pointer i.2.2)])) U λB=>cut Unit (λJ=>br o.2 (ld ak B (b.add 1) λ(F:Sl)=>yQ.sp c.1 F B λ(q:Int) s=>br (q !=0) (R ((0:Int),q) s) (J () s)) (ld ak B (b.add 1) λ(G:Sl)=>wR.sp G o.1 B λ(I:Int) j=>br (I !=0) (ld ak j (b.add 1) λ(K:Sl)=>yQ.sp c.1 K j λ(t:Int) u=>br (t !=0) (R ((0:Int),t) u) (J () u)) (J () j))) λ(_:Unit) k=>ld ak k (b.add 1) λ(last:Sl)=>c8 (bQ [(ab .i64),ak,av]) 3 k b λ(l:(Int×Sl×Option Addr))=>GY.sp (some f) l.1 l.2.1 l.2.2 k λ(w:Int) y=>br (w !=0) (R ((0:Int),w) y) (g (last,false) y)) (aw Int 0 E λh d m=>br (decide (d<(r.1.n:Int))) (ae r.1.a λL=>(0<=d/\d<(r.1.n:Int))/\ld av m (L.add (d.toNat*1)) λ(M:Option Addr)=>Is.sp M m λ(_:Unit) N=>h (N6.wrap (d+1)) N) (Fb.sp c.1 m λ(A:(Int×Int)) O=>R (A.1,A.2) O)))))))
theorem Kt.of:∀{p names to width H R},Kt.vc p names to width H R->Kt.sp p names to width H R:=aU [(13,[(52,(ab .i64))]),(21,[(16,ak),(17,ay)]),(100028,[]),(33,[(99,(ab .i64))])] (by kernel_rfl)
def xi.vc (s:Option Addr)(l:Sl)(H:aa)(R:Kp Int):Prop:=
 Hy.sp s H λ(e:Int) H1=>br (e !=0) (R e H1) (ae s λa=>ld (ab .i64) H1 (a.add 2) λ(x:Int)=>br ((l.n:Int)!=x) (R (60:Int) H1) (∃G:aa->Prop,G H1/\ae s λc=>dw ak G (c.add 4) λ(d:Sl)=>G4.sp l H1 λ(r:Sl) z=>G z/\aI z #[r.v] ez λp A=>G A/\ba ak N5 (Oa #[gh,gh] gh #[d.v,(.slice (some p) 1 1)]) A λ(f:Sl) C=>ae s λg=>st C (g.add 4) f.v λh=>∃b:aa->Prop,b h/\ae s λi=>dw ak b (i.add 4) λ(j:Sl)=>ae s λk=>dw (ab .i64) b (k.add 3) λ(m:Int)=>ae s λn=>ld (ab .i64) h (n.add 2) λ(o:Int)=>GJ.sp o h λ(q:Int) t=>b t/\br (decide ((j.n:Int)<(N6.wrap (m*q)))) (R (0:Int) t) (DU.sp s t λ(u:Int) D=>ae s λv=>st D (v.add 7) (.int .i64 u) λB=>ae s λw=>ld (ab .i64) B (w.add 7) λ(y:Int)=>R y B)))
theorem xi.of:∀{s l H R},xi.vc s l H R->xi.sp s l H R:=aU [] (by kernel_rfl)
def GQ.vc (H:aa)(R:Kp Bool):Prop:=
 HO.sp (20:Int) H λ(d:Option Addr) H1=>Hs.sp d (8:Int) H1 λ(r:(Option Addr×Int)) y=>Hk.sp r.1 (Pe #[102]) (1:Int) (3:Int) y λ(b:(Option Addr×Int)) i=>br (b.2!=0) (R false i) (br b.1.isNone (R false i) (aI i #[(.int .u64 5)] gS λp z=>xi.sp b.1 (Sl.mk (some p) 1 1) z λ(j:Int) u=>br (j !=0) (R false u) (aI u #[(.int .u64 1)] gS λk A=>xi.sp b.1 (Sl.mk (some k) 1 1) A λ(l:Int) v=>br (l !=0) (R false v) (aI v #[(.int .u64 5)] gS λm B=>xi.sp b.1 (Sl.mk (some m) 1 1) B λ(o:Int) w=>br (o !=0) (R false w) (Df.sp b.1 w λ(h:(Int×Int)) q=>Ii.sp r.1 (Pe #[102]) (1:Int) q λ(f:(Option Addr×Int)) g=>br (((h.2!=0)||(f.2!=0))||(h.1!=2)) (R false g) (br f.1.isNone (R false g) (ET.sp f.1 g λ(c:(Sl×Bool×Int)) e=>br (((c.2.2==0)&&c.2.1)&&((c.1.n:Int)==1)) (ae c.1.a λa=>(0<=(0:Int)/\(0:Int)<(c.1.n:Int))/\ld (ab .u64) e (a.add ((0:Int).toNat*1)) λ(x:Int)=>br (x==1) (HW.sp d e λ(s:Sl) t=>R ((s.n:Int)==1) t) (R false e)) (R false e))))))))
theorem GQ.of:∀{H R},GQ.vc H R->GQ.sp H R:=aU [] (by kernel_rfl)
def Jj.vc (i n:Int)(H:aa)(R:Kp Int):Prop:=
 br (decide (n<1)) (R (0:Int) H) (n≠0/\br (decide ((Pq i n)<0)) (R (N6.wrap ((Pq i n)+n)) H) (R (Pq i n) H))
theorem Jj.of:∀{i n H R},Jj.vc i n H R->Jj.sp i n H R:=aU [] (by kernel_rfl)
def wR.vc (a b:Sl)(H:aa)(R:Kp Int):Prop:=
 K4.sp a b H λ(r:Int) H1=>R r H1
theorem wR.of:∀{a b H R},wR.vc a b H R->wR.sp a b H R:=aU [] (by kernel_rfl)
def JT.vc (a b:Sl)(H:aa)(R:Kp Bool):Prop:=
 br ((a.n:Int)!=(b.n:Int)) (R false H) (aw Int 0 H λnext i H1=>br (decide (i<(a.n:Int))) (ae a.a λc=>(0<=i/\i<(a.n:Int))/\ld (ab .u64) H1 (c.add (i.toNat*1)) λ(x:Int)=>ae b.a λd=>(0<=i/\i<(b.n:Int))/\ld (ab .u64) H1 (d.add (i.toNat*1)) λ(e:Int)=>br (x !=e) (R false H1) (next (N6.wrap (i+1)) H1)) (R true H1))
theorem JT.of:∀{a b H R},JT.vc a b H R->JT.sp a b H R:=aU [(4,[(5,(ab .i64))])] (by kernel_rfl)
def Kc.vc (w f g h i j:Int)(H:aa)(R:Kp (Option Addr×Option Addr×Option Addr×Option Addr)):Prop:=
 aI H #[(.int .i64 w),(.int .i64 f),(.int .i64 g),(.int .i64 h),(.int .i64 i),(.int .u64 j)] DT λp H1=>∃G:aa->Prop,G H1/\ld (ab .i64) H1 (p.add 0) λ(x:Int)=>HO.sp x H1 λ(r:Option Addr) u=>G u/\dw (ab .i64) G (p.add 0) λ(k:Int)=>JP.sp k u λ(n:Option Addr) a=>cut Unit (λJ=>ld (ab .i64) a (p.add 4) λ(l:Int)=>br (decide (l>=0)) (ld (ab .i64) a (p.add 4) λ(m:Int)=>ld (ab .u64) a (p.add 5) λ(o:Int)=>Ks.sp r m o a λ(_:Unit) q=>ld (ab .i64) q (p.add 4) λ(b:Int)=>ld (ab .u64) q (p.add 5) λ(c:Int)=>Ki.sp n b c q λ(_:Unit) y=>J () y) (J () a)) λ(_:Unit) v=>ld (ab .i64) v (p.add 1) λ(d:Int)=>Jj.sp d (12:Int) v λ(e:Int) z=>Hs.sp r (N6.wrap ((8:Int)+e)) z λ(s:(Option Addr×Int)) A=>JO.sp n (N6.wrap ((8:Int)+e)) A λ(t:(Option Addr×Int)) B=>R (r,n,s.1,t.1) B
theorem Kc.of:∀{f a b c d e H R},Kc.vc f a b c d e H R->Kc.sp f a b c d e H R:=aU [(100005,[])] (by kernel_rfl)
def Jo.vc (p:Option Addr)(name:ByteArray)(width frames:Int)(H:aa)(R:Kp (Option Addr×Int)):Prop:=
 br p.isNone (R (none,(1:Int)) H) (Bz.sp width H λ(r:Int) H1=>br (r==0) (R (none,(60:Int)) H1) (br (decide (frames<3)) (R (none,(30:Int)) H1) (ae p λa=>ld (ab .i64) H1 (a.add 1) λ(x:Int)=>br (decide (frames>x)) (R (none,(30:Int)) H1) (aI H1 #[(.pointer p),(.string name),(.int .i64 width),(.int .i64 frames),(.slice none 0 0),(.slice none 0 0),(.int .i64 0),(.int .i64 0),(.bool false)] yN λb c=>R (some b,(0:Int)) c))))
theorem Jo.of:∀{p name width frames H R},Jo.vc p name width frames H R->Jo.sp p name width frames H R:=aU [] (by kernel_rfl)
def GU.vc (d n p m:Option Addr)(H:aa)(R:Kp Bool):Prop:=
 ∃G:aa->Prop,G H/\J5.sp d H λ(r:Int) H1=>G H1/\ae n λa=>dw (ab .i64) G (a.add 3) λ(x:Int)=>br (r !=x) (R false H1) (Jq.sp d H1 λ(s:Bool) t=>G t/\ae n λu=>dw ay G (u.add 8) λ(v:Bool)=>br (!(s==v)) (R false t) (Jh.sp d t λ(w:Int) y=>G y/\ae n λz=>dw (ab .i64) G (z.add 1) λ(A:Int)=>br (w !=A) (R false y) (JZ.sp p y λ(B:Int) C=>G C/\ae m λD=>dw ak G (D.add 2) λ(E:Sl)=>br (B !=(E.n:Int)) (R false C) (JA.sp p C λ(F:Int) V=>JE.sp m V λ(I:Int) U=>br (F !=I) (R false U) (JM.sp d U λ(_:Unit) W=>J7.sp n W λ(_:Unit) X=>HW.sp d X λ(l:Sl) Y=>J1.sp n Y λ(J:Sl) K=>JU.sp l J K λ(L:Bool) k=>br (!L) (R false k) (aw Int 0 k λnext i g=>br (decide (i<(l.n:Int))) (ae l.a λM=>(0<=i/\i<(l.n:Int))/\ld aK g (M.add (i.toNat*1)) λ(N:ByteArray)=>C2.sp n N g λ(o:(Int×Int)) O=>aw Int 0 O λf j h=>br (decide (j<=o.1)) (ae l.a λP=>(0<=i/\i<(l.n:Int))/\ld aK h (P.add (i.toNat*1)) λ(Q:ByteArray)=>HA.sp d Q j h λ(b:(Sl×Int)) q=>ae l.a λS=>(0<=i/\i<(l.n:Int))/\ld aK q (S.add (i.toNat*1)) λ(T:ByteArray)=>CB.sp n T j q λ(c:(Sl×Int)) e=>br (b.2!=c.2) (R false e) (vM e b.1.a b.1.n λ(str:ByteArray)=>vM e c.1.a c.1.n λ(str_1:ByteArray)=>br (!(str.toList==str_1.toList)) (R false e) (f (N6.wrap (j+1)) e))) (next (N6.wrap (i+1)) h)) (R true g)))))))
theorem GU.of:∀{d n p m H R},GU.vc d n p m H R->GU.sp d n p m H R:=aU [(9,[(10,(ab .i64))]),(13,[(13,(ab .i64))])] (by kernel_rfl)
def I6.vc (l:Sl)(H:aa)(R:Kp Sl):Prop:=
 ba ak N5 (Oa #[ez,ez] ez #[(.slice none 0 0),l.v]) H λ(out:Sl) H1=>aI H1 #[(.int .u64 30583)] gS λp b=>ba ak N5 (Oa #[ez,ez] ez #[out.v,(.slice (some p) 1 1)]) b λ(a:Sl) c=>(0<=(l.n:Int)/\(l.n:Int)<=(a.c:Int))/\R (Sl.mk (cA a.a a.c 0 1) (((l.n:Int).toNat) - 0) (a.c - 0)) c
theorem I6.of:∀{l H R},I6.vc l H R->I6.sp l H R:=aU [] (by kernel_rfl)
def CF.vc (s:Option Addr)(l:Sl)(H:aa)(R:Kp Int):Prop:=
 Hq.sp s H λ(e:Int) H1=>br (e !=0) (R e H1) (ae s λa=>ld (ab .i64) H1 (a.add 2) λ(x:Int)=>br ((l.n:Int)!=x) (R (60:Int) H1) (ba ak N5 (Oa #[ez,ez] ez #[(.slice none 0 0),l.v]) H1 λ(own:Sl) t=>ae s λb=>ld ak t (b.add 4) λ(c:Sl)=>aI t #[own.v] ez λp u=>ba ak N5 (Oa #[gh,gh] gh #[c.v,(.slice (some p) 1 1)]) u λ(d:Sl) v=>ae s λf=>st v (f.add 4) d.v λg=>∃G:aa->Prop,G g/\ae s λh=>dw ak G (h.add 4) λ(i:Sl)=>ae s λj=>dw (ab .i64) G (j.add 3) λ(k:Int)=>ae s λm=>ld (ab .i64) g (m.add 2) λ(n:Int)=>Bz.sp n g λ(r:Int) o=>G o/\br (decide ((i.n:Int)<(N6.wrap (k*r)))) (R (0:Int) o) (Gg.sp s o λ(q:Int) w=>R q w)))
theorem CF.of:∀{s l H R},CF.vc s l H R->CF.sp s l H R:=aU [] (by kernel_rfl)
def GP.vc (a l:Sl)(H:aa)(R:Kp Bool):Prop:=
 JT.sp a l H λ(r:Bool) H1=>br r ((0<=(N6.wrap ((l.n:Int)+1))/\(N6.wrap ((l.n:Int)+1))<=(a.c:Int))/\ae (cA a.a a.c 0 1) λb=>(0<=(l.n:Int)/\(l.n:Int)<((((N6.wrap ((l.n:Int)+1)).toNat) - 0:Nat):Int))/\ld (ab .u64) H1 (b.add ((l.n:Int).toNat*1)) λ(x:Int)=>R (x==30583) H1) (R false H1)
theorem GP.of:∀{a l H R},GP.vc a l H R->GP.sp a l H R:=aU [] (by kernel_rfl)
def GV.vc (l:Sl)(H:aa)(R:Kp Unit):Prop:=
 aw Int 0 H λnext i H1=>br (decide (i<(l.n:Int))) (ae l.a λa=>(0<=i/\i<(l.n:Int))/\st H1 (a.add (i.toNat*1)) (.int .u64 57005) λd=>next (N6.wrap (i+1)) d) (aw (Sl×Int) (l,(0:Int)) H1 λb z c=>br (decide (z.2<3)) (aI c #[(.int .u64 57006)] gS λp e=>ba ak N5 (Oa #[ez,ez] ez #[z.1.v,(.slice (some p) 1 1)]) e λ(m:Sl) f=>b (m,N6.wrap (z.2+1)) f) (R () c))
theorem GV.of:∀{l H R},GV.vc l H R->GV.sp l H R:=aU [(1,[(2,(ab .i64))]),(6,[(3,ak),(4,(ab .i64))])] (by kernel_rfl)
def GH.vc (s t:Option Addr)(H:aa)(R:Kp Bool):Prop:=
 Df.sp s H λ(r:(Int×Int)) H1=>DI.sp t H1 λ(a:(Int×Int)) b=>R ((r.1==a.1)&&(r.2==a.2)) b
theorem GH.of:∀{s t H R},GH.vc s t H R->GH.sp s t H R:=aU [] (by kernel_rfl)
def Hr.vc (p:Option Addr)(names:Sl)(to:ByteArray)(width:Int)(H:aa)(R:Kp (Int×Int)):Prop:=
 br p.isNone (R ((0:Int),(1:Int)) H) (br ((names.n:Int)==0) (R ((0:Int),(2:Int)) H) (aw (Sl×Int) ((Sl.mk none 0 0),(0:Int)) H λnext z H1=>br (decide (z.2<(names.n:Int))) (ae names.a λa=>(0<=z.2/\z.2<(names.n:Int))/\ld aK H1 (a.add (z.2.toNat*1)) λ(x:ByteArray)=>G7.sp p x width H1 λ(r:(Option Addr×Int)) H2=>br (r.2!=0) (R ((0:Int),r.2) H2) (aI H2 #[(.pointer r.1)] Mb λE H3=>ba ak N5 (Oa #[Lk,Lk] Lk #[z.1.v,(.slice (some E) 1 1)]) H3 λ(l:Sl) H4=>next (l,N6.wrap (z.2+1)) H4)) (Hm.sp p to width H1 λ(g:(Option Addr×Int)) H5=>br (g.2!=0) (R ((0:Int),g.2) H5) (aw (Sl×Sl×Int) ((Sl.mk none 0 0),(Sl.mk none 0 0),(0:Int)) H5 λh c F=>br (decide (c.2.2<(z.1.n:Int))) (ae z.1.a λG=>(0<=c.2.2/\c.2.2<(z.1.n:Int))/\ld av F (G.add (c.2.2.toNat*1)) λ(I:Option Addr)=>BR.sp I F λ(i:(Sl×Bool×Int)) H7=>br (i.2.2!=0) (R ((0:Int),i.2.2) H7) (aI H7 #[i.1.v] ez λK H8=>ba ak N5 (Oa #[gh,gh] gh #[c.1.v,(.slice (some K) 1 1)]) H8 λ(kL:Sl) H9=>aI H9 #[(.bool i.2.1)] Le λL M=>ba ak N5 (Oa #[K7,K7] K7 #[c.2.1.v,(.slice (some L) 1 1)]) M λ(is:Sl) N=>h (kL,is,N6.wrap (c.2.2+1)) N)) (aw Unit () F λj _ O=>aw (Int×Int) ((-1:Int),(0:Int)) O λf b d=>br (decide (b.2<(z.1.n:Int))) (ae c.2.1.a λP=>(0<=b.2/\b.2<(c.2.1.n:Int))/\ld ay d (P.add (b.2.toNat*1)) λ(Q:Bool)=>br (Q==true) (br (decide (b.1<0)) (f (b.2,N6.wrap (b.2+1)) d) (ae c.1.a λS=>(0<=b.2/\b.2<(c.1.n:Int))/\ld ak d (S.add (b.2.toNat*1)) λ(T:Sl)=>ae c.1.a λU=>(0<=b.1/\b.1<(c.1.n:Int))/\ld ak d (U.add (b.1.toNat*1)) λ(V:Sl)=>Am.sp T V d λ(W:Int) o=>br (decide (W<0)) (f (b.2,N6.wrap (b.2+1)) o) (f (b.1,N6.wrap (b.2+1)) o))) (f (b.1,N6.wrap (b.2+1)) d)) (br (decide (b.1<0)) (G5.sp g.1 d λ(q:(Int×Int)) X=>R (q.1,q.2) X) (cut Unit (λJ=>ae g.1 λY=>ld (ab .i64) d (Y.add 8) λ(Z:Int)=>br (Z==0) (ae c.1.a λaf=>(0<=b.1/\b.1<(c.1.n:Int))/\ld ak d (af.add (b.1.toNat*1)) λ(an:Sl)=>AP.sp g.1 an d λ(e:Int) s=>br (e !=0) (R ((0:Int),e) s) (J () s)) (ae c.1.a λa1=>(0<=b.1/\b.1<(c.1.n:Int))/\ld ak d (a1.add (b.1.toNat*1)) λ(a6:Sl)=>ae g.1 λa7=>ld ak d (a7.add 7) λ(a8:Sl)=>Am.sp a6 a8 d λ(bb:Int) m=>br (bb !=0) (ae c.1.a λbd=>(0<=b.1/\b.1<(c.1.n:Int))/\ld ak m (bd.add (b.1.toNat*1)) λ(bl:Sl)=>AP.sp g.1 bl m λ(t:Int) u=>br (t !=0) (R ((0:Int),t) u) (J () u)) (J () m))) λ(_:Unit) w=>ae z.1.a λy=>(0<=b.1/\b.1<(z.1.n:Int))/\ld av w (y.add (b.1.toNat*1)) λ(A:Option Addr)=>BR.sp A w λ(k:(Sl×Bool×Int)) B=>br (k.2.2!=0) (R ((0:Int),k.2.2) B) (ae c.1.a λC=>(0<=b.1/\b.1<(c.1.n:Int))/\st B (C.add (b.1.toNat*1)) k.1.v λbn=>ae c.2.1.a λD=>(0<=b.1/\b.1<(c.2.1.n:Int))/\st bn (D.add (b.1.toNat*1)) (.bool k.2.1) λbs=>j () bs))))))))
theorem Hr.of:∀{p names to width H R},Hr.vc p names to width H R->Hr.sp p names to width H R:=aU [(7,[(10,ak),(11,(ab .i64))]),(19,[(16,ak),(17,ak),(18,(ab .i64))]),(26,[]),(28,[(22,(ab .i64)),(23,(ab .i64))]),(100038,[])] (by kernel_rfl)
def HO.vc (quota:Int)(H:aa)(R:Kp (Option Addr)):Prop:=
 Fi H λm H1=>aI H1 #[(.map (some m)),(.int .i64 0),(.int .i64 0),(.int .i64 (if (1048576:Int)<(if (0:Int)>quota then (0:Int) else quota) then (1048576:Int) else (if (0:Int)>quota then (0:Int) else quota))),(.int .i64 0),(.int .i64 0),(.bool false),(.int .i64 0),(.int .u64 0),(.bool false)] xp λp a=>R (some p) a
theorem HO.of:∀{quota H R},HO.vc quota H R->HO.sp quota H R:=aU [] (by kernel_rfl)
def Hs.vc (d:Option Addr)(frames:Int)(H:aa)(R:Kp (Option Addr×Int)):Prop:=
 br d.isNone (R (none,(1:Int)) H) (br (decide (frames<8)) (R (none,(30:Int)) H) (br (decide (frames>4096)) (R (none,(3:Int)) H) (Fi H λm H1=>Fi H1 λa b=>aI b #[(.pointer d),(.int .i64 frames),(.map (some m)),(.map (some a)),(.int .i64 1),(.int .i64 0),(.int .i64 0),(.int .i64 0)] Cv λp c=>R (some p,(0:Int)) c)))
theorem Hs.of:∀{d frames H R},Hs.vc d frames H R->Hs.sp d frames H R:=aU [] (by kernel_rfl)
def Hy.vc (s:Option Addr)(H:aa)(R:Kp Int):Prop:=
 br s.isNone (R (1:Int) H) (ae s λa=>ld (ab .i64) H (a.add 7) λ(x:Int)=>br (x !=0) (ae s λb=>ld (ab .i64) H (b.add 7) λ(c:Int)=>R c H) (ae s λd=>ld ay H (d.add 8) λ(e:Bool)=>br e (R (2:Int) H) (R (0:Int) H)))
theorem Hy.of:∀{s H R},Hy.vc s H R->Hy.sp s H R:=aU [] (by kernel_rfl)
def Jf.vc (s:Option Addr)(H:aa)(R:Kp (Int×Int)):Prop:=
 cut Unit (λJ=>ae s λa=>ld ak H (a.add 4) λ(x:Sl)=>br (decide ((x.n:Int)>0)) (DU.sp s H λ(e:Int) D=>br (e !=0) (R ((0:Int),e) D) (J () D)) (ae s λf=>ld ak H (f.add 5) λ(g:Sl)=>br ((g.n:Int)==0) (DU.sp s H λ(c:Int) E=>br (c !=0) (R ((0:Int),c) E) (J () E)) (J () H))) λ(_:Unit) H1=>aw Unit () H1 λnext _ b=>ae s λh=>ld ak b (h.add 5) λ(i:Sl)=>ae s λj=>ld (ab .i64) b (j.add 3) λ(k:Int)=>br (decide ((i.n:Int)>=k)) (Im.sp s b λ(to:ByteArray) F=>ae s λl=>ld (ab .i64) F (l.add 3) λ(m:Int)=>HL.sp s (N6.wrap (m - 1)) to F λ(r:(Int×Int)) n=>br (r.2!=0) (R ((0:Int),r.2) n) (ae s λo=>ld ak n (o.add 5) λ(q:Sl)=>JQ.sp q n λ(t:Sl) G=>aI G #[(.string to)] dI λp I=>ba ak N5 (Oa #[dU,dU] dU #[t.v,(.slice (some p) 1 1)]) I λ(u:Sl) K=>ae s λv=>st K (v.add 5) u.v λw=>next () w)) (ae s λy=>ld ak b (y.add 5) λ(z:Sl)=>ae s λA=>ld aK b (A.add 1) λ(B:ByteArray)=>HL.sp s (z.n:Int) B b λ(d:(Int×Int)) C=>R (d.1,d.2) C)
theorem Jf.of:∀{s H R},Jf.vc s H R->Jf.sp s H R:=aU [(100005,[]),(5,[])] (by kernel_rfl)
def GJ.vc (width:Int)(H:aa)(R:Kp Int):Prop:=
 HZ.sp width H λ(n:Int) H1=>br (decide (n>0)) (n≠0/\R (N6.wrap (OX (504:Int) n)) H1) (R (0:Int) H1)
theorem GJ.of:∀{width H R},GJ.vc width H R->GJ.sp width H R:=aU [] (by kernel_rfl)
def Ko.vc (p:Option Addr)(H:aa)(R:Kp Int):Prop:=
 br p.isNone (R (0:Int) H) (ae p λa=>ld (ab .i64) H (a.add 1) λ(x:Int)=>R x H)
theorem Ko.of:∀{p H R},Ko.vc p H R->Ko.sp p H R:=aU [] (by kernel_rfl)
def Kf.vc (p:Option Addr)(names:Sl)(width:Int)(H:aa)(R:Kp (Sl×Int)):Prop:=
 aw (Sl×Int) ((Sl.mk none 0 0),(0:Int)) H λnext z H1=>br (decide (z.2<(names.n:Int))) (ae names.a λa=>(0<=z.2/\z.2<(names.n:Int))/\ld aK H1 (a.add (z.2.toNat*1)) λ(s:ByteArray)=>Ii.sp p s width H1 λ(r:(Option Addr×Int)) c=>br (r.2!=0) (R ((Sl.mk none 0 0),r.2) c) (aI c #[(.pointer r.1)] Mt λb d=>ba ak N5 (Oa #[L9,L9] L9 #[z.1.v,(.slice (some b) 1 1)]) d λ(l:Sl) e=>next (l,N6.wrap (z.2+1)) e)) (R (z.1,(0:Int)) H1)
theorem Kf.of:∀{p names width H R},Kf.vc p names width H R->Kf.sp p names width H R:=aU [(3,[(8,ak),(15,(ab .i64))])] (by kernel_rfl)
def GZ.vc (p:Option Addr)(name:ByteArray)(width:Int)(H:aa)(R:Kp (Option Addr×Int)):Prop:=
 Ip.sp p name width H λ(r:((Option Addr×ByteArray×Int×Int×Int×Bool)×Int)) H1=>aI H1 (zc N5 qV) qV λb s=>jk N5 (Ot qV (.pointer (some b)) (.agg #[(.pointer r.1.1),(.string r.1.2.1),(.int .i64 r.1.2.2.1),(.int .i64 r.1.2.2.2.1),(.int .i64 r.1.2.2.2.2.1),(.bool r.1.2.2.2.2.2)])) s λf=>br (r.2==0) (Hf.sp p f λ(g:Option Addr) t=>JL.sp g name t λ(e:Int) q=>cut Int (λJ=>br (e==0) (G0.sp (some b) (0:Int) (Sl.mk none 0 0) q λ(h:Int) u=>J h u) (J e q)) λ(z:Int) i=>br (z !=0) (R (none,z) i) (c8 (bQ [av,aK,(ab .i64),(ab .i64),(ab .i64),ay]) 6 i b λ(x:(Option Addr×ByteArray×Int×Int×Int×Bool))=>aI i #[(.pointer x.1),(.string x.2.1),(.int .i64 x.2.2.1),(.int .i64 x.2.2.2.1),(.int .i64 x.2.2.2.2.1),(.bool x.2.2.2.2.2),(.slice none 0 0),(.int .i64 0),(.slice none 0 0),(.int .i64 0)] GD λj v=>R (some j,(0:Int)) v)) (cut Int (λc=>br (r.2==0) (G0.sp (some b) (0:Int) (Sl.mk none 0 0) f λ(k:Int) l=>c k l) (c r.2 f)) λ(d:Int) m=>br (d !=0) (R (none,d) m) (c8 (bQ [av,aK,(ab .i64),(ab .i64),(ab .i64),ay]) 6 m b λ(a:(Option Addr×ByteArray×Int×Int×Int×Bool))=>aI m #[(.pointer a.1),(.string a.2.1),(.int .i64 a.2.2.1),(.int .i64 a.2.2.2.1),(.int .i64 a.2.2.2.2.1),(.bool a.2.2.2.2.2),(.slice none 0 0),(.int .i64 0),(.slice none 0 0),(.int .i64 0)] GD λn o=>R (some n,(0:Int)) o))
theorem GZ.of:∀{p name width H R},GZ.vc p name width H R->GZ.sp p name width H R:=aU [(100006,[(9,(ab .i64))]),(100006,[(9,(ab .i64))])] (by kernel_rfl)
def DE.vc (l:Int)(d:Sl)(e:Option Addr)(m:Int)(f:Sl)(g:Option Addr)(H:aa)(R:Kp Bool):Prop:=
 aI H #[(.int .i64 l),d.v,(.pointer e)] jU λp H1=>aI H1 #[(.int .i64 m),f.v,(.pointer g)] jU λa h=>ld ak h (p.add 1) λ(x:Sl)=>ld ak h (a.add 1) λ(i:Sl)=>wR.sp x i h λ(c:Int) b=>br ((decide (c<0))==false) (br (c==0) (ld (ab .i64) b (p.add 0) λ(j:Int)=>ld (ab .i64) b (a.add 0) λ(k:Int)=>R (decide (j<k)) b) (R false b)) (R true b)
theorem DE.of:∀{e a b f c d H R},DE.vc e a b f c d H R->DE.sp e a b f c d H R:=aU [] (by kernel_rfl)
def GY.vc (h:Option Addr)(f:Int)(b:Sl)(c:Option Addr)(H:aa)(R:Kp Int):Prop:=
 aI H #[(.int .i64 f),b.v,(.pointer c)] jU λp H1=>ld av H1 (p.add 2) λ(x:Option Addr)=>ET.sp x H1 λ(r:(Sl×Bool×Int)) a=>br ((r.2.2==0)&&r.2.1) (ld (ab .i64) a (p.add 0) λ(d:Int)=>ld av a (p.add 2) λ(e:Option Addr)=>JJ.sp h d r.1 e a λ(_:Unit) g=>R r.2.2 g) (R r.2.2 a)
theorem GY.of:∀{h c a b H R},GY.vc h c a b H R->GY.sp h c a b H R:=aU [] (by kernel_rfl)
def IZ.vc (h:Option Addr)(H:aa)(R:Kp (Int×Sl×Option Addr)):Prop:=
 aI H (zc N5 jU) jU λp H1=>∃G:aa->Prop,G H1/\ae h λa=>dw ak G (a.add 0) λ(x:Sl)=>ae x.a λT=>(0<=(0:Int)/\(0:Int)<(x.n:Int))/\Lb (bQ [(ab .i64),ak,av]) 3 G (T.add ((0:Int).toNat*3)) λ(s:(Int×Sl×Option Addr))=>ae h λU=>dw ak G (U.add 0) λ(d:Sl)=>aI H1 (zc N5 jU) jU λw H2=>G H2/\jk N5 (Ot jU (.pointer (some w)) (.agg #[(.int .i64 s.1),s.2.1.v,(.pointer s.2.2)])) H2 λA=>G A/\ae h λV=>ld ak A (V.add 0) λ(B:Sl)=>ae h λW=>ld ak A (W.add 0) λ(C:Sl)=>ae C.a λX=>(0<=(N6.wrap ((d.n:Int) - 1))/\(N6.wrap ((d.n:Int) - 1))<(C.n:Int))/\c8 (bQ [(ab .i64),ak,av]) 3 A (X.add ((N6.wrap ((d.n:Int) - 1)).toNat*3)) λ(t:(Int×Sl×Option Addr))=>ae B.a λY=>(0<=(0:Int)/\(0:Int)<(B.n:Int))/\jk N5 (Ot jU (.pointer (some (Y.add ((0:Int).toNat*3)))) (.agg #[(.int .i64 t.1),t.2.1.v,(.pointer t.2.2)])) A λH4=>ae h λZ=>ld ak H4 (Z.add 0) λ(k:Sl)=>(0<=(N6.wrap ((d.n:Int) - 1))/\(N6.wrap ((d.n:Int) - 1))<=(k.c:Int))/\ae h λaf=>st H4 (af.add 0) (.slice (cA k.a k.c 0 3) (((N6.wrap ((d.n:Int) - 1)).toNat) - 0) (k.c - 0)) λH5=>aw Int 0 H5 λnext i H6=>aw (Int×Int) (i,(0:Int)) H6 λb z c=>br (decide (z.2<2)) (rN (ab .i64) N5 (Instr.index MK (.agg #[(.int .i64 (N6.wrap ((N6.wrap ((2:Int)*i))+1))),(.int .i64 (N6.wrap ((N6.wrap ((2:Int)*i))+2)))]) (.int .i64 z.2)) λ(y:Int)=>br (decide (y<(N6.wrap ((d.n:Int) - 1)))) (ae h λan=>ld gi c (an.add 1) λ(a1:Value)=>ae h λD=>ld ak c (D.add 0) λ(E:Sl)=>ae E.a λF=>(0<=y/\y<(E.n:Int))/\c8 (bQ [(ab .i64),ak,av]) 3 c (F.add (y.toNat*3)) λ(u:(Int×Sl×Option Addr))=>ae h λI=>ld ak c (I.add 0) λ(l:Sl)=>ae l.a λJ=>(0<=z.1/\z.1<(l.n:Int))/\c8 (bQ [(ab .i64),ak,av]) 3 c (J.add (z.1.toNat*3)) λ(e:(Int×Sl×Option Addr))=>yv N5 a1 [(.agg #[(.int .i64 u.1),u.2.1.v,(.pointer u.2.2)]),(.agg #[(.int .i64 e.1),e.2.1.v,(.pointer e.2.2)])] c λ(r:Bool) H8=>br r (b (y,N6.wrap (z.2+1)) H8) (b (z.1,N6.wrap (z.2+1)) H8)) (b (z.1,N6.wrap (z.2+1)) c)) (br (z.1==i) (c8 (bQ [(ab .i64),ak,av]) 3 c w λ(f:(Int×Sl×Option Addr))=>jk N5 (Ot jU (.pointer (some p)) (.agg #[(.int .i64 f.1),f.2.1.v,(.pointer f.2.2)])) c λH9=>c8 (bQ [(ab .i64),ak,av]) 3 H9 p λ(res:(Int×Sl×Option Addr))=>R (res.1,res.2.1,res.2.2) H9) (ae h λK=>ld ak c (K.add 0) λ(m:Sl)=>ae h λL=>ld ak c (L.add 0) λ(n:Sl)=>ae h λM=>ld ak c (M.add 0) λ(o:Sl)=>ae o.a λN=>(0<=z.1/\z.1<(o.n:Int))/\c8 (bQ [(ab .i64),ak,av]) 3 c (N.add (z.1.toNat*3)) λ(g:(Int×Sl×Option Addr))=>ae h λO=>ld ak c (O.add 0) λ(q:Sl)=>ae q.a λP=>(0<=i/\i<(q.n:Int))/\c8 (bQ [(ab .i64),ak,av]) 3 c (P.add (i.toNat*3)) λ(j:(Int×Sl×Option Addr))=>ae m.a λQ=>(0<=i/\i<(m.n:Int))/\jk N5 (Ot jU (.pointer (some (Q.add (i.toNat*3)))) (.agg #[(.int .i64 g.1),g.2.1.v,(.pointer g.2.2)])) c λa6=>ae n.a λS=>(0<=z.1/\z.1<(n.n:Int))/\jk N5 (Ot jU (.pointer (some (S.add (z.1.toNat*3)))) (.agg #[(.int .i64 j.1),j.2.1.v,(.pointer j.2.2)])) a6 λa7=>next z.1 a7))
theorem IZ.of:∀{h H R},IZ.vc h H R->IZ.sp h H R:=aU [(5,[(5,(ab .i64))]),(7,[(6,(ab .i64)),(50,(ab .i64))])] (by kernel_rfl)
def yQ.vc (w:Option Addr)(l:Sl)(H:aa)(R:Kp Int):Prop:=
 br w.isNone (R (1:Int) H) (ae w λa=>GX.sp (some (a.add 0)) H λ(e:Int) H1=>br (e !=0) (R e H1) (cut Unit (λJ=>ae w λg=>ld (ab .i64) H1 ((g.add 0).add 2) λ(x:Int)=>br ((l.n:Int)!=x) (R (60:Int) H1) (ae w λh=>ld (ab .i64) H1 (h.add 9) λ(i:Int)=>br (decide (i>0)) (ae w λj=>ld ak H1 (j.add 8) λ(k:Sl)=>wR.sp l k H1 λ(r:Int) F=>br (decide (r<=0)) (R (70:Int) F) (J () F)) (J () H1))) λ(_:Unit) I=>∃G:aa->Prop,G I/\ae w λm=>dw ak G (m.add 6) λ(n:Sl)=>zU.sp l I λ(o:Sl) K=>G K/\ba ak N5 (Oa #[dQ,dQ] dQ #[n.v,o.v]) K λ(s:Sl) N=>ae w λp=>st N (p.add 6) s.v λO=>G4.sp l O λ(q:Sl) P=>ae w λt=>st P (t.add 8) q.v λL=>ae w λu=>ld (ab .i64) L (u.add 9) λ(v:Int)=>ae w λy=>st L (y.add 9) (.int .i64 (N6.wrap (v+1))) λM=>ae w λz=>ld (ab .i64) M (z.add 7) λ(A:Int)=>ae w λc=>st M (c.add 7) (.int .i64 (N6.wrap (A+1))) λb=>ae w λd=>ld (ab .i64) b (d.add 7) λ(B:Int)=>ae w λf=>ld (ab .i64) b ((f.add 0).add 3) λ(C:Int)=>br (decide (B<C)) (R (0:Int) b) (I0.sp w b λ(D:Int) E=>R D E)))
theorem yQ.of:∀{w l H R},yQ.vc w l H R->yQ.sp w l H R:=aU [(100010,[])] (by kernel_rfl)
def Is.vc (r:Option Addr)(H:aa)(R:Kp Unit):Prop:=
 br (!r.isNone) (ae r λa=>st H ((a.add 0).add 5) (.bool true) λH1=>R () H1) (R () H)
theorem Is.of:∀{r H R},Is.vc r H R->Is.sp r H R:=aU [] (by kernel_rfl)
def Fb.vc (w:Option Addr)(H:aa)(R:Kp (Int×Int)):Prop:=
 br w.isNone (R ((0:Int),(1:Int)) H) (ae w λa=>GX.sp (some (a.add 0)) H λ(e:Int) H1=>br (e==0) (I0.sp w H1 λ(t:Int) H2=>br (t !=0) (R ((0:Int),t) H2) (ae w λcz=>ld av H2 ((cz.add 0).add 0) λ(x:Option Addr)=>ae w λcB=>ld aK H2 ((cB.add 0).add 1) λ(c0:ByteArray)=>G2.sp x c0 (0:Int) H2 λ(r:(Int×Int)) H3=>cut Int (λJ=>br (r.2==0) (∃G:aa->Prop,G H3/\ae w λc3=>dw av G ((c3.add 0).add 0) λ(l:Option Addr)=>ae w λc4=>dw (ab .i64) G ((c4.add 0).add 2) λ(m:Int)=>ae w λc5=>dw (ab .i64) G (c5.add 9) λ(u:Int)=>(aI H3 #[(.int .u8 (O5.wrap m))] fx λp H5=>G H5/\aI H5 #[(.int .u64 (OI.wrap u))] gS λdc H6=>G H6/\zU.sp (Sl.mk (some dc) 1 1) H6 λ(dk:Sl) H7=>G H7/\ba ak N5 (Oa #[dQ,dQ] dQ #[(.slice (some p) 1 1),dk.v]) H7 λ(s:Sl) H8=>G H8/\zX.sp l r.1 (2:Int) s H8 λ(dm:Int) H9=>G H9/\J dm H9)/\(aI H3 #[(.int .u64 (OI.wrap u))] gS λv n=>G n/\(aI n #[(.int .u8 (O5.wrap m))] fx λdn y=>G y/\zU.sp (Sl.mk (some v) 1 1) y λ(dA:Sl) A=>G A/\ba ak N5 (Oa #[dQ,dQ] dQ #[(.slice (some dn) 1 1),dA.v]) A λ(dB:Sl) B=>G B/\zX.sp l r.1 (2:Int) dB B λ(dD:Int) C=>G C/\J dD C)/\(zU.sp (Sl.mk (some v) 1 1) n λ(dT:Sl) D=>G D/\aI D #[(.int .u8 (O5.wrap m))] fx λea E=>G E/\ba ak N5 (Oa #[dQ,dQ] dQ #[(.slice (some ea) 1 1),dT.v]) E λ(eb:Sl) F=>G F/\zX.sp l r.1 (2:Int) eb F λ(ec:Int) I=>G I/\J ec I))) (J r.2 H3)) λ(z:Int) H4=>cut Int (λK=>br (z==0) (ae w λed=>ld av H4 ((ed.add 0).add 0) λ(ee:Option Addr)=>Dz.sp ee r.1 H4 λ(eg:Int) ei=>K eg ei) (K z H4)) λ(L:Int) g=>cut Int (λM=>br (L==0) (ae w λej=>ld av g ((ej.add 0).add 0) λ(ek:Option Addr)=>ae w λen=>ld aK g ((en.add 0).add 1) λ(eo:ByteArray)=>IF.sp ek eo g λ(ep:Int) er=>M ep er) (M L g)) λ(N:Int) et=>ae w λeu=>BN.sp (some (eu.add 0)) N et λ(ev:Int) O=>br (ev !=0) (R ((0:Int),N) O) (ae w λP=>st O ((P.add 0).add 5) (.bool true) λQ=>ae w λS=>ld (ab .i64) Q (S.add 9) λ(ew:Int)=>R (ew,(0:Int)) Q))) (br (e !=0) (R ((0:Int),e) H1) (ae w λT=>ld av H1 ((T.add 0).add 0) λ(ey:Option Addr)=>ae w λU=>ld aK H1 ((U.add 0).add 1) λ(V:ByteArray)=>G2.sp ey V (0:Int) H1 λ(c:(Int×Int)) h=>cut Int (λi=>br (c.2==0) (∃b:aa->Prop,b h/\ae w λW=>dw av b ((W.add 0).add 0) λ(d:Option Addr)=>ae w λX=>dw (ab .i64) b ((X.add 0).add 2) λ(f:Int)=>ae w λY=>dw (ab .i64) b (Y.add 9) λ(k:Int)=>(aI h #[(.int .u8 (O5.wrap f))] fx λeA Z=>b Z/\aI Z #[(.int .u64 (OI.wrap k))] gS λeB af=>b af/\zU.sp (Sl.mk (some eB) 1 1) af λ(eC:Sl) an=>b an/\ba ak N5 (Oa #[dQ,dQ] dQ #[(.slice (some eA) 1 1),eC.v]) an λ(eD:Sl) a1=>b a1/\zX.sp d c.1 (2:Int) eD a1 λ(eE:Int) a6=>b a6/\i eE a6)/\(aI h #[(.int .u64 (OI.wrap k))] gS λa7 o=>b o/\(aI o #[(.int .u8 (O5.wrap f))] fx λeI a8=>b a8/\zU.sp (Sl.mk (some a7) 1 1) a8 λ(e0:Sl) bb=>b bb/\ba ak N5 (Oa #[dQ,dQ] dQ #[(.slice (some eI) 1 1),e0.v]) bb λ(e1:Sl) bd=>b bd/\zX.sp d c.1 (2:Int) e1 bd λ(e3:Int) bl=>b bl/\i e3 bl)/\(zU.sp (Sl.mk (some a7) 1 1) o λ(e4:Sl) bn=>b bn/\aI bn #[(.int .u8 (O5.wrap f))] fx λe5 bs=>b bs/\ba ak N5 (Oa #[dQ,dQ] dQ #[(.slice (some e5) 1 1),e4.v]) bs λ(e6:Sl) bx=>b bx/\zX.sp d c.1 (2:Int) e6 bx λ(e7:Int) bA=>b bA/\i e7 bA))) (i c.2 h)) λ(bB:Int) q=>cut Int (λbC=>br (bB==0) (ae w λbD=>ld av q ((bD.add 0).add 0) λ(bM:Option Addr)=>Dz.sp bM c.1 q λ(bO:Int) e8=>bC bO e8) (bC bB q)) λ(b0:Int) j=>cut Int (λb1=>br (b0==0) (ae w λb2=>ld av j ((b2.add 0).add 0) λ(b3:Option Addr)=>ae w λb4=>ld aK j ((b4.add 0).add 1) λ(b5:ByteArray)=>IF.sp b3 b5 j λ(b6:Int) e9=>b1 b6 e9) (b1 b0 j)) λ(b7:Int) fa=>ae w λb9=>BN.sp (some (b9.add 0)) b7 fa λ(fb:Int) cb=>br (fb !=0) (R ((0:Int),b7) cb) (ae w λck=>st cb ((ck.add 0).add 5) (.bool true) λcm=>ae w λcx=>ld (ab .i64) cm (cx.add 9) λ(cy:Int)=>R (cy,(0:Int)) cm))))
theorem Fb.of:∀{w H R},Fb.vc w H R->Fb.sp w H R:=aU [(100011,[(4,(ab .i64))]),(300010,[(12,ay),(20,ay)]),(100013,[(4,(ab .i64))]),(100015,[(4,(ab .i64))]),(100011,[(4,(ab .i64))]),(100013,[(4,(ab .i64))]),(100015,[(4,(ab .i64))])] (by kernel_rfl)
def G4.vc (s:Sl)(H:aa)(R:Kp Sl):Prop:=
 br s.a.isNone (R (Sl.mk none 0 0) H) (aI H #[] gS λp H1=>ba ak N5 (Oa #[ez,ez] ez #[(.slice (some p) 0 0),s.v]) H1 λ(a:Sl) b=>R a b)
theorem G4.of:∀{s H R},G4.vc s H R->G4.sp s H R:=aU [] (by kernel_rfl)
def DU.vc (s:Option Addr)(H:aa)(R:Kp Int):Prop:=
 ae s λa=>ld ak H (a.add 4) λ(x:Sl)=>MI.sp x (.func (.func wR.no) #[] #[]) H λ(_:Unit) H1=>ae s λd=>ld ak H1 (d.add 4) λ(f:Sl)=>JK.sp f H1 λ(l:Sl) C=>Im.sp s C λ(name:ByteArray) A=>ae s λg=>ld ak A (g.add 5) λ(h:Sl)=>aI A #[(.string name)] dI λp D=>ba ak N5 (Oa #[dU,dU] dU #[h.v,(.slice (some p) 1 1)]) D λ(i:Sl) E=>ae s λj=>st E (j.add 4) (.slice none 0 0) λF=>ae s λk=>st F (k.add 5) i.v λm=>ae s λn=>ld av m (n.add 0) λ(o:Option Addr)=>ae s λq=>ld (ab .i64) m (q.add 2) λ(r:Int)=>GZ.sp o name r m λ(b:(Option Addr×Int)) B=>br (b.2!=0) (R b.2 B) (aw Int 0 B λnext z t=>br (decide (z<(l.n:Int))) (ae l.a λu=>(0<=z/\z<(l.n:Int))/\ld ak t (u.add (z.toNat*1)) λ(v:Sl)=>yQ.sp b.1 v t λ(e:Int) c=>br (e !=0) (R e c) (next (N6.wrap (z+1)) c)) (Fb.sp b.1 t λ(w:(Int×Int)) y=>R w.2 y))
theorem DU.of:∀{s H R},DU.vc s H R->DU.sp s H R:=aU [(9,[(52,(ab .i64))])] (by kernel_rfl)
def Ii.vc (p:Option Addr)(name:ByteArray)(width:Int)(H:aa)(R:Kp (Option Addr×Int)):Prop:=
 Ip.sp p name width H λ(r:((Option Addr×ByteArray×Int×Int×Int×Bool)×Int)) H1=>aI H1 (zc N5 qV) qV λe v=>jk N5 (Ot qV (.pointer (some e)) (.agg #[(.pointer r.1.1),(.string r.1.2.1),(.int .i64 r.1.2.2.1),(.int .i64 r.1.2.2.2.1),(.int .i64 r.1.2.2.2.2.1),(.bool r.1.2.2.2.2.2)])) v λt=>br (r.2!=0) (R (none,r.2) t) (ID.sp (some e) (0:Int) t λ(b:(Int×Sl×Int)) g=>br (b.2.2!=0) (R (none,b.2.2) g) (br ((b.1!=2)||((b.2.1.n:Int)!=9)) (R (none,(280:Int)) g) (ae b.2.1.a λa=>(0<=(0:Int)/\(0:Int)<(b.2.1.n:Int))/\ld (ab .u8) g (a.add ((0:Int).toNat*1)) λ(x:Int)=>br ((N6.wrap x)!=width) (R (none,(280:Int)) g) (Hf.sp p g λ(k:Option Addr) w=>DF.sp k name w λ(f:(Int×Int)) u=>br (f.2!=0) (R (none,f.2) u) ((0<=(1:Int)/\(1:Int)<=(b.2.1.n:Int))/\GN.sp (Sl.mk (cA b.2.1.a b.2.1.c ((1:Int).toNat) 1) (b.2.1.n - ((1:Int).toNat)) (b.2.1.c - ((1:Int).toNat))) (1:Int) u λ(h:(Sl×Int)) j=>ae h.1.a λl=>(0<=(0:Int)/\(0:Int)<(h.1.n:Int))/\ld ak j (l.add ((0:Int).toNat*1)) λ(i:Sl)=>ae i.a λm=>(0<=(0:Int)/\(0:Int)<(i.n:Int))/\ld (ab .u64) j (m.add ((0:Int).toNat*1)) λ(rows:Int)=>br (decide (rows<=528482304)) (J9.sp (some e) (N6.wrap rows) j λ(o:Int) q=>br (f.1==(N6.wrap ((1:Int)+o))) (c8 (bQ [av,aK,(ab .i64),(ab .i64),(ab .i64),ay]) 6 q e λ(d:(Option Addr×ByteArray×Int×Int×Int×Bool))=>aI q #[(.pointer d.1),(.string d.2.1),(.int .i64 d.2.2.1),(.int .i64 d.2.2.2.1),(.int .i64 d.2.2.2.2.1),(.bool d.2.2.2.2.2),(.int .i64 (N6.wrap rows)),(.int .i64 0),(.int .i64 (-1)),(.slice none 0 0)] Me λs y=>R (some s,(0:Int)) y) (R (none,(280:Int)) q)) (R (none,(280:Int)) j))))))
theorem Ii.of:∀{p name width H R},Ii.vc p name width H R->Ii.sp p name width H R:=aU [] (by kernel_rfl)
def ET.vc (r:Option Addr)(H:aa)(R:Kp (Sl×Bool×Int)):Prop:=
 br r.isNone (R ((Sl.mk none 0 0),false,(1:Int)) H) (ae r λa=>GX.sp (some (a.add 0)) H λ(e:Int) H1=>br (e !=0) (R ((Sl.mk none 0 0),false,e) H1) (ae r λj=>ld (ab .i64) H1 (j.add 7) λ(x:Int)=>ae r λk=>ld (ab .i64) H1 (k.add 6) λ(m:Int)=>br (x==m) (R ((Sl.mk none 0 0),false,e) H1) (ae r λn=>ld (ab .i64) H1 (n.add 7) λ(o:Int)=>ae r λp=>ld (ab .i64) H1 ((p.add 0).add 3) λ(f:Int)=>f≠0/\Jw.sp r (N6.wrap (OX o f)) H1 λ(g:Int) d=>br (g !=0) (R ((Sl.mk none 0 0),false,g) d) (ae r λq=>ld ak d (q.add 9) λ(h:Sl)=>ae r λs=>ld (ab .i64) d (s.add 7) λ(c:Int)=>ae r λt=>ld (ab .i64) d ((t.add 0).add 3) λ(b:Int)=>b≠0/\ae h.a λu=>(0<=(Pq c b)/\(Pq c b)<(h.n:Int))/\ld ak d (u.add ((Pq c b).toNat*1)) λ(v:Sl)=>G4.sp v d λ(l:Sl) z=>ae r λw=>ld (ab .i64) z (w.add 7) λ(y:Int)=>ae r λi=>st z (i.add 7) (.int .i64 (N6.wrap (y+1))) λA=>R (l,true,(0:Int)) A))))
theorem ET.of:∀{r H R},ET.vc r H R->ET.sp r H R:=aU [] (by kernel_rfl)
def HW.vc (d:Option Addr)(H:aa)(R:Kp Sl):Prop:=
 Dv.sp d H λ(r:Int) H1=>br (r !=0) (R (Sl.mk none 0 0) H1) (ae d λa=>ld bT H1 (a.add 0) λ(x:Option Nat)=>Ld.sp x H1 λ(b:Value) e=>KF.sp b e λ(c:Sl) f=>R c f)
theorem HW.of:∀{d H R},HW.vc d H R->HW.sp d H R:=aU [] (by kernel_rfl)
def JA.vc (p:Option Addr)(H:aa)(R:Kp Int):Prop:=
 br (!p.isNone) (ae p λa=>ld bT H (a.add 2) λ(x:Option Nat)=>ba av N5 (P9 xO (.map x)) H λ(it:Option Addr) H1=>aw Int 0 H1 λnext n g=>ba fW N5 (P5 (.pointer it) false Af) g λ(h:Bool×List Value) d=>br h.1 (ba oH N5 (PM (.pointer it)) d λ(i:Value×Value) e=>HM av i.2 λ(f:Option Addr)=>ae f λc=>ld (ab .i64) e (c.add 5) λ(b:Int)=>next (N6.wrap (n+(if (1:Int)<b then (1:Int) else b))) e) (R n d)) (R (0:Int) H)
theorem JA.of:∀{p H R},JA.vc p H R->JA.sp p H R:=aU [(4,[(3,(ab .i64))])] (by kernel_rfl)
def K4.vc (s1 s2:Sl)(H:aa)(R:Kp Int):Prop:=
 aw Int 0 H λnext z H1=>br (decide (z<(s1.n:Int))) (ae s1.a λa=>(0<=z/\z<(s1.n:Int))/\ld (ab .u64) H1 (a.add (z.toNat*1)) λ(v1:Int)=>br (decide (z>=(s2.n:Int))) (R (1:Int) H1) (ae s2.a λb=>(0<=z/\z<(s2.n:Int))/\ld (ab .u64) H1 (b.add (z.toNat*1)) λ(v2:Int)=>GA.sp v1 v2 H1 λ(c:Int) d=>br (c !=0) (R c d) (next (N6.wrap (z+1)) d))) (br (decide ((s1.n:Int)<(s2.n:Int))) (R (-1:Int) H1) (R (0:Int) H1))
theorem K4.of:∀{s1 s2 H R},K4.vc s1 s2 H R->K4.sp s1 s2 H R:=aU [(2,[(13,(ab .i64))])] (by kernel_rfl)
def GA.vc (x y:Int)(H:aa)(R:Kp Int):Prop:=
 HC.sp x H λ(c:Bool) H1=>HC.sp y H1 λ(a:Bool) b=>br c (br a (R (0:Int) b) (R (-1:Int) b)) (br a (R (1:Int) b) (br (decide (x<y)) (R (-1:Int) b) (br (decide (x>y)) (R (1:Int) b) (R (0:Int) b))))
theorem GA.of:∀{x y H R},GA.vc x y H R->GA.sp x y H R:=aU [] (by kernel_rfl)
def JP.vc (quota:Int)(H:aa)(R:Kp (Option Addr)):Prop:=
 aI H #[(.slice none 0 0),(.int .i64 0),(.int .i64 (if (1048576:Int)<(if (0:Int)>quota then (0:Int) else quota) then (1048576:Int) else (if (0:Int)>quota then (0:Int) else quota))),(.int .i64 0),(.int .i64 0),(.bool false),(.int .i64 0),(.int .u64 0),(.bool false)] wP λp H1=>R (some p) H1
theorem JP.of:∀{quota H R},JP.vc quota H R->JP.sp quota H R:=aU [] (by kernel_rfl)
def Ks.vc (d:Option Addr)(p keep:Int)(H:aa)(R:Kp Unit):Prop:=
 Dv.sp d H λ(r:Int) H1=>br (r==0) (ae d λa=>jk N5 (Ot MH (.pointer (some (a.add 6))) (.agg #[(.bool true),(.int .i64 (if (0:Int)>p then (0:Int) else p)),(.int .u64 keep)])) H1 λb=>R () b) (R () H1)
theorem Ks.of:∀{d p keep H R},Ks.vc d p keep H R->Ks.sp d p keep H R:=aU [] (by kernel_rfl)
def Ki.vc (d:Option Addr)(p keep:Int)(H:aa)(R:Kp Unit):Prop:=
 ae d λa=>ld ay H (a.add 8) λ(x:Bool)=>br x (R () H) (ae d λb=>st H (b.add 5) (.bool true) λH1=>ae d λc=>st H1 (c.add 6) (.int .i64 (if (0:Int)>p then (0:Int) else p)) λf=>ae d λe=>st f (e.add 7) (.int .u64 keep) λg=>R () g)
theorem Ki.of:∀{d p keep H R},Ki.vc d p keep H R->Ki.sp d p keep H R:=aU [] (by kernel_rfl)
def JO.vc (d:Option Addr)(frames:Int)(H:aa)(R:Kp (Option Addr×Int)):Prop:=
 br d.isNone (R (none,(1:Int)) H) (br (decide (frames<8)) (R (none,(30:Int)) H) (br (decide (frames>4096)) (R (none,(3:Int)) H) (aI H #[(.pointer d),(.int .i64 frames),(.slice none 0 0),(.int .i64 1),(.int .i64 0),(.int .i64 0),(.int .i64 0)] ry λp H1=>R (some p,(0:Int)) H1)))
theorem JO.of:∀{d frames H R},JO.vc d frames H R->JO.sp d frames H R:=aU [] (by kernel_rfl)
def Bz.vc (width:Int)(H:aa)(R:Kp Int):Prop:=
 Hd.sp width H λ(n:Int) H1=>br (n==0) (R (0:Int) H1) (n≠0/\R (N6.wrap (OX (504:Int) n)) H1)
theorem Bz.of:∀{width H R},Bz.vc width H R->Bz.sp width H R:=aU [] (by kernel_rfl)
def J5.vc (d:Option Addr)(H:aa)(R:Kp Int):Prop:=
 br d.isNone (R (0:Int) H) (ae d λa=>ld (ab .i64) H (a.add 4) λ(x:Int)=>R x H)
theorem J5.of:∀{d H R},J5.vc d H R->J5.sp d H R:=aU [] (by kernel_rfl)
def Jq.vc (d:Option Addr)(H:aa)(R:Kp Bool):Prop:=
 br (!d.isNone) (ae d λa=>ld ay H (a.add 9) λ(x:Bool)=>R x H) (R false H)
theorem Jq.of:∀{d H R},Jq.vc d H R->Jq.sp d H R:=aU [] (by kernel_rfl)
def Jh.vc (d:Option Addr)(H:aa)(R:Kp Int):Prop:=
 br d.isNone (R (0:Int) H) (ae d λa=>ld (ab .i64) H (a.add 2) λ(x:Int)=>R x H)
theorem Jh.of:∀{d H R},Jh.vc d H R->Jh.sp d H R:=aU [] (by kernel_rfl)
def JZ.vc (p:Option Addr)(H:aa)(R:Kp Int):Prop:=
 br p.isNone (R (0:Int) H) (ae p λa=>ld bT H (a.add 2) λ(x:Option Nat)=>AL H x λ(n:Nat)=>R (n:Int) H)
theorem JZ.of:∀{p H R},JZ.vc p H R->JZ.sp p H R:=aU [] (by kernel_rfl)
def JE.vc (p:Option Addr)(H:aa)(R:Kp Int):Prop:=
 aw (Int×Int) ((0:Int),(0:Int)) H λnext z H1=>ae p λa=>ld ak H1 (a.add 2) λ(x:Sl)=>br (decide (z.2<(x.n:Int))) (ae p λc=>ld ak H1 (c.add 2) λ(b:Sl)=>ae b.a λd=>(0<=z.2/\z.2<(b.n:Int))/\ld ak H1 ((d.add (z.2.toNat*7)).add 5) λ(e:Sl)=>br (decide ((e.n:Int)>0)) (next (N6.wrap (z.1+1),N6.wrap (z.2+1)) H1) (next (z.1,N6.wrap (z.2+1)) H1)) (R z.1 H1)
theorem JE.of:∀{p H R},JE.vc p H R->JE.sp p H R:=aU [(3,[(3,(ab .i64)),(4,(ab .i64))])] (by kernel_rfl)
def JM.vc (d:Option Addr)(H:aa)(R:Kp Unit):Prop:=
 br d.isNone (R () H) (ae d λa=>ld ay H (a.add 9) λ(x:Bool)=>br (!x) (R () H) (ae d λW=>ld bT H (W.add 0) λ(X:Option Nat)=>ba av N5 (P9 yM (.map X)) H λ(it:Option Addr) H1=>aw Sl (Sl.mk none 0 0) H1 λnext order H2=>ba fW N5 (P5 (.pointer it) false Af) H2 λ(nx:Bool×List Value) H3=>br nx.1 (ba oH N5 (PM (.pointer it)) H3 λ(en:Value×Value) H4=>HM av en.2 λ(f:Option Addr)=>ae f λY=>ld ak H4 (Y.add 2) λ(n:Sl)=>aw (Sl×Int) (order,(0:Int)) H4 λi z Z=>br (decide (z.2<(n.n:Int))) (ae n.a λaf=>(0<=z.2/\z.2<(n.n:Int))/\c8 jQ 514 Z (af.add (z.2.toNat*514)) λ(an:Array Value)=>aI Z (zc N5 qR) qR λp H6=>jk N5 (Ot qR (.pointer (some p)) (.agg an)) H6 λH7=>ld (ab .i64) H7 (p.add 0) λ(a1:Int)=>aI H7 #[(.int .i64 a1)] ib λa6 H8=>ba ak N5 (Oa #[Dh,Dh] Dh #[z.1.v,(.slice (some a6) 1 1)]) H8 λ(h:Sl) H9=>i (h,N6.wrap (z.2+1)) H9) (next z.1 Z)) (ML.sp order H3 λ(_:Unit) a7=>ae d λa8=>st a7 (a8.add 1) (.int .i64 0) λr=>ae d λbb=>ld bT r (bb.add 0) λ(bd:Option Nat)=>ba av N5 (P9 yM (.map bd)) r λ(m:Option Addr) bl=>aw Unit () bl λj _ bn=>ba fW N5 (P5 (.pointer m) false Af) bn λ(s:Bool×List Value) t=>br s.1 (ba oH N5 (PM (.pointer m)) t λ(u:Value×Value) w=>HM av u.2 λ(b:Option Addr)=>ae b λbs=>ld ak w (bs.add 1) λ(bx:Sl)=>Du.sp bx w λ(bA:Sl) bB=>ae b λbC=>st bB (bC.add 0) bA.v λy=>ae b λbD=>ld ak y (bD.add 2) λ(o:Sl)=>aw Int 0 y λc e k=>br (decide (e<(o.n:Int))) (ae o.a λbM=>(0<=e/\e<(o.n:Int))/\c8 jQ 514 k (bM.add (e.toNat*514)) λ(bO:Array Value)=>aI k (zc N5 qR) qR λl b0=>jk N5 (Ot qR (.pointer (some l)) (.agg bO)) b0 λA=>ld (ab .i64) A (l.add 0) λ(b1:Int)=>IK.sp order b1 A λ(B:(Int×Bool)) g=>ae d λC=>ld (ab .u64) g ((C.add 6).add 2) λ(D:Int)=>0<=(Pq B.1 (64:Int))/\br ((lJ .u64 (dG .u64 D (Pq B.1 (64:Int))) (1:Int))==1) (ae b λE=>ld ak g (E.add 0) λ(F:Sl)=>ld (ab .i64) g (l.add 1) λ(G:Int)=>c8 jQ 512 g (l.add 2) λ(I:Array Value)=>GB.sp F G I g λ(b2:Sl) b3=>ae b λJ=>st b3 (J.add 0) b2.v λb4=>c (N6.wrap (e+1)) b4) (c (N6.wrap (e+1)) g)) (ae b λK=>ld ak k (K.add 0) λ(L:Sl)=>Du.sp L k λ(b5:Sl) b6=>ae b λM=>st b6 (M.add 1) b5.v λb7=>ae b λN=>st b7 (N.add 2) (.slice none 0 0) λq=>ae d λO=>ld (ab .i64) q (O.add 1) λ(P:Int)=>ae b λQ=>ld ak q (Q.add 0) λ(S:Sl)=>ae d λT=>st q (T.add 1) (.int .i64 (N6.wrap (P+(S.n:Int)))) λb9=>j () b9)) (ae d λU=>st t (U.add 9) (.bool false) λcb=>ae d λV=>jk N5 (Ot MH (.pointer (some (V.add 6))) (.agg #[(.bool false),(.int .i64 0),(.int .u64 0)])) cb λck=>R () ck))))
theorem JM.of:∀{d H R},JM.vc d H R->JM.sp d H R:=aU [(3,[(2,ak)]),(6,[(2,ak),(36,(ab .i64))]),(13,[]),(17,[(73,(ab .i64))])] (by kernel_rfl)
def J7.vc (d:Option Addr)(H:aa)(R:Kp Unit):Prop:=
 ae d λa=>ld ay H (a.add 8) λ(x:Bool)=>br (!x) (R () H) (aw (Sl×Int) ((Sl.mk none 0 0),(0:Int)) H λnext z H1=>ae d λD=>ld ak H1 (D.add 0) λ(E:Sl)=>br (decide (z.2<(E.n:Int))) (∃G:aa->Prop,G H1/\ae d λF=>dw ak G (F.add 0) λ(j:Sl)=>ae j.a λI=>(0<=z.2/\z.2<(j.n:Int))/\dw aK G ((I.add (z.2.toNat*3)).add 0) λ(J:ByteArray)=>ae d λK=>dw ak G (K.add 0) λ(l:Sl)=>ae l.a λL=>(0<=z.2/\z.2<(l.n:Int))/\dw ak G ((L.add (z.2.toNat*3)).add 1) λ(M:Sl)=>aI H1 (zc N5 ub) ub λp H2=>G H2/\jk N5 (Ot ub (.pointer (some p)) (.agg #[(.string J),M.v,(.slice none 0 0)])) H2 λH3=>aw Int 0 H3 λb k g=>ae d λN=>ld ak g (N.add 0) λ(m:Sl)=>ae m.a λO=>(0<=z.2/\z.2<(m.n:Int))/\ld ak g ((O.add (z.2.toNat*3)).add 2) λ(P:Sl)=>br (decide (k<(P.n:Int))) (ae d λQ=>ld ak g (Q.add 0) λ(n:Sl)=>ae n.a λS=>(0<=z.2/\z.2<(n.n:Int))/\ld ak g ((S.add (z.2.toNat*3)).add 2) λ(o:Sl)=>ae o.a λq=>(0<=k/\k<(o.n:Int))/\c8 (bQ [(ab .i64),(ab .i64),aK]) 3 g (q.add (k.toNat*3)) λ(c:(Int×Int×ByteArray))=>aI g (zc N5 yP) yP λh H5=>jk N5 (Ot yP (.pointer (some h)) (.agg #[(.int .i64 c.1),(.int .i64 c.2.1),(.string c.2.2)])) H5 λT=>∃i:aa->Prop,i T/\ae d λs=>dw (ab .u64) i (s.add 7) λ(t:Int)=>ld (ab .i64) T (h.add 0) λ(u:Int)=>J4.sp d u T λ(r:Int) w=>i w/\0<=(Pq r (64:Int))/\br ((lJ .u64 (dG .u64 t (Pq r (64:Int))) (1:Int))==1) (ld ak w (p.add 1) λ(y:Sl)=>c8 (bQ [(ab .i64),(ab .i64),aK]) 3 w h λ(e:(Int×Int×ByteArray))=>Hn.sp y e.1 e.2.1 e.2.2 w λ(U:Sl) H8=>st H8 (p.add 1) U.v λH9=>b (N6.wrap (k+1)) H9) (b (N6.wrap (k+1)) w)) (c8 (bQ [aK,ak,ak]) 3 g p λ(f:(ByteArray×Sl×Sl))=>aI g #[(.string f.1),f.2.1.v,f.2.2.v] ub λV W=>ba ak N5 (Oa #[C0,C0] C0 #[z.1.v,(.slice (some V) 1 1)]) W λ(files:Sl) X=>next (files,N6.wrap (z.2+1)) X)) (ae d λA=>st H1 (A.add 0) z.1.v λY=>ae d λB=>st Y (B.add 8) (.bool false) λZ=>ae d λC=>st Z (C.add 5) (.bool false) λaf=>R () af))
theorem J7.of:∀{d H R},J7.vc d H R->J7.sp d H R:=aU [(3,[(2,ak),(3,(ab .i64))]),(7,[(5,(ab .i64))])] (by kernel_rfl)
def JU.vc (a b:Sl)(H:aa)(R:Kp Bool):Prop:=
 br ((a.n:Int)!=(b.n:Int)) (R false H) (aw Int 0 H λnext i H1=>br (decide (i<(a.n:Int))) (ae a.a λc=>(0<=i/\i<(a.n:Int))/\ld aK H1 (c.add (i.toNat*1)) λ(x:ByteArray)=>ae b.a λd=>(0<=i/\i<(b.n:Int))/\ld aK H1 (d.add (i.toNat*1)) λ(e:ByteArray)=>br (!(x.toList==e.toList)) (R false H1) (next (N6.wrap (i+1)) H1)) (R true H1))
theorem JU.of:∀{a b H R},JU.vc a b H R->JU.sp a b H R:=aU [(4,[(5,(ab .i64))])] (by kernel_rfl)
def J1.vc (d:Option Addr)(H:aa)(R:Kp Sl):Prop:=
 aw (Sl×Int) ((Sl.mk none 0 0),(0:Int)) H λnext z H1=>ae d λa=>ld ak H1 (a.add 0) λ(x:Sl)=>br (decide (z.2<(x.n:Int))) (ae d λq=>ld ay H1 (q.add 8) λ(r:Bool)=>br (!r) (aw Int 0 H1 λe b k=>br (decide (b<(z.1.n:Int))) (ae z.1.a λs=>(0<=b/\b<(z.1.n:Int))/\ld aK k (s.add (b.toNat*1)) λ(t:ByteArray)=>ae d λu=>ld ak k (u.add 0) λ(l:Sl)=>ae l.a λv=>(0<=z.2/\z.2<(l.n:Int))/\ld aK k ((v.add (z.2.toNat*3)).add 0) λ(w:ByteArray)=>br (Op.bytesLess t.toList w.toList) (e (N6.wrap (b+1)) k) ((0<=b/\b<=(z.1.c:Int))/\ba ak N5 (Oa #[dU,dU] dU #[(.slice none 0 0),(.slice (cA z.1.a z.1.c 0 1) (b.toNat - 0) (z.1.c - 0))]) k λ(out:Sl) y=>ae d λA=>ld ak y (A.add 0) λ(m:Sl)=>ae m.a λB=>(0<=z.2/\z.2<(m.n:Int))/\ld aK y ((B.add (z.2.toNat*3)).add 0) λ(C:ByteArray)=>aI y #[(.string C)] dI λp K=>ba ak N5 (Oa #[dU,dU] dU #[out.v,(.slice (some p) 1 1)]) K λ(f:Sl) L=>(0<=b/\b<=(z.1.n:Int))/\ba ak N5 (Oa #[dU,dU] dU #[f.v,(.slice (cA z.1.a z.1.c b.toNat 1) (z.1.n - b.toNat) (z.1.c - b.toNat))]) L λ(g:Sl) M=>next (g,N6.wrap (z.2+1)) M)) ((0<=b/\b<=(z.1.c:Int))/\ba ak N5 (Oa #[dU,dU] dU #[(.slice none 0 0),(.slice (cA z.1.a z.1.c 0 1) (b.toNat - 0) (z.1.c - 0))]) k λ(h:Sl) D=>ae d λE=>ld ak D (E.add 0) λ(o:Sl)=>ae o.a λF=>(0<=z.2/\z.2<(o.n:Int))/\ld aK D ((F.add (z.2.toNat*3)).add 0) λ(G:ByteArray)=>aI D #[(.string G)] dI λI N=>ba ak N5 (Oa #[dU,dU] dU #[h.v,(.slice (some I) 1 1)]) N λ(i:Sl) O=>(0<=b/\b<=(z.1.n:Int))/\ba ak N5 (Oa #[dU,dU] dU #[i.v,(.slice (cA z.1.a z.1.c b.toNat 1) (z.1.n - b.toNat) (z.1.c - b.toNat))]) O λ(j:Sl) J=>next (j,N6.wrap (z.2+1)) J)) (R z.1 H1)) (R z.1 H1)
theorem J1.of:∀{d H R},J1.vc d H R->J1.sp d H R:=aU [(3,[(3,ak),(4,(ab .i64))]),(6,[(5,(ab .i64))])] (by kernel_rfl)
def C2.vc (d:Option Addr)(name:ByteArray)(H:aa)(R:Kp (Int×Int)):Prop:=
 AR.sp d name H λ(i:Int) H1=>ae d λa=>ld ay H1 (a.add 8) λ(x:Bool)=>br x (R ((0:Int),(4:Int)) H1) (br (decide (i<0)) (R ((0:Int),(11:Int)) H1) (ae d λe=>ld ak H1 (e.add 0) λ(c:Sl)=>ae c.a λf=>(0<=i/\i<(c.n:Int))/\c8 (bQ [aK,ak,ak]) 3 H1 (f.add (i.toNat*3)) λ(b:(ByteArray×Sl×Sl))=>DH.sp b.1 b.2.1 b.2.2 H1 λ(r:Sl) g=>R ((r.n:Int),(0:Int)) g))
theorem C2.of:∀{d name H R},C2.vc d name H R->C2.sp d name H R:=aU [] (by kernel_rfl)
def HA.vc (d:Option Addr)(name:ByteArray)(page:Int)(H:aa)(R:Kp (Sl×Int)):Prop:=
 Dx.sp d name H λ(r:(Option Addr×Int)) H1=>cut Unit (λJ=>br (r.2!=0) (R ((Sl.mk none 0 0),r.2) H1) (br (decide (page<0)) (br (decide (page<0)) (R ((Sl.mk none 0 0),(12:Int)) H1) (J () H1)) (ae r.1 λa=>ld ak H1 (a.add 0) λ(x:Sl)=>br (decide (page>=(x.n:Int))) (R ((Sl.mk none 0 0),(12:Int)) H1) (J () H1)))) λ(_:Unit) g=>ae r.1 λc=>ld ak g (c.add 0) λ(b:Sl)=>ae b.a λe=>(0<=page/\page<(b.n:Int))/\DC.sp (Sl.mk (cA (some (e.add (page.toNat*512))) 512 0 1) (512 - 0) (512 - 0)) g λ(f:Sl) h=>R (f,(0:Int)) h
theorem HA.of:∀{d name page H R},HA.vc d name page H R->HA.sp d name page H R:=aU [(100007,[])] (by kernel_rfl)
def CB.vc (d:Option Addr)(name:ByteArray)(page:Int)(H:aa)(R:Kp (Sl×Int)):Prop:=
 AR.sp d name H λ(i:Int) H1=>ae d λa=>ld ay H1 (a.add 8) λ(x:Bool)=>br x (R ((Sl.mk none 0 0),(4:Int)) H1) (br (decide (i<0)) (R ((Sl.mk none 0 0),(11:Int)) H1) (ae d λe=>ld ak H1 (e.add 0) λ(c:Sl)=>ae c.a λf=>(0<=i/\i<(c.n:Int))/\c8 (bQ [aK,ak,ak]) 3 H1 (f.add (i.toNat*3)) λ(b:(ByteArray×Sl×Sl))=>DH.sp b.1 b.2.1 b.2.2 H1 λ(l:Sl) g=>br ((decide (page<0))||(decide (page>=(l.n:Int)))) (R ((Sl.mk none 0 0),(12:Int)) g) (ae l.a λh=>(0<=page/\page<(l.n:Int))/\ld aK g (h.add (page.toNat*1)) λ(j:ByteArray)=>ba ak N5 (convert dI dQ (.string j)) g λ(k:Sl) m=>R (k,(0:Int)) m)))
theorem CB.of:∀{d name page H R},CB.vc d name page H R->CB.sp d name page H R:=aU [] (by kernel_rfl)
def Hq.vc (s:Option Addr)(H:aa)(R:Kp Int):Prop:=
 ae s λa=>ld (ab .i64) H (a.add 7) λ(x:Int)=>br (x !=0) (ae s λb=>ld (ab .i64) H (b.add 7) λ(c:Int)=>R c H) (ae s λd=>ld ay H (d.add 8) λ(e:Bool)=>br e (R (2:Int) H) (R (0:Int) H))
theorem Hq.of:∀{s H R},Hq.vc s H R->Hq.sp s H R:=aU [] (by kernel_rfl)
def Gg.vc (s:Option Addr)(H:aa)(R:Kp Int):Prop:=
 Io.sp s H λ(name:ByteArray) H1=>∃G:aa->Prop,G H1/\ae s λa=>dw av G (a.add 0) λ(x:Option Addr)=>ae s λb=>dw (ab .i64) G (b.add 2) λ(c:Int)=>ae s λd=>ld ak H1 (d.add 4) λ(f:Sl)=>Jg.sp f H1 λ(r:Sl) m=>G m/\JW.sp x name c r m λ(e:Int) q=>ae s λg=>st q (g.add 4) (.slice none 0 0) λn=>ae s λh=>ld ak n (h.add 5) λ(i:Sl)=>aI n #[(.string name)] dI λp t=>ba ak N5 (Oa #[dU,dU] dU #[i.v,(.slice (some p) 1 1)]) t λ(j:Sl) u=>ae s λk=>st u (k.add 5) j.v λo=>br (e !=0) (ae s λl=>st o (l.add 7) (.int .i64 e) λv=>R e v) (R e o)
theorem Gg.of:∀{s H R},Gg.vc s H R->Gg.sp s H R:=aU [] (by kernel_rfl)
def DI.vc (s:Option Addr)(H:aa)(R:Kp (Int×Int)):Prop:=
 Hq.sp s H λ(e:Int) H1=>br (e !=0) (R ((0:Int),e) H1) (JX.sp s H1 λ(r:(Int×Int)) c=>br (r.2!=0) (ae s λa=>st c (a.add 7) (.int .i64 r.2) λd=>R ((0:Int),r.2) d) (ae s λb=>st c (b.add 8) (.bool true) λf=>R (r.1,(0:Int)) f))
theorem DI.of:∀{s H R},DI.vc s H R->DI.sp s H R:=aU [] (by kernel_rfl)
def G7.vc (p:Option Addr)(name:ByteArray)(width:Int)(H:aa)(R:Kp (Option Addr×Int)):Prop:=
 br p.isNone (R (none,(1:Int)) H) (Bz.sp width H λ(room:Int) H1=>br (room==0) (R (none,(60:Int)) H1) (aI H1 #[(.pointer p),(.string name),(.int .i64 width),(.int .i64 0),(.bool false),(.int .i64 0),(.int .i64 0),(.int .i64 0),(.slice none 0 0)] Lw λd C=>HD.sp (some (d.add 0)) (0:Int) C λ(r:(Int×Sl×Int)) g=>br (r.2.2!=0) (R (none,r.2.2) g) (br ((r.1!=2)||((r.2.1.n:Int)!=9)) (R (none,(280:Int)) g) (ae r.2.1.a λa=>(0<=(0:Int)/\(0:Int)<(r.2.1.n:Int))/\ld (ab .u8) g (a.add ((0:Int).toNat*1)) λ(x:Int)=>br ((N6.wrap x)!=width) (R (none,(280:Int)) g) ((0<=(1:Int)/\(1:Int)<=(r.2.1.n:Int))/\IQ.sp (Sl.mk (cA r.2.1.a r.2.1.c ((1:Int).toNat) 1) (r.2.1.n - ((1:Int).toNat)) (r.2.1.c - ((1:Int).toNat))) (1:Int) g λ(b:(Sl×Int)) B=>ae p λl=>ld av B (l.add 0) λ(m:Option Addr)=>C2.sp m name B λ(e:(Int×Int)) f=>br (e.2!=0) (R (none,e.2) f) (ae b.1.a λo=>(0<=(0:Int)/\(0:Int)<(b.1.n:Int))/\ld ak f (o.add ((0:Int).toNat*1)) λ(h:Sl)=>ae h.a λq=>(0<=(0:Int)/\(0:Int)<(h.n:Int))/\ld (ab .u64) f (q.add ((0:Int).toNat*1)) λ(s:Int)=>br (decide (s>528482304)) (R (none,(280:Int)) f) (ae b.1.a λt=>(0<=(0:Int)/\(0:Int)<(b.1.n:Int))/\ld ak f (t.add ((0:Int).toNat*1)) λ(i:Sl)=>ae i.a λu=>(0<=(0:Int)/\(0:Int)<(i.n:Int))/\ld (ab .u64) f (u.add ((0:Int).toNat*1)) λ(v:Int)=>Js.sp (N6.wrap v) room f λ(w:Int) k=>br (e.1!=(N6.wrap ((1:Int)+w))) (R (none,(280:Int)) k) (ae b.1.a λy=>(0<=(0:Int)/\(0:Int)<(b.1.n:Int))/\ld ak k (y.add ((0:Int).toNat*1)) λ(j:Sl)=>ae j.a λz=>(0<=(0:Int)/\(0:Int)<(j.n:Int))/\ld (ab .u64) k (z.add ((0:Int).toNat*1)) λ(A:Int)=>st k (d.add 5) (.int .i64 (N6.wrap A)) λD=>R (some d,(0:Int)) D))))))))
theorem G7.of:∀{p name width H R},G7.vc p name width H R->G7.sp p name width H R:=aU [] (by kernel_rfl)
def Hm.vc (p:Option Addr)(name:ByteArray)(width:Int)(H:aa)(R:Kp (Option Addr×Int)):Prop:=
 br p.isNone (R (none,(1:Int)) H) (Bz.sp width H λ(r:Int) H1=>br (r==0) (R (none,(60:Int)) H1) (ae p λa=>ld av H1 (a.add 0) λ(x:Option Addr)=>JB.sp x name H1 λ(e:Int) d=>br (e !=0) (R (none,e) d) (aI d #[(.pointer p),(.string name),(.int .i64 width),(.int .i64 0),(.bool false),(.slice none 0 0),(.int .i64 0),(.slice none 0 0),(.int .i64 0)] Iw λb g=>I3.sp (some (b.add 0)) (0:Int) (Sl.mk none 0 0) g λ(c:Int) f=>br (c !=0) (R (none,c) f) (R (some b,(0:Int)) f))))
theorem Hm.of:∀{p name width H R},Hm.vc p name width H R->Hm.sp p name width H R:=aU [] (by kernel_rfl)
def BR.vc (r:Option Addr)(H:aa)(R:Kp (Sl×Bool×Int)):Prop:=
 ae r λa=>G1.sp (some (a.add 0)) H λ(e:Int) H1=>br (e !=0) (R ((Sl.mk none 0 0),false,e) H1) (ae r λg=>ld (ab .i64) H1 (g.add 6) λ(x:Int)=>ae r λh=>ld (ab .i64) H1 (h.add 5) λ(i:Int)=>br (decide (x>=i)) (R ((Sl.mk none 0 0),false,(0:Int)) H1) (ae r λj=>ld (ab .i64) H1 ((j.add 0).add 2) λ(k:Int)=>Bz.sp k H1 λ(room:Int) v=>ae r λm=>ld (ab .i64) v (m.add 6) λ(n:Int)=>room≠0/\Jn.sp r (N6.wrap (OX n room)) v λ(d:Int) c=>br (d !=0) (R ((Sl.mk none 0 0),false,d) c) (ae r λo=>ld ak c (o.add 8) λ(f:Sl)=>ae r λp=>ld (ab .i64) c (p.add 6) λ(b:Int)=>room≠0/\ae f.a λq=>(0<=(Pq b room)/\(Pq b room)<(f.n:Int))/\ld ak c (q.add ((Pq b room).toNat*1)) λ(l:Sl)=>ae r λs=>ld (ab .i64) c (s.add 6) λ(t:Int)=>ae r λu=>st c (u.add 6) (.int .i64 (N6.wrap (t+1))) λw=>R (l,true,(0:Int)) w)))
theorem BR.of:∀{r H R},BR.vc r H R->BR.sp r H R:=aU [] (by kernel_rfl)
def Am.vc (a b:Sl)(H:aa)(R:Kp Int):Prop:=
 aw Int 0 H λnext i H1=>br ((decide (i<(a.n:Int)))&&(decide (i<(b.n:Int)))) (ae a.a λc=>(0<=i/\i<(a.n:Int))/\ld (ab .u64) H1 (c.add (i.toNat*1)) λ(x:Int)=>ae b.a λd=>(0<=i/\i<(b.n:Int))/\ld (ab .u64) H1 (d.add (i.toNat*1)) λ(e:Int)=>br (decide (x<e)) (R (-1:Int) H1) (ae a.a λf=>(0<=i/\i<(a.n:Int))/\ld (ab .u64) H1 (f.add (i.toNat*1)) λ(g:Int)=>ae b.a λh=>(0<=i/\i<(b.n:Int))/\ld (ab .u64) H1 (h.add (i.toNat*1)) λ(j:Int)=>br (decide (g>j)) (R (1:Int) H1) (next (N6.wrap (i+1)) H1))) (br (decide ((a.n:Int)<(b.n:Int))) (R (-1:Int) H1) (br (decide ((a.n:Int)>(b.n:Int))) (R (1:Int) H1) (R (0:Int) H1)))
theorem Am.of:∀{a b H R},Am.vc a b H R->Am.sp a b H R:=aU [(2,[(5,(ab .i64))])] (by kernel_rfl)
def G5.vc (w:Option Addr)(H:aa)(R:Kp (Int×Int)):Prop:=
 ae w λa=>G1.sp (some (a.add 0)) H λ(e:Int) H1=>cut Int (λJ=>br (e==0) (Iy.sp w H1 λ(p:Int) Y=>J p Y) (J e H1)) λ(z:Int) m=>br (z !=0) (R ((0:Int),z) m) (ae w λq=>ld av m ((q.add 0).add 0) λ(x:Option Addr)=>ae w λs=>ld aK m ((s.add 0).add 1) λ(t:ByteArray)=>Hw.sp x t (0:Int) m λ(r:(Int×Int)) n=>cut Int (λb=>br (r.2==0) (∃G:aa->Prop,G n/\ae w λu=>dw av G ((u.add 0).add 0) λ(v:Option Addr)=>ae w λy=>ld (ab .i64) n ((y.add 0).add 2) λ(A:Int)=>ae w λB=>dw (ab .i64) G (B.add 8) λ(C:Int)=>Kg.sp A C n λ(D:Sl) X=>G X/\I9.sp v r.1 (2:Int) D X λ(E:Int) Z=>b E Z) (b r.2 n)) λ(c:Int) F=>cut Int (λd=>br (c==0) (ae w λI=>ld av F ((I.add 0).add 0) λ(K:Option Addr)=>EW.sp K r.1 F λ(L:Int) H9=>d L H9) (d c F)) λ(f:Int) o=>cut Int (λg=>br (f==0) (ae w λM=>ld av o ((M.add 0).add 0) λ(N:Option Addr)=>ae w λO=>ld aK o ((O.add 0).add 1) λ(P:ByteArray)=>Jv.sp N P o λ(Q:Int) S=>g Q S) (g f o)) λ(h:Int) i=>br (h !=0) (ae w λT=>Cl.sp (some (T.add 0)) h i λ(U:Int) V=>R ((0:Int),U) V) (ae w λj=>st i ((j.add 0).add 4) (.bool true) λk=>ae w λl=>ld (ab .i64) k (l.add 8) λ(W:Int)=>R (W,(0:Int)) k))
theorem G5.of:∀{w H R},G5.vc w H R->G5.sp w H R:=aU [(100004,[(4,(ab .i64))]),(100009,[(4,(ab .i64))]),(100011,[(4,(ab .i64))]),(100013,[(4,(ab .i64))])] (by kernel_rfl)
def AP.vc (w:Option Addr)(l:Sl)(H:aa)(R:Kp Int):Prop:=
 ae w λa=>G1.sp (some (a.add 0)) H λ(e:Int) H1=>cut Unit (λJ=>br (e !=0) (R e H1) (ae w λk=>ld (ab .i64) H1 ((k.add 0).add 2) λ(x:Int)=>br ((l.n:Int)!=x) (R (60:Int) H1) (ae w λm=>ld (ab .i64) H1 (m.add 8) λ(n:Int)=>br (decide (n>0)) (ae w λo=>ld ak H1 (o.add 7) λ(p:Sl)=>Am.sp l p H1 λ(r:Int) P=>br (decide (r<=0)) (R (70:Int) P) (J () P)) (J () H1)))) λ(_:Unit) Q=>∃G:aa->Prop,G Q/\ae w λq=>dw ak G (q.add 5) λ(t:Sl)=>It.sp l Q λ(u:Sl) S=>G S/\ba ak N5 (Oa #[dQ,dQ] dQ #[t.v,u.v]) S λ(s:Sl) W=>ae w λv=>st W (v.add 5) s.v λT=>ae w λy=>ld (ab .i64) T (y.add 6) λ(z:Int)=>ae w λA=>st T (A.add 6) (.int .i64 (N6.wrap (z+1))) λU=>ae w λB=>ld (ab .i64) U (B.add 8) λ(C:Int)=>ae w λD=>st U (D.add 8) (.int .i64 (N6.wrap (C+1))) λX=>ae w λf=>st X (f.add 7) (.slice none 0 0) λV=>ae w λg=>ld ak V (g.add 7) λ(E:Sl)=>ba ak N5 (Oa #[ez,ez] ez #[E.v,l.v]) V λ(F:Sl) I=>ae w λh=>st I (h.add 7) F.v λb=>∃c:aa->Prop,c b/\ae w λi=>dw (ab .i64) c (i.add 6) λ(K:Int)=>ae w λj=>ld (ab .i64) b ((j.add 0).add 2) λ(L:Int)=>Bz.sp L b λ(M:Int) d=>c d/\br (decide (K<M)) (R (0:Int) d) (Iy.sp w d λ(N:Int) O=>R N O)
theorem AP.of:∀{w l H R},AP.vc w l H R->AP.sp w l H R:=aU [(100008,[])] (by kernel_rfl)
def Im.vc (s:Option Addr)(H:aa)(R:Kp ByteArray):Prop:=
 ae s λa=>ld (ab .i64) H (a.add 6) λ(x:Int)=>ae s λc=>st H (c.add 6) (.int .i64 (N6.wrap (x+1))) λH1=>∃G:aa->Prop,G H1/\ae s λd=>dw aK G (d.add 1) λ(b:ByteArray)=>((b.size+(Pe #[126]).size:Nat):Int)<=9223372036854775807/\ae s λe=>ld (ab .i64) H1 (e.add 6) λ(f:Int)=>Kl.sp (N6.wrap (f - 1)) H1 λ(r:ByteArray) g=>G g/\(((b++(Pe #[126])).size+r.size:Nat):Int)<=9223372036854775807/\R ((b++(Pe #[126]))++r) g
theorem Im.of:∀{s H R},Im.vc s H R->Im.sp s H R:=aU [] (by kernel_rfl)
def HL.vc (s:Option Addr)(k:Int)(to:ByteArray)(H:aa)(R:Kp (Int×Int)):Prop:=
 ae s λa=>ld ak H (a.add 5) λ(x:Sl)=>(0<=k/\k<=(x.c:Int))/\ae s λd=>ld av H (d.add 0) λ(f:Option Addr)=>ae s λg=>ld (ab .i64) H (g.add 2) λ(h:Int)=>Kt.sp f (Sl.mk (cA x.a x.c 0 1) (k.toNat - 0) (x.c - 0)) to h H λ(r:(Int×Int)) H1=>aw (Int×Int) (r.2,(0:Int)) H1 λnext z c=>br (decide (z.2<((k.toNat - 0:Nat):Int))) (ae (cA x.a x.c 0 1) λi=>(0<=z.2/\z.2<((k.toNat - 0:Nat):Int))/\ld aK c (i.add (z.2.toNat*1)) λ(name:ByteArray)=>br (z.1==0) (ae s λj=>ld av c (j.add 0) λ(l:Option Addr)=>JD.sp l name c λ(e:Int) o=>next (e,N6.wrap (z.2+1)) o) (next (z.1,N6.wrap (z.2+1)) c)) (ae s λm=>ld ak c (m.add 5) λ(b:Sl)=>(0<=k/\k<=(b.n:Int))/\ae s λn=>st c (n.add 5) (.slice (cA b.a b.c k.toNat 1) (b.n - k.toNat) (b.c - k.toNat)) λp=>R (r.1,z.1) p)
theorem HL.of:∀{s k to H R},HL.vc s k to H R->HL.sp s k to H R:=aU [(4,[(10,(ab .i64)),(35,(ab .i64))])] (by kernel_rfl)
def JQ.vc (s:Sl)(H:aa)(R:Kp Sl):Prop:=
 br s.a.isNone (R (Sl.mk none 0 0) H) (aI H #[] dI λp H1=>ba ak N5 (Oa #[dU,dU] dU #[(.slice (some p) 0 0),s.v]) H1 λ(a:Sl) b=>R a b)
theorem JQ.of:∀{s H R},JQ.vc s H R->JQ.sp s H R:=aU [] (by kernel_rfl)
def HZ.vc (width:Int)(H:aa)(R:Kp Int):Prop:=
 br (decide (width<0)) (br (decide (width<0)) (R (0:Int) H) (br (width==0) (R (1:Int) H) (R (N6.wrap ((8:Int)*width)) H))) (br (decide (width>16)) (R (0:Int) H) (br (width==0) (R (1:Int) H) (R (N6.wrap ((8:Int)*width)) H)))
theorem HZ.of:∀{width H R},HZ.vc width H R->HZ.sp width H R:=aU [] (by kernel_rfl)
def Ip.vc (p:Option Addr)(name:ByteArray)(width:Int)(H:aa)(R:Kp ((Option Addr×ByteArray×Int×Int×Int×Bool)×Int)):Prop:=
 aI H (zc N5 qV) qV λc H1=>GJ.sp width H1 λ(r:Int) m=>aI m (zc N5 qV) qV λf n=>jk N5 (Ot qV (.pointer (some f)) (.agg #[(.pointer p),(.string name),(.int .i64 width),(.int .i64 r),(.int .i64 0),(.bool false)])) n λg=>cut Unit (λJ=>br p.isNone (c8 (bQ [av,aK,(ab .i64),(ab .i64),(ab .i64),ay]) 6 g f λ(x:(Option Addr×ByteArray×Int×Int×Int×Bool))=>jk N5 (Ot qV (.pointer (some c)) (.agg #[(.pointer x.1),(.string x.2.1),(.int .i64 x.2.2.1),(.int .i64 x.2.2.2.1),(.int .i64 x.2.2.2.2.1),(.bool x.2.2.2.2.2)])) g λi=>c8 (bQ [av,aK,(ab .i64),(ab .i64),(ab .i64),ay]) 6 i c λ(res:(Option Addr×ByteArray×Int×Int×Int×Bool))=>R ((res.1,res.2.1,res.2.2.1,res.2.2.2.1,res.2.2.2.2.1,res.2.2.2.2.2),(1:Int)) i) (ld (ab .i64) g (f.add 3) λ(h:Int)=>br (h==0) (c8 (bQ [av,aK,(ab .i64),(ab .i64),(ab .i64),ay]) 6 g f λ(d:(Option Addr×ByteArray×Int×Int×Int×Bool))=>jk N5 (Ot qV (.pointer (some c)) (.agg #[(.pointer d.1),(.string d.2.1),(.int .i64 d.2.2.1),(.int .i64 d.2.2.2.1),(.int .i64 d.2.2.2.2.1),(.bool d.2.2.2.2.2)])) g λj=>c8 (bQ [av,aK,(ab .i64),(ab .i64),(ab .i64),ay]) 6 j c λ(a:(Option Addr×ByteArray×Int×Int×Int×Bool))=>R ((a.1,a.2.1,a.2.2.1,a.2.2.2.1,a.2.2.2.2.1,a.2.2.2.2.2),(60:Int)) j) (J () g))) λ(_:Unit) k=>c8 (bQ [av,aK,(ab .i64),(ab .i64),(ab .i64),ay]) 6 k f λ(e:(Option Addr×ByteArray×Int×Int×Int×Bool))=>jk N5 (Ot qV (.pointer (some c)) (.agg #[(.pointer e.1),(.string e.2.1),(.int .i64 e.2.2.1),(.int .i64 e.2.2.2.1),(.int .i64 e.2.2.2.2.1),(.bool e.2.2.2.2.2)])) k λl=>c8 (bQ [av,aK,(ab .i64),(ab .i64),(ab .i64),ay]) 6 l c λ(b:(Option Addr×ByteArray×Int×Int×Int×Bool))=>R ((b.1,b.2.1,b.2.2.1,b.2.2.2.1,b.2.2.2.2.1,b.2.2.2.2.2),(0:Int)) l
theorem Ip.of:∀{p name width H R},Ip.vc p name width H R->Ip.sp p name width H R:=aU [(100006,[])] (by kernel_rfl)
def Hf.vc (p:Option Addr)(H:aa)(R:Kp (Option Addr)):Prop:=
 br p.isNone (R none H) (ae p λa=>ld av H (a.add 0) λ(x:Option Addr)=>R x H)
theorem Hf.of:∀{p H R},Hf.vc p H R->Hf.sp p H R:=aU [] (by kernel_rfl)
def JL.vc (d:Option Addr)(name:ByteArray)(H:aa)(R:Kp Int):Prop:=
 Dv.sp d H λ(e:Int) H1=>br (e !=0) (R e H1) (ae d λa=>ld bT H1 (a.add 0) λ(x:Option Nat)=>Dw (aR [av,ay]) N5 (Px yM (.map x) (.string name) true) H1 λ(f:(Option Addr×Bool))=>IG.sp name H1 λ(r:Bool) c=>br (!r) (R (2:Int) c) (br f.2 (R (10:Int) c) (ae d λg=>ld bT c (g.add 0) λ(h:Option Nat)=>AL c h λ(n:Nat)=>br ((n:Int)==4096) (R (3:Int) c) (Ds.sp d c λ(b:Int) i=>br (b==0) (ae d λj=>ld bT i (j.add 0) λ(k:Option Nat)=>aI i #[(.slice none 0 0),(.slice none 0 0),(.slice none 0 0)] CL λp l=>jk N5 (Qe yM (.map k) (.string name) (.pointer (some p))) l λm=>R b m) (R b i)))))
theorem JL.of:∀{d name H R},JL.vc d name H R->JL.sp d name H R:=aU [] (by kernel_rfl)
def G0.vc (b:Option Addr)(kind:Int)(p:Sl)(H:aa)(R:Kp Int):Prop:=
 ae b λa=>ld av H (a.add 0) λ(x:Option Addr)=>ae b λc=>ld aK H (c.add 1) λ(d:ByteArray)=>Jd.sp x d H λ(r:(Int×Int×Int)) H1=>br ((r.2.2==0)&&(kind !=0)) (ae b λf=>ld av H1 (f.add 0) λ(g:Option Addr)=>zX.sp g r.1 kind p H1 λ(e:Int) h=>br (e==0) (ae b λi=>ld av h (i.add 0) λ(j:Option Addr)=>Dz.sp j r.1 h λ(k:Int) o=>R k o) (R e h)) (br (r.2.2==0) (ae b λl=>ld av H1 (l.add 0) λ(m:Option Addr)=>Dz.sp m r.1 H1 λ(n:Int) q=>R n q) (R r.2.2 H1))
theorem G0.of:∀{b kind p H R},G0.vc b kind p H R->G0.sp b kind p H R:=aU [] (by kernel_rfl)
def JJ.vc (h:Option Addr)(U:Int)(B:Sl)(C:Option Addr)(H:aa)(R:Kp Unit):Prop:=
 aI H #[(.int .i64 U),B.v,(.pointer C)] jU λp H1=>∃G:aa->Prop,G H1/\ae h λa=>dw ak G (a.add 0) λ(x:Sl)=>c8 (bQ [(ab .i64),ak,av]) 3 H1 p λ(k:(Int×Sl×Option Addr))=>aI H1 #[(.int .i64 k.1),k.2.1.v,(.pointer k.2.2)] jU λD S=>G S/\ba ak N5 (Oa #[Md,Md] Md #[x.v,(.slice (some D) 1 1)]) S λ(s:Sl) V=>ae h λE=>st V (E.add 0) s.v λT=>ae h λF=>ld ak T (F.add 0) λ(I:Sl)=>aw Int (N6.wrap ((I.n:Int) - 1)) T λnext i l=>br (decide (i>0)) (ae h λJ=>ld gi l (J.add 1) λ(K:Value)=>ae h λL=>ld ak l (L.add 0) λ(o:Sl)=>ae o.a λM=>(0<=i/\i<(o.n:Int))/\c8 (bQ [(ab .i64),ak,av]) 3 l (M.add (i.toNat*3)) λ(m:(Int×Sl×Option Addr))=>ae h λN=>ld ak l (N.add 0) λ(q:Sl)=>ae q.a λO=>(0<=(N6.wrap (OX (N6.wrap (i - 1)) (2:Int)))/\(N6.wrap (OX (N6.wrap (i - 1)) (2:Int)))<(q.n:Int))/\c8 (bQ [(ab .i64),ak,av]) 3 l (O.add ((N6.wrap (OX (N6.wrap (i - 1)) (2:Int))).toNat*3)) λ(n:(Int×Sl×Option Addr))=>yv N5 K [(.agg #[(.int .i64 m.1),m.2.1.v,(.pointer m.2.2)]),(.agg #[(.int .i64 n.1),n.2.1.v,(.pointer n.2.2)])] l λ(r:Bool) d=>br (!r) (R () d) (ae h λP=>ld ak d (P.add 0) λ(e:Sl)=>ae h λQ=>ld ak d (Q.add 0) λ(f:Sl)=>ae h λt=>ld ak d (t.add 0) λ(g:Sl)=>ae g.a λu=>(0<=(N6.wrap (OX (N6.wrap (i - 1)) (2:Int)))/\(N6.wrap (OX (N6.wrap (i - 1)) (2:Int)))<(g.n:Int))/\c8 (bQ [(ab .i64),ak,av]) 3 d (u.add ((N6.wrap (OX (N6.wrap (i - 1)) (2:Int))).toNat*3)) λ(b:(Int×Sl×Option Addr))=>ae h λw=>ld ak d (w.add 0) λ(j:Sl)=>ae j.a λy=>(0<=i/\i<(j.n:Int))/\c8 (bQ [(ab .i64),ak,av]) 3 d (y.add (i.toNat*3)) λ(c:(Int×Sl×Option Addr))=>ae e.a λz=>(0<=i/\i<(e.n:Int))/\jk N5 (Ot jU (.pointer (some (z.add (i.toNat*3)))) (.agg #[(.int .i64 b.1),b.2.1.v,(.pointer b.2.2)])) d λW=>ae f.a λA=>(0<=(N6.wrap (OX (N6.wrap (i - 1)) (2:Int)))/\(N6.wrap (OX (N6.wrap (i - 1)) (2:Int)))<(f.n:Int))/\jk N5 (Ot jU (.pointer (some (A.add ((N6.wrap (OX (N6.wrap (i - 1)) (2:Int))).toNat*3)))) (.agg #[(.int .i64 c.1),c.2.1.v,(.pointer c.2.2)])) W λX=>next (N6.wrap (OX (N6.wrap (i - 1)) (2:Int))) X)) (R () l)
theorem JJ.of:∀{h c a b H R},JJ.vc h c a b H R->JJ.sp h c a b H R:=aU [(3,[(4,(ab .i64))])] (by kernel_rfl)
def GX.vc (b:Option Addr)(H:aa)(R:Kp Int):Prop:=
 ae b λa=>ld (ab .i64) H (a.add 4) λ(x:Int)=>br (x !=0) (ae b λc=>ld (ab .i64) H (c.add 4) λ(d:Int)=>R d H) (ae b λe=>ld ay H (e.add 5) λ(f:Bool)=>br f (R (2:Int) H) (R (0:Int) H))
theorem GX.of:∀{b H R},GX.vc b H R->GX.sp b H R:=aU [] (by kernel_rfl)
def zU.vc (l:Sl)(H:aa)(R:Kp Sl):Prop:=
 br ((l.n:Int)==0) (aI H #[(.int .u8 0)] fx λp H1=>R (Sl.mk (some p) 1 1) H1) (ba ak N5 (QX dQ (.int .i64 0) (.int .i64 (N6.wrap ((8:Int)*(l.n:Int))))) H λ(out:Sl) e=>aw (Sl×Int) (out,(0:Int)) e λnext z d=>br (decide (z.2<(l.n:Int))) (ae l.a λa=>(0<=z.2/\z.2<(l.n:Int))/\ld (ab .u64) d (a.add (z.2.toNat*1)) λ(n:Int)=>Kq.sp (zc N5 Fj) n d λ(r:Array Value) f=>aI f (zc N5 Fj) Fj λc g=>jk N5 (Ot Fj (.pointer (some c)) (.agg r)) g λh=>ba ak N5 (Oa #[dQ,dQ] dQ #[z.1.v,(.slice (cA (some c) 8 0 1) (8 - 0) (8 - 0))]) h λ(b:Sl) i=>next (b,N6.wrap (z.2+1)) i) (R z.1 d))
theorem zU.of:∀{l H R},zU.vc l H R->zU.sp l H R:=aU [(5,[(3,ak),(17,(ab .i64))])] (by kernel_rfl)
def I0.vc (w:Option Addr)(H:aa)(R:Kp Int):Prop:=
 ae w λa=>ld (ab .i64) H (a.add 7) λ(x:Int)=>br (x==0) (R (0:Int) H) (ae w λb=>ae w λc=>ld ak H (c.add 6) λ(d:Sl)=>G0.sp (some (b.add 0)) (1:Int) d H λ(e:Int) H1=>ae w λf=>st H1 (f.add 6) (.slice none 0 0) λi=>ae w λg=>st i (g.add 7) (.int .i64 0) λj=>ae w λh=>BN.sp (some (h.add 0)) e j λ(r:Int) k=>R r k)
theorem I0.of:∀{w H R},I0.vc w H R->I0.sp w H R:=aU [] (by kernel_rfl)
def G2.vc (p:Option Addr)(name:ByteArray)(page:Int)(H:aa)(R:Kp (Int×Int)):Prop:=
 DD.sp p H λ(e:Int) H1=>br (e !=0) (R ((0:Int),e) H1) (aI H1 (zc N5 wO) wO λb l=>jk N5 (Ot wO (.pointer (some b)) (.agg #[(.string name),(.int .i64 page)])) l λd=>ae p λa=>ld bT d (a.add 2) λ(x:Option Nat)=>c8 (bQ [aK,(ab .i64)]) 2 d b λ(f:(ByteArray×Int))=>Dw (aR [av,ay]) N5 (Px xO (.map x) (.agg #[(.string f.1),(.int .i64 f.2)]) true) d λ(g:(Option Addr×Bool))=>br g.2 (Ft.sp p g.1 d λ(r:Int) m=>R (r,(0:Int)) m) (c8 (bQ [aK,(ab .i64)]) 2 d b λ(h:(ByteArray×Int))=>Kv.sp p h.1 h.2 d λ(c:(Option Addr×Int)) k=>br (c.2!=0) (vo.sp p c.2 k λ(i:Int) n=>R ((0:Int),i) n) (Ci.sp p c.1 k λ(j:Int) o=>R (j,(0:Int)) o)))
theorem G2.of:∀{p name page H R},G2.vc p name page H R->G2.sp p name page H R:=aU [] (by kernel_rfl)
def zX.vc (p:Option Addr)(h kind:Int)(b:Sl)(H:aa)(R:Kp Int):Prop:=
 GW.sp p h H λ(r:(Option Addr×Int)) H1=>br (r.2!=0) (R r.2 H1) (br (decide ((b.n:Int)>504)) (R (2:Int) H1) (DC.sp b H1 λ(c:Sl) f=>ae r.1 λa=>st f (a.add 2) (.int .u8 kind) λg=>ae r.1 λd=>st g (d.add 3) c.v λi=>ae r.1 λe=>st i (e.add 4) (.bool true) λj=>R (0:Int) j))
theorem zX.of:∀{p h kind b H R},zX.vc p h kind b H R->zX.sp p h kind b H R:=aU [] (by kernel_rfl)
def Dz.vc (p:Option Addr)(h:Int)(H:aa)(R:Kp Int):Prop:=
 GW.sp p h H λ(r:(Option Addr×Int)) H1=>br (r.2!=0) (R r.2 H1) (ae p λa=>ld bT H1 (a.add 3) λ(x:Option Nat)=>ba gi N5 (PF #[LM,ib] Af #[(.map x),(.int .i64 h)]) H1 λ(_:Value) m=>ae p λb=>ld (ab .i64) m (b.add 5) λ(c:Int)=>ae p λd=>st m (d.add 5) (.int .i64 (N6.wrap (c+1))) λe=>ae r.1 λf=>ld (ab .i64) e (f.add 5) λ(g:Int)=>ae p λi=>ld (ab .i64) e (i.add 5) λ(j:Int)=>ae r.1 λk=>st e (k.add 5) (.int .i64 (N6.wrap (g - 1))) λn=>ae r.1 λl=>st n (l.add 6) (.int .i64 j) λo=>R (0:Int) o)
theorem Dz.of:∀{p h H R},Dz.vc p h H R->Dz.sp p h H R:=aU [] (by kernel_rfl)
def IF.vc (p:Option Addr)(name:ByteArray)(H:aa)(R:Kp Int):Prop:=
 DD.sp p H λ(e:Int) H1=>br (e !=0) (R e H1) (ae p λa=>ld av H1 (a.add 0) λ(x:Option Addr)=>DF.sp x name H1 λ(r:(Int×Int)) q=>br (r.2!=0) (vo.sp p r.2 q λ(g:Int) t=>R g t) (IP.sp p name q λ(b:Sl) u=>aw Int 0 u λnext z c=>br (decide (z<(b.n:Int))) (ae b.a λh=>(0<=z/\z<(b.n:Int))/\ld av c (h.add (z.toNat*1)) λ(f:Option Addr)=>ae f λi=>ld ay c (i.add 4) λ(j:Bool)=>br (!j) (next (N6.wrap (z+1)) c) (Dy.sp p f c λ(d:Int) s=>br (d !=0) (vo.sp p d s λ(k:Int) v=>R k v) (next (N6.wrap (z+1)) s))) (ae p λl=>ld av c (l.add 0) λ(m:Option Addr)=>Ke.sp m name c λ(n:Int) w=>vo.sp p n w λ(o:Int) y=>R o y)))
theorem IF.of:∀{p name H R},IF.vc p name H R->IF.sp p name H R:=aU [(8,[(34,(ab .i64))])] (by kernel_rfl)
def BN.vc (b:Option Addr)(e:Int)(H:aa)(R:Kp Int):Prop:=
 br (e !=0) (ae b λa=>st H (a.add 4) (.int .i64 e) λH1=>R e H1) (R e H)
theorem BN.of:∀{b e H R},BN.vc b e H R->BN.sp b e H R:=aU [] (by kernel_rfl)
def JK.vc (s:Sl)(H:aa)(R:Kp Sl):Prop:=
 br (decide ((s.n:Int)<2)) (R s H) (aw Int 1 H λnext k H1=>br (decide (k<(s.n:Int))) (ae s.a λa=>(0<=k/\k<(s.n:Int))/\ld ak H1 (a.add (k.toNat*1)) λ(x:Sl)=>ae s.a λd=>(0<=(N6.wrap (k - 1))/\(N6.wrap (k - 1))<(s.n:Int))/\ld ak H1 (d.add ((N6.wrap (k - 1)).toNat*1)) λ(e:Sl)=>EV.sp x e H1 λ(r:Bool) p=>br r ((0<=k/\k<=(s.n:Int))/\aw (Int×Int) (k,(1:Int)) p λb z c=>br (decide (z.2<((s.n - k.toNat:Nat):Int))) (ae (cA s.a s.c k.toNat 1) λf=>(0<=z.2/\z.2<((s.n - k.toNat:Nat):Int))/\ld ak c (f.add (z.2.toNat*1)) λ(g:Sl)=>ae (cA s.a s.c k.toNat 1) λh=>(0<=(N6.wrap (z.2 - 1))/\(N6.wrap (z.2 - 1))<((s.n - k.toNat:Nat):Int))/\ld ak c (h.add ((N6.wrap (z.2 - 1)).toNat*1)) λ(i:Sl)=>EV.sp g i c λ(j:Bool) l=>br (!j) (ae (cA s.a s.c k.toNat 1) λm=>(0<=z.2/\z.2<((s.n - k.toNat:Nat):Int))/\ld ak l (m.add (z.2.toNat*1)) λ(n:Sl)=>ae s.a λo=>(0<=z.1/\z.1<(s.n:Int))/\st l (o.add (z.1.toNat*1)) n.v λq=>b (N6.wrap (z.1+1),N6.wrap (z.2+1)) q) (b (z.1,N6.wrap (z.2+1)) l)) ((0<=z.1/\z.1<=(s.n:Int))/\ba gi N5 (To #[gh] Af #[(.slice (cA s.a s.c z.1.toNat 1) (s.n - z.1.toNat) (s.c - z.1.toNat))]) c λ(_:Value) t=>(0<=z.1/\z.1<=(s.c:Int))/\R (Sl.mk (cA s.a s.c 0 1) (z.1.toNat - 0) (s.c - 0)) t)) (next (N6.wrap (k+1)) p)) (R s H1))
theorem JK.of:∀{s H R},JK.vc s H R->JK.sp s H R:=aU [(4,[(5,(ab .i64))]),(9,[(5,(ab .i64)),(7,(ab .i64))])] (by kernel_rfl)
def EV.vc (a b:Sl)(H:aa)(R:Kp Bool):Prop:=
 wR.sp a b H λ(r:Int) H1=>R (r==0) H1
theorem EV.of:∀{a b H R},EV.vc a b H R->EV.sp a b H R:=aU [] (by kernel_rfl)
def ID.vc (b:Option Addr)(page:Int)(H:aa)(R:Kp (Int×Sl×Int)):Prop:=
 ae b λa=>ld av H (a.add 0) λ(x:Option Addr)=>ae b λd=>ld aK H (d.add 1) λ(f:ByteArray)=>G2.sp x f page H λ(r:(Int×Int)) H1=>br (r.2!=0) (R ((0:Int),(Sl.mk none 0 0),r.2) H1) (ae b λg=>ld av H1 (g.add 0) λ(h:Option Addr)=>J8.sp h r.1 H1 λ(c:(Int×Sl×Int)) i=>br (c.2.2==0) (ae b λj=>ld av i (j.add 0) λ(k:Option Addr)=>Dz.sp k r.1 i λ(e:Int) l=>R (c.1,c.2.1,e) l) (R (c.1,c.2.1,c.2.2) i))
theorem ID.of:∀{b page H R},ID.vc b page H R->ID.sp b page H R:=aU [] (by kernel_rfl)
def DF.vc (d:Option Addr)(name:ByteArray)(H:aa)(R:Kp (Int×Int)):Prop:=
 Dx.sp d name H λ(r:(Option Addr×Int)) H1=>br (r.2!=0) (R ((0:Int),r.2) H1) (ae r.1 λa=>ld ak H1 (a.add 0) λ(x:Sl)=>R ((x.n:Int),(0:Int)) H1)
theorem DF.of:∀{d name H R},DF.vc d name H R->DF.sp d name H R:=aU [] (by kernel_rfl)
def GN.vc (b:Sl)(width:Int)(H:aa)(R:Kp (Sl×Int)):Prop:=
 aI H #[(.int .i64 width)] ib λp H1=>aI H1 (zc N5 gh) gh λe H2=>aI H2 (zc N5 Lc) Lc λf H3=>ld (ab .i64) H3 p λ(x:Int)=>HZ.sp x H3 λ(n:Int) L=>br (n==0) (st L e (.slice none 0 0) λH5=>st H5 f (.int .i64 60) λM=>ld ak M e λ(res:Sl)=>ld (ab .i64) M f λ(t:Int)=>R (res,t) M) (n≠0/\br ((Pq (b.n:Int) n)!=0) (st L e (.slice none 0 0) λH7=>st H7 f (.int .i64 60) λN=>ld ak N e λ(u:Sl)=>ld (ab .i64) N f λ(v:Int)=>R (u,v) N) (n≠0/\ba ak N5 (QX gh (.int .i64 0) (.int .i64 (N6.wrap (OX (b.n:Int) n)))) L λ(sl:Sl) H9=>aI H9 (zc N5 gh) gh λj O=>st O j sl.v λP=>JF.sp b n P λ(r:Value) Q=>oO N5 r Q (λl rec vs h KK=>iN (dg.dec [ak] vs) λ(z:Sl)=>h[l]?=some (.loop (rec .ready none))/\cut Unit (λJ=>ld (ab .i64) (h.setIfInBounds l (.loop (rec .busy none))) p λ(S:Int)=>br (S==0) (ae z.a λa=>(0<=(0:Int)/\(0:Int)<(z.n:Int))/\ld (ab .u8) (h.setIfInBounds l (.loop (rec .busy none))) (a.add ((0:Int).toNat*1)) λ(T:Int)=>br (T !=0) (st (h.setIfInBounds l (.loop (rec .busy none))) e (.slice none 0 0) λU=>st U f (.int .i64 60) λE=>E[l]?=some (.loop (rec .busy none))/\KK false (E.setIfInBounds l (.loop (rec .done (some .ret))))) (J () (h.setIfInBounds l (.loop (rec .busy none))))) (J () (h.setIfInBounds l (.loop (rec .busy none))))) λ(_:Unit) F=>ld (ab .i64) F p λ(G:Int)=>ba ak N5 (QX ez (.int .i64 G) (.int .i64 G)) F λ(k:Sl) I=>ld (ab .i64) I p λ(V:Int)=>aw Int 0 I λnext d m=>br (decide (d<(N6.wrap ((8:Int)*V)))) (ae k.a λW=>(0<=(N6.wrap (OX d (8:Int)))/\(N6.wrap (OX d (8:Int)))<(k.n:Int))/\ld (ab .u64) m (W.add ((N6.wrap (OX d (8:Int))).toNat*1)) λ(X:Int)=>ae z.a λY=>(0<=d/\d<(z.n:Int))/\ld (ab .u8) m (Y.add (d.toNat*1)) λ(Z:Int)=>ae k.a λaf=>(0<=(N6.wrap (OX d (8:Int)))/\(N6.wrap (OX d (8:Int)))<(k.n:Int))/\st m (af.add ((N6.wrap (OX d (8:Int))).toNat*1)) (.int .u64 (yO .u64 (kV .u64 X (8:Int)) (OI.wrap Z))) λan=>next (N6.wrap (d+1)) an) (ld ak m j λ(a1:Sl)=>aI m #[k.v] ez λa6 a7=>ba ak N5 (Oa #[gh,gh] gh #[a1.v,(.slice (some a6) 1 1)]) a7 λ(s:Sl) a8=>st a8 j s.v λK=>K[l]?=some (.loop (rec .busy none))/\KK true (K.setIfInBounds l (.loop (rec .ready none))))) (λc g=>ld ak g j λ(bb:Sl)=>st g e bb.v λbd=>st bd f (.int .i64 0) λo=>o[c]?=some (.deferred (some []))/\ld ak (o.setIfInBounds c (.deferred none)) e λ(w:Sl)=>ld (ab .i64) (o.setIfInBounds c (.deferred none)) f λ(y:Int)=>R (w,y) (o.setIfInBounds c (.deferred none))) (λi c g=>bif OC i 0 then ld ak g j λ(bl:Sl)=>st g e bl.v λbn=>st bn f (.int .i64 0) λq=>q[c]?=some (.deferred (some []))/\ld ak (q.setIfInBounds c (.deferred none)) e λ(A:Sl)=>ld (ab .i64) (q.setIfInBounds c (.deferred none)) f λ(B:Int)=>R (A,B) (q.setIfInBounds c (.deferred none)) else False) (λc g=>g[c]?=some (.deferred (some []))/\ld ak (g.setIfInBounds c (.deferred none)) e λ(C:Sl)=>ld (ab .i64) (g.setIfInBounds c (.deferred none)) f λ(D:Int)=>R (C,D) (g.setIfInBounds c (.deferred none)))))
theorem GN.of:∀{b width H R},GN.vc b width H R->GN.sp b width H R:=aU [(200007,[(30,ak)]),(100009,[]),(11,[(43,(ab .i64))])] (by kernel_rfl)
def J9.vc (b:Option Addr)(n:Int)(H:aa)(R:Kp Int):Prop:=
 ae b λa=>ld (ab .i64) H (a.add 3) λ(x:Int)=>ae b λd=>ld (ab .i64) H (d.add 3) λ(c:Int)=>c≠0/\R (N6.wrap (OX (N6.wrap ((N6.wrap (n+x)) - 1)) c)) H
theorem J9.of:∀{b n H R},J9.vc b n H R->J9.sp b n H R:=aU [] (by kernel_rfl)
def Jw.vc (r:Option Addr)(k:Int)(H:aa)(R:Kp Int):Prop:=
 ae r λa=>ld (ab .i64) H (a.add 8) λ(x:Int)=>br (x==k) (R (0:Int) H) (ae r λi=>ID.sp (some (i.add 0)) (N6.wrap (k+1)) H λ(b:(Int×Sl×Int)) H1=>br (b.2.2!=0) (ae r λj=>BN.sp (some (j.add 0)) b.2.2 H1 λ(l:Int) A=>R l A) (ae r λm=>ld (ab .i64) H1 ((m.add 0).add 2) λ(o:Int)=>GN.sp b.2.1 o H1 λ(c:(Sl×Int)) d=>br ((b.1!=1)||(c.2!=0)) (ae r λp=>BN.sp (some (p.add 0)) (280:Int) d λ(q:Int) B=>R q B) (ae r λs=>ld (ab .i64) d ((s.add 0).add 3) λ(e:Int)=>ae r λt=>ld (ab .i64) d (t.add 6) λ(f:Int)=>ae r λu=>ld (ab .i64) d ((u.add 0).add 3) λ(g:Int)=>br ((c.1.n:Int)!=(if (N6.wrap (f - (N6.wrap (k*g))))<e then (N6.wrap (f - (N6.wrap (k*g)))) else e)) (ae r λw=>BN.sp (some (w.add 0)) (280:Int) d λ(y:Int) C=>R y C) (ae r λz=>st d (z.add 8) (.int .i64 k) λD=>ae r λh=>st D (h.add 9) c.1.v λE=>R (0:Int) E))))
theorem Jw.of:∀{r k H R},Jw.vc r k H R->Jw.sp r k H R:=aU [] (by kernel_rfl)
def Dv.vc (d:Option Addr)(H:aa)(R:Kp Int):Prop:=
 br d.isNone (R (1:Int) H) (ae d λa=>ld ay H (a.add 9) λ(x:Bool)=>br x (R (4:Int) H) (R (0:Int) H))
theorem Dv.of:∀{d H R},Dv.vc d H R->Dv.sp d H R:=aU [] (by kernel_rfl)
def KF.vc (seq:Value)(H:aa)(R:Kp Sl):Prop:=
 Lh.sp seq H λ(s:Sl) H1=>ME.sp s H1 λ(_:Unit) a=>R s a
theorem KF.of:∀{seq H R},KF.vc seq H R->KF.sp seq H R:=aU [] (by kernel_rfl)
def Ld.vc (m:Option Nat)(H:aa)(R:Kp Value):Prop:=
 aI H #[(.map m)] yM λp H1=>R (.func (.func E6.no) #[] #[(.pointer (some p))]) H1
theorem Ld.of:∀{m H R},Ld.vc m H R->Ld.sp m H R:=aU [] (by kernel_rfl)
def HC.vc (x:Int)(H:aa)(R:Kp Bool):Prop:=
 R (x !=x) H
theorem HC.of:∀{x H R},HC.vc x H R->HC.sp x H R:=aU [] (by kernel_rfl)
def Hd.vc (width:Int)(H:aa)(R:Kp Int):Prop:=
 br ((decide (width<0))||(decide (width>16))) (R (0:Int) H) (R (if (N6.wrap ((8:Int)*width))>1 then (N6.wrap ((8:Int)*width)) else (1:Int)) H)
theorem Hd.of:∀{width H R},Hd.vc width H R->Hd.sp width H R:=aU [] (by kernel_rfl)
def Du.vc (s:Sl)(H:aa)(R:Kp Sl):Prop:=
 br s.a.isNone (R (Sl.mk none 0 0) H) (ba ak N5 (Ps Ir 0 #[]) H λ(sl:Sl) H1=>ba ak N5 (Oa #[Ir,Ir] Ir #[sl.v,s.v]) H1 λ(a:Sl) b=>R a b)
theorem Du.of:∀{s H R},Du.vc s H R->Du.sp s H R:=aU [] (by kernel_rfl)
def IK.vc (x:Sl)(target:Int)(H:aa)(R:Kp (Int×Bool)):Prop:=
 aw (Int×Int) ((0:Int),(x.n:Int)) H λnext z H1=>br (decide (z.1<z.2)) (ae x.a λa=>(0<=(N6.wrap (dG .u64 (OI.wrap (N6.wrap (z.1+z.2))) (1:Int)))/\(N6.wrap (dG .u64 (OI.wrap (N6.wrap (z.1+z.2))) (1:Int)))<(x.n:Int))/\ld (ab .i64) H1 (a.add ((N6.wrap (dG .u64 (OI.wrap (N6.wrap (z.1+z.2))) (1:Int))).toNat*1)) λ(b:Int)=>Je.sp b target H1 λ(r:Bool) i=>br r (next (N6.wrap ((N6.wrap (dG .u64 (OI.wrap (N6.wrap (z.1+z.2))) (1:Int)))+1),z.2) i) (next (z.1,N6.wrap (dG .u64 (OI.wrap (N6.wrap (z.1+z.2))) (1:Int))) i)) (br (decide (z.1<(x.n:Int))) (ae x.a λc=>(0<=z.1/\z.1<(x.n:Int))/\ld (ab .i64) H1 (c.add (z.1.toNat*1)) λ(d:Int)=>br (d==target) (R (z.1,true) H1) (ae x.a λe=>(0<=z.1/\z.1<(x.n:Int))/\ld (ab .i64) H1 (e.add (z.1.toNat*1)) λ(f:Int)=>I8.sp f H1 λ(g:Bool) j=>br g (I8.sp target j λ(h:Bool) k=>R (z.1,h) k) (R (z.1,false) j))) (R (z.1,false) H1))
theorem IK.of:∀{x target H R},IK.vc x target H R->IK.sp x target H R:=aU [(3,[(7,(ab .i64)),(8,(ab .i64))])] (by kernel_rfl)
def GB.vc (l:Sl)(page:Int)(b:Array Value)(H:aa)(R:Kp Sl):Prop:=
 aI H b uA λp H1=>aw Sl l H1 λnext c d=>br (decide ((c.n:Int)<=page)) (ba ak N5 (Ps Ir 1 #[(0,(.agg (zc N5 uA)))]) d λ(sl:Sl) f=>ba ak N5 (Oa #[Ir,Ir] Ir #[c.v,sl.v]) f λ(e:Sl) g=>next e g) (c8 jQ 512 d p λ(x:Array Value)=>ae c.a λa=>(0<=page/\page<(c.n:Int))/\jk N5 (Ot uA (.pointer (some (a.add (page.toNat*512)))) (.agg x)) d λh=>R c h)
theorem GB.of:∀{l page b H R},GB.vc l page b H R->GB.sp l page b H R:=aU [(1,[(0,ak)])] (by kernel_rfl)
def J4.vc (d:Option Addr)(no:Int)(H:aa)(R:Kp Int):Prop:=
 aw (Int×Int) ((0:Int),(0:Int)) H λnext z H1=>ae d λa=>ld ak H1 (a.add 0) λ(x:Sl)=>br (decide (z.2<(x.n:Int))) (aw (Int×Int) (z.1,(0:Int)) H1 λc b e=>ae d λi=>ld ak e (i.add 0) λ(f:Sl)=>ae f.a λj=>(0<=z.2/\z.2<(f.n:Int))/\ld ak e ((j.add (z.2.toNat*3)).add 2) λ(k:Sl)=>br (decide (b.2<(k.n:Int))) (ae d λl=>ld ak e (l.add 0) λ(g:Sl)=>ae g.a λm=>(0<=z.2/\z.2<(g.n:Int))/\ld ak e ((m.add (z.2.toNat*3)).add 2) λ(h:Sl)=>ae h.a λn=>(0<=b.2/\b.2<(h.n:Int))/\ld (ab .i64) e ((n.add (b.2.toNat*3)).add 0) λ(o:Int)=>br (decide (o<no)) (c (N6.wrap (b.1+1),N6.wrap (b.2+1)) e) (c (b.1,N6.wrap (b.2+1)) e)) (next (b.1,N6.wrap (z.2+1)) e)) (R z.1 H1)
theorem J4.of:∀{d no H R},J4.vc d no H R->J4.sp d no H R:=aU [(3,[(5,(ab .i64)),(6,(ab .i64))]),(6,[(5,(ab .i64)),(7,(ab .i64))])] (by kernel_rfl)
def Hn.vc (l:Sl)(k f:Int)(g:ByteArray)(H:aa)(R:Kp Sl):Prop:=
 aI H #[(.int .i64 k),(.int .i64 f),(.string g)] yP λp H1=>ba ak N5 (Oa #[dU,dU] dU #[(.slice none 0 0),l.v]) H1 λ(out:Sl) m=>aw Sl out m λnext b e=>ld (ab .i64) e (p.add 1) λ(x:Int)=>br (decide ((b.n:Int)<=x)) (ba ak N5 (QX dQ (.int .i64 512) (.int .i64 512)) e λ(sl:Sl) j=>vM j sl.a sl.n λ(str:ByteArray)=>aI j #[(.string str)] dI λh n=>ba ak N5 (Oa #[dU,dU] dU #[b.v,(.slice (some h) 1 1)]) n λ(c:Sl) o=>next c o) (ld (ab .i64) e (p.add 1) λ(d:Int)=>ld aK e (p.add 2) λ(i:ByteArray)=>ae b.a λa=>(0<=d/\d<(b.n:Int))/\st e (a.add (d.toNat*1)) (.string i) λq=>R b q)
theorem Hn.of:∀{l c a b H R},Hn.vc l c a b H R->Hn.sp l c a b H R:=aU [(3,[(5,ak)])] (by kernel_rfl)
def AR.vc (d:Option Addr)(name:ByteArray)(H:aa)(R:Kp Int):Prop:=
 aw Int 0 H λnext i H1=>ae d λa=>ld ak H1 (a.add 0) λ(x:Sl)=>br (decide (i<(x.n:Int))) (ae d λc=>ld ak H1 (c.add 0) λ(b:Sl)=>ae b.a λe=>(0<=i/\i<(b.n:Int))/\ld aK H1 ((e.add (i.toNat*3)).add 0) λ(f:ByteArray)=>br (f.toList==name.toList) (R i H1) (next (N6.wrap (i+1)) H1)) (R (-1:Int) H1)
theorem AR.of:∀{d name H R},AR.vc d name H R->AR.sp d name H R:=aU [(2,[(5,(ab .i64))])] (by kernel_rfl)
def DH.vc (i:ByteArray)(e f:Sl)(H:aa)(R:Kp Sl):Prop:=
 aI H #[(.string i),e.v,f.v] ub λp H1=>ld ak H1 (p.add 1) λ(x:Sl)=>ba ak N5 (Oa #[dU,dU] dU #[(.slice none 0 0),x.v]) H1 λ(l:Sl) j=>aw (Sl×Int) (l,(0:Int)) j λnext z c=>ld ak c (p.add 2) λ(g:Sl)=>br (decide (z.2<(g.n:Int))) (ld ak c (p.add 2) λ(d:Sl)=>ae d.a λa=>(0<=z.2/\z.2<(d.n:Int))/\c8 (bQ [(ab .i64),(ab .i64),aK]) 3 c (a.add (z.2.toNat*3)) λ(b:(Int×Int×ByteArray))=>Hn.sp z.1 b.1 b.2.1 b.2.2 c λ(h:Sl) k=>next (h,N6.wrap (z.2+1)) k) (R z.1 c)
theorem DH.of:∀{c a b H R},DH.vc c a b H R->DH.sp c a b H R:=aU [(4,[(3,ak),(4,(ab .i64))])] (by kernel_rfl)
def Dx.vc (d:Option Addr)(name:ByteArray)(H:aa)(R:Kp (Option Addr×Int)):Prop:=
 Dv.sp d H λ(e:Int) H1=>br (e !=0) (R (none,e) H1) (ae d λa=>ld bT H1 (a.add 0) λ(x:Option Nat)=>Dw (aR [av,ay]) N5 (Px yM (.map x) (.string name) true) H1 λ(b:(Option Addr×Bool))=>br b.2 (R (b.1,(0:Int)) H1) (R (none,(11:Int)) H1))
theorem Dx.of:∀{d name H R},Dx.vc d name H R->Dx.sp d name H R:=aU [] (by kernel_rfl)
def DC.vc (s:Sl)(H:aa)(R:Kp Sl):Prop:=
 br s.a.isNone (R (Sl.mk none 0 0) H) (aI H #[] fx λp H1=>ba ak N5 (Oa #[dQ,dQ] dQ #[(.slice (some p) 0 0),s.v]) H1 λ(a:Sl) b=>R a b)
theorem DC.of:∀{s H R},DC.vc s H R->DC.sp s H R:=aU [] (by kernel_rfl)
def Io.vc (s:Option Addr)(H:aa)(R:Kp ByteArray):Prop:=
 ae s λa=>ld (ab .i64) H (a.add 6) λ(x:Int)=>ae s λc=>st H (c.add 6) (.int .i64 (N6.wrap (x+1))) λH1=>∃G:aa->Prop,G H1/\ae s λd=>dw aK G (d.add 1) λ(b:ByteArray)=>((b.size+(Pe #[126]).size:Nat):Int)<=9223372036854775807/\ae s λe=>ld (ab .i64) H1 (e.add 6) λ(f:Int)=>Gf.sp (N6.wrap (f - 1)) H1 λ(r:ByteArray) g=>G g/\(((b++(Pe #[126])).size+r.size:Nat):Int)<=9223372036854775807/\R ((b++(Pe #[126]))++r) g
theorem Io.of:∀{s H R},Io.vc s H R->Io.sp s H R:=aU [] (by kernel_rfl)
def JW.vc (p:Option Addr)(name:ByteArray)(width:Int)(rows:Sl)(H:aa)(R:Kp Int):Prop:=
 Hm.sp p name width H λ(r:(Option Addr×Int)) H1=>aw (Int×Int) (r.2,(0:Int)) H1 λnext z b=>br ((decide (z.2<(rows.n:Int)))&&(z.1==0)) (ae rows.a λa=>(0<=z.2/\z.2<(rows.n:Int))/\ld ak b (a.add (z.2.toNat*1)) λ(x:Sl)=>AP.sp r.1 x b λ(e:Int) d=>next (e,N6.wrap (z.2+1)) d) (br (z.1==0) (G5.sp r.1 b λ(c:(Int×Int)) f=>R c.2 f) (R z.1 b))
theorem JW.of:∀{p name width rows H R},JW.vc p name width rows H R->JW.sp p name width rows H R:=aU [(3,[(10,(ab .i64)),(11,(ab .i64))])] (by kernel_rfl)
def Jg.vc (rows:Sl)(H:aa)(R:Kp Sl):Prop:=
 aw (Sl×Int) ((Sl.mk none 0 0),(0:Int)) H λnext z H1=>br (decide (z.2<(rows.n:Int))) (ae rows.a λa=>(0<=z.2/\z.2<(rows.n:Int))/\ld ak H1 (a.add (z.2.toNat*1)) λ(x:Sl)=>J2.sp z.1 x H1 λ(out:Sl) b=>next (out,N6.wrap (z.2+1)) b) (R z.1 H1)
theorem Jg.of:∀{rows H R},Jg.vc rows H R->Jg.sp rows H R:=aU [(3,[(3,ak),(4,(ab .i64))])] (by kernel_rfl)
def JX.vc (s:Option Addr)(H:aa)(R:Kp (Int×Int)):Prop:=
 cut Unit (λJ=>ae s λa=>ld ak H (a.add 4) λ(x:Sl)=>br (decide ((x.n:Int)>0)) (Gg.sp s H λ(e:Int) H2=>br (e !=0) (R ((0:Int),e) H2) (J () H2)) (ae s λL=>ld ak H (L.add 5) λ(M:Sl)=>br ((M.n:Int)==0) (Gg.sp s H λ(j:Int) H3=>br (j !=0) (R ((0:Int),j) H3) (J () H3)) (J () H))) λ(_:Unit) H1=>aw Unit () H1 λnext _ d=>ae s λN=>ld ak d (N.add 5) λ(O:Sl)=>ae s λP=>ld (ab .i64) d (P.add 3) λ(Q:Int)=>br (decide ((O.n:Int)>=Q)) (ae s λS=>ld ak d (S.add 5) λ(f:Sl)=>ae s λT=>ld (ab .i64) d (T.add 3) λ(g:Int)=>(0<=(N6.wrap (g - 1))/\(N6.wrap (g - 1))<=(f.c:Int))/\ba ak N5 (Oa #[dU,dU] dU #[(.slice none 0 0),(.slice (cA f.a f.c 0 1) (((N6.wrap (g - 1)).toNat) - 0) (f.c - 0))]) d λ(first:Sl) H5=>Io.sp s H5 λ(name:ByteArray) U=>ae s λV=>ld av U (V.add 0) λ(W:Option Addr)=>ae s λX=>ld (ab .i64) U (X.add 2) λ(Y:Int)=>Hr.sp W first name Y U λ(r:(Int×Int)) H7=>cut Int (λk=>br (r.2==0) (Iz.sp s first H7 λ(Z:Int) H9=>k Z H9) (k r.2 H7)) λ(l:Int) K=>br (l !=0) (R ((0:Int),l) K) (ae s λaf=>ld ak K (af.add 5) λ(b:Sl)=>ae s λan=>ld (ab .i64) K (an.add 3) λ(c:Int)=>(0<=(N6.wrap (c - 1))/\(N6.wrap (c - 1))<=(b.n:Int))/\ae s λm=>st K (m.add 5) (.slice (cA b.a b.c ((N6.wrap (c - 1)).toNat) 1) (b.n - ((N6.wrap (c - 1)).toNat)) (b.c - ((N6.wrap (c - 1)).toNat))) λn=>ae s λo=>ld ak n (o.add 5) λ(q:Sl)=>aI n #[(.string name)] dI λp a1=>ba ak N5 (Oa #[dU,dU] dU #[q.v,(.slice (some p) 1 1)]) a1 λ(a6:Sl) a7=>ae s λt=>st a7 (t.add 5) a6.v λa8=>next () a8)) (ae s λu=>ld av d (u.add 0) λ(v:Option Addr)=>ae s λw=>ld ak d (w.add 5) λ(y:Sl)=>ae s λz=>ld aK d (z.add 1) λ(A:ByteArray)=>ae s λB=>ld (ab .i64) d (B.add 2) λ(C:Int)=>Hr.sp v y A C d λ(h:(Int×Int)) i=>cut Int (λD=>br (h.2==0) (ae s λE=>ld ak i (E.add 5) λ(F:Sl)=>Iz.sp s F i λ(bb:Int) bd=>D bb bd) (D h.2 i)) λ(G:Int) I=>br (G !=0) (R ((0:Int),G) I) (R (h.1,(0:Int)) I))
theorem JX.of:∀{s H R},JX.vc s H R->JX.sp s H R:=aU [(100005,[]),(5,[]),(100012,[(8,(ab .i64))]),(100019,[(10,(ab .i64))])] (by kernel_rfl)
def HD.vc (b:Option Addr)(page:Int)(H:aa)(R:Kp (Int×Sl×Int)):Prop:=
 ae b λa=>ld av H (a.add 0) λ(x:Option Addr)=>ae b λd=>ld aK H (d.add 1) λ(e:ByteArray)=>Hw.sp x e page H λ(r:(Int×Int)) H1=>br (r.2!=0) (R ((0:Int),(Sl.mk none 0 0),r.2) H1) (ae b λf=>ld av H1 (f.add 0) λ(g:Option Addr)=>Jl.sp g r.1 H1 λ(c:(Int×Sl×Int)) h=>br (c.2.2!=0) (R ((0:Int),(Sl.mk none 0 0),c.2.2) h) (ae b λi=>ld av h (i.add 0) λ(j:Option Addr)=>EW.sp j r.1 h λ(k:Int) l=>R (c.1,c.2.1,k) l))
theorem HD.of:∀{b page H R},HD.vc b page H R->HD.sp b page H R:=aU [] (by kernel_rfl)
def IQ.vc (b:Sl)(width:Int)(H:aa)(R:Kp (Sl×Int)):Prop:=
 Hd.sp width H λ(n:Int) H1=>br (n==0) (R ((Sl.mk none 0 0),(60:Int)) H1) (n≠0/\br ((Pq (b.n:Int) n)!=0) (R ((Sl.mk none 0 0),(60:Int)) H1) (aw (Sl×Int) ((Sl.mk none 0 0),(0:Int)) H1 λnext z g=>br (decide (z.2<(b.n:Int))) (cut Unit (λJ=>br (width==0) (ae b.a λa=>(0<=z.2/\z.2<(b.n:Int))/\ld (ab .u8) g (a.add (z.2.toNat*1)) λ(x:Int)=>br (x !=0) (R ((Sl.mk none 0 0),(60:Int)) g) (J () g)) (J () g)) λ(_:Unit) o=>aw (Sl×Int) ((Sl.mk none 0 0),(0:Int)) o λe c m=>br (decide (c.2<width)) (aw (Int×Int) ((0:Int),(0:Int)) m λf d h=>br (decide (d.2<8)) (ae b.a λi=>(0<=(N6.wrap ((N6.wrap (z.2+(N6.wrap ((8:Int)*c.2))))+d.2))/\(N6.wrap ((N6.wrap (z.2+(N6.wrap ((8:Int)*c.2))))+d.2))<(b.n:Int))/\ld (ab .u8) h (i.add ((N6.wrap ((N6.wrap (z.2+(N6.wrap ((8:Int)*c.2))))+d.2)).toNat*1)) λ(j:Int)=>f (OI.wrap ((OI.wrap (d.1*256))+(OI.wrap j)),N6.wrap (d.2+1)) h) (aI h #[(.int .u64 d.1)] gS λp q=>ba ak N5 (Oa #[ez,ez] ez #[c.1.v,(.slice (some p) 1 1)]) q λ(l:Sl) r=>e (l,N6.wrap (c.2+1)) r)) (aI m #[c.1.v] ez λk s=>ba ak N5 (Oa #[gh,gh] gh #[z.1.v,(.slice (some k) 1 1)]) s λ(out:Sl) t=>next (out,N6.wrap (z.2+n)) t)) (R (z.1,(0:Int)) g)))
theorem IQ.of:∀{b width H R},IQ.vc b width H R->IQ.sp b width H R:=aU [(6,[(7,ak),(8,(ab .i64))]),(100011,[]),(12,[(9,ak),(10,(ab .i64))]),(16,[(11,(ab .u64)),(12,(ab .i64))])] (by kernel_rfl)
def Js.vc (n room:Int)(H:aa)(R:Kp Int):Prop:=
 room≠0/\R (N6.wrap (OX (N6.wrap ((N6.wrap (n+room)) - 1)) room)) H
theorem Js.of:∀{n room H R},Js.vc n room H R->Js.sp n room H R:=aU [] (by kernel_rfl)
def JB.vc (d:Option Addr)(name:ByteArray)(H:aa)(R:Kp Int):Prop:=
 ae d λa=>ld ay H (a.add 8) λ(x:Bool)=>br x (R (4:Int) H) (Jm.sp name H λ(r:Bool) H1=>br (!r) (R (2:Int) H1) (AR.sp d name H1 λ(c:Int) b=>br (decide (c>=0)) (R (10:Int) b) (ae d λf=>ld ak b (f.add 0) λ(g:Sl)=>br ((g.n:Int)==4096) (R (3:Int) b) (EL.sp d b λ(e:Int) h=>br (e==0) (ae d λi=>ld ak h (i.add 0) λ(j:Sl)=>aI h #[(.string name),(.slice none 0 0),(.slice none 0 0)] ub λp l=>ba ak N5 (Oa #[C0,C0] C0 #[j.v,(.slice (some p) 1 1)]) l λ(s:Sl) m=>ae d λk=>st m (k.add 0) s.v λn=>R e n) (R e h)))))
theorem JB.of:∀{d name H R},JB.vc d name H R->JB.sp d name H R:=aU [] (by kernel_rfl)
def I3.vc (b:Option Addr)(kind:Int)(p:Sl)(H:aa)(R:Kp Int):Prop:=
 ae b λa=>ld av H (a.add 0) λ(x:Option Addr)=>ae b λc=>ld aK H (c.add 1) λ(d:ByteArray)=>Kw.sp x d H λ(r:(Int×Int×Int)) H1=>br ((r.2.2==0)&&(kind !=0)) (ae b λf=>ld av H1 (f.add 0) λ(g:Option Addr)=>I9.sp g r.1 kind p H1 λ(e:Int) h=>br (e==0) (ae b λi=>ld av h (i.add 0) λ(j:Option Addr)=>EW.sp j r.1 h λ(k:Int) o=>R k o) (R e h)) (br (r.2.2==0) (ae b λl=>ld av H1 (l.add 0) λ(m:Option Addr)=>EW.sp m r.1 H1 λ(n:Int) q=>R n q) (R r.2.2 H1))
theorem I3.of:∀{b kind p H R},I3.vc b kind p H R->I3.sp b kind p H R:=aU [] (by kernel_rfl)
def G1.vc (b:Option Addr)(H:aa)(R:Kp Int):Prop:=
 ae b λa=>ld (ab .i64) H (a.add 3) λ(x:Int)=>br (x !=0) (ae b λc=>ld (ab .i64) H (c.add 3) λ(d:Int)=>R d H) (ae b λe=>ld ay H (e.add 4) λ(f:Bool)=>br f (R (2:Int) H) (R (0:Int) H))
theorem G1.of:∀{b H R},G1.vc b H R->G1.sp b H R:=aU [] (by kernel_rfl)
def Jn.vc (r:Option Addr)(k:Int)(H:aa)(R:Kp Int):Prop:=
 ae r λa=>ld (ab .i64) H (a.add 7) λ(x:Int)=>br (x==(N6.wrap (k+1))) (R (0:Int) H) (ae r λf=>ld (ab .i64) H ((f.add 0).add 2) λ(g:Int)=>Bz.sp g H λ(room:Int) H1=>ae r λh=>HD.sp (some (h.add 0)) (N6.wrap (k+1)) H1 λ(b:(Int×Sl×Int)) i=>br (b.2.2!=0) (ae r λj=>Cl.sp (some (j.add 0)) b.2.2 i λ(l:Int) z=>R l z) (ae r λm=>ld (ab .i64) i ((m.add 0).add 2) λ(o:Int)=>IQ.sp b.2.1 o i λ(c:(Sl×Int)) e=>br ((b.1!=1)||(c.2!=0)) (ae r λp=>Cl.sp (some (p.add 0)) (280:Int) e λ(q:Int) A=>R q A) (ae r λs=>ld (ab .i64) e (s.add 5) λ(d:Int)=>br ((c.1.n:Int)!=(if (N6.wrap (d - (N6.wrap (k*room))))<room then (N6.wrap (d - (N6.wrap (k*room)))) else room)) (ae r λt=>Cl.sp (some (t.add 0)) (280:Int) e λ(u:Int) B=>R u B) (ae r λw=>st e (w.add 7) (.int .i64 (N6.wrap (k+1))) λC=>ae r λy=>st C (y.add 8) c.1.v λD=>R (0:Int) D))))
theorem Jn.of:∀{r k H R},Jn.vc r k H R->Jn.sp r k H R:=aU [] (by kernel_rfl)
def Iy.vc (w:Option Addr)(H:aa)(R:Kp Int):Prop:=
 ae w λa=>ld (ab .i64) H (a.add 6) λ(x:Int)=>br (x==0) (R (0:Int) H) (ae w λb=>ae w λc=>ld ak H (c.add 5) λ(d:Sl)=>I3.sp (some (b.add 0)) (1:Int) d H λ(e:Int) H1=>ae w λf=>st H1 (f.add 5) (.slice none 0 0) λi=>ae w λg=>st i (g.add 6) (.int .i64 0) λj=>ae w λh=>Cl.sp (some (h.add 0)) e j λ(r:Int) k=>R r k)
theorem Iy.of:∀{w H R},Iy.vc w H R->Iy.sp w H R:=aU [] (by kernel_rfl)
def Hw.vc (p:Option Addr)(name:ByteArray)(page:Int)(H:aa)(R:Kp (Int×Int)):Prop:=
 ae p λa=>ld (ab .i64) H (a.add 6) λ(x:Int)=>br (x !=0) (ae p λN=>ld (ab .i64) H (N.add 6) λ(O:Int)=>R ((0:Int),O) H) (Ho.sp p name page H λ(i:Int) H1=>br (decide (i>=0)) (GG.sp p i H1 λ(r:Int) H2=>R (r,(0:Int)) H2) (ae p λP=>ld av H1 (P.add 0) λ(Q:Option Addr)=>C2.sp Q name H1 λ(f:(Int×Int)) k=>br ((f.2==0)&&((decide (page<0))||(decide (page>=f.1)))) (br ((12:Int)==0) (GI.sp p k λ(e:Int) S=>br (e !=0) (nq.sp p e S λ(T:Int) H5=>R ((0:Int),T) H5) (ae p λU=>ld av S (U.add 0) λ(V:Option Addr)=>CB.sp V name page S λ(l:(Sl×Int)) H6=>br (l.2!=0) (nq.sp p l.2 H6 λ(W:Int) H7=>R ((0:Int),W) H7) (Gx.sp l.1 H6 λ(g:(Int×Sl×Int)) X=>br (g.2.2!=0) (nq.sp p g.2.2 X λ(Y:Int) H9=>R ((0:Int),Y) H9) (vM X g.2.1.a g.2.1.n λ(str:ByteArray)=>BT.sp p name page g.1 str false (Sl.mk none 0 0) (0:Int) X λ(Z:Int) af=>R (Z,(0:Int)) af)))) (br ((12:Int)!=0) (nq.sp p (12:Int) k λ(an:Int) a1=>R ((0:Int),an) a1) (ae p λa6=>ld av k (a6.add 0) λ(a7:Option Addr)=>CB.sp a7 name page k λ(m:(Sl×Int)) w=>br (m.2!=0) (nq.sp p m.2 w λ(y:Int) a8=>R ((0:Int),y) a8) (Gx.sp m.1 w λ(b:(Int×Sl×Int)) o=>br (b.2.2!=0) (nq.sp p b.2.2 o λ(z:Int) bb=>R ((0:Int),z) bb) (vM o b.2.1.a b.2.1.n λ(str_1:ByteArray)=>BT.sp p name page b.1 str_1 false (Sl.mk none 0 0) (0:Int) o λ(A:Int) bd=>R (A,(0:Int)) bd))))) (br (f.2==0) (GI.sp p k λ(B:Int) q=>br (B !=0) (nq.sp p B q λ(C:Int) bl=>R ((0:Int),C) bl) (ae p λbn=>ld av q (bn.add 0) λ(bs:Option Addr)=>CB.sp bs name page q λ(h:(Sl×Int)) D=>br (h.2!=0) (nq.sp p h.2 D λ(E:Int) bx=>R ((0:Int),E) bx) (Gx.sp h.1 D λ(c:(Int×Sl×Int)) s=>br (c.2.2!=0) (nq.sp p c.2.2 s λ(F:Int) bA=>R ((0:Int),F) bA) (vM s c.2.1.a c.2.1.n λ(t:ByteArray)=>BT.sp p name page c.1 t false (Sl.mk none 0 0) (0:Int) s λ(G:Int) bB=>R (G,(0:Int)) bB)))) (br (f.2!=0) (nq.sp p f.2 k λ(I:Int) bC=>R ((0:Int),I) bC) (ae p λbD=>ld av k (bD.add 0) λ(bM:Option Addr)=>CB.sp bM name page k λ(j:(Sl×Int)) J=>br (j.2!=0) (nq.sp p j.2 J λ(K:Int) bO=>R ((0:Int),K) bO) (Gx.sp j.1 J λ(d:(Int×Sl×Int)) u=>br (d.2.2!=0) (nq.sp p d.2.2 u λ(L:Int) b0=>R ((0:Int),L) b0) (vM u d.2.1.a d.2.1.n λ(v:ByteArray)=>BT.sp p name page d.1 v false (Sl.mk none 0 0) (0:Int) u λ(M:Int) b1=>R (M,(0:Int)) b1)))))))
theorem Hw.of:∀{p name page H R},Hw.vc p name page H R->Hw.sp p name page H R:=aU [] (by kernel_rfl)
def I9.vc (p:Option Addr)(h kind:Int)(b:Sl)(H:aa)(R:Kp Int):Prop:=
 GL.sp p h H λ(i:Int) H1=>ae p λa=>ld (ab .i64) H1 (a.add 6) λ(x:Int)=>br (x !=0) (ae p λf=>ld (ab .i64) H1 (f.add 6) λ(g:Int)=>R g H1) (br (decide (i<0)) (R (32:Int) H1) (br (decide ((b.n:Int)>504)) (R (2:Int) H1) (ae p λj=>ld ak H1 (j.add 2) λ(c:Sl)=>ae c.a λk=>(0<=i/\i<(c.n:Int))/\st H1 ((k.add (i.toNat*7)).add 2) (.int .u8 kind) λl=>ae p λm=>ld ak l (m.add 2) λ(d:Sl)=>vM l b.a b.n λ(str:ByteArray)=>ae d.a λn=>(0<=i/\i<(d.n:Int))/\st l ((n.add (i.toNat*7)).add 3) (.string str) λr=>ae p λo=>ld ak r (o.add 2) λ(e:Sl)=>ae e.a λq=>(0<=i/\i<(e.n:Int))/\st r ((q.add (i.toNat*7)).add 4) (.bool true) λs=>R (0:Int) s)))
theorem I9.of:∀{p h kind b H R},I9.vc p h kind b H R->I9.sp p h kind b H R:=aU [] (by kernel_rfl)
def Kg.vc (width rows:Int)(H:aa)(R:Kp Sl):Prop:=
 aI H #[(.int .u8 (O5.wrap width))] fx λa H1=>aI H1 #[(.int .u64 (OI.wrap rows))] gS λp b=>It.sp (Sl.mk (some p) 1 1) b λ(r:Sl) c=>ba ak N5 (Oa #[dQ,dQ] dQ #[(.slice (some a) 1 1),r.v]) c λ(out:Sl) d=>R out d
theorem Kg.of:∀{width rows H R},Kg.vc width rows H R->Kg.sp width rows H R:=aU [] (by kernel_rfl)
def EW.vc (p:Option Addr)(h:Int)(H:aa)(R:Kp Int):Prop:=
 GL.sp p h H λ(i:Int) H1=>ae p λa=>ld (ab .i64) H1 (a.add 6) λ(x:Int)=>br (x !=0) (ae p λy=>ld (ab .i64) H1 (y.add 6) λ(A:Int)=>R A H1) (br (decide (i<0)) (R (32:Int) H1) (aw (Sl×Int) ((Sl.mk none 0 0),(0:Int)) H1 λnext z b=>ae p λB=>ld ak b (B.add 2) λ(e:Sl)=>ae e.a λC=>(0<=i/\i<(e.n:Int))/\ld ak b ((C.add (i.toNat*7)).add 5) λ(D:Sl)=>br (decide (z.2<(D.n:Int))) (ae p λE=>ld ak b (E.add 2) λ(f:Sl)=>ae f.a λF=>(0<=i/\i<(f.n:Int))/\ld ak b ((F.add (i.toNat*7)).add 5) λ(g:Sl)=>ae g.a λG=>(0<=z.2/\z.2<(g.n:Int))/\ld (ab .i64) b (G.add (z.2.toNat*1)) λ(I:Int)=>br (I !=h) (ae p λJ=>ld ak b (J.add 2) λ(j:Sl)=>ae j.a λK=>(0<=i/\i<(j.n:Int))/\ld ak b ((K.add (i.toNat*7)).add 5) λ(k:Sl)=>ae k.a λL=>(0<=z.2/\z.2<(k.n:Int))/\ld (ab .i64) b (L.add (z.2.toNat*1)) λ(M:Int)=>aI b #[(.int .i64 M)] ib λN Q=>ba ak N5 (Oa #[Dh,Dh] Dh #[z.1.v,(.slice (some N) 1 1)]) Q λ(l:Sl) S=>next (l,N6.wrap (z.2+1)) S) (next (z.1,N6.wrap (z.2+1)) b)) (ae p λm=>ld ak b (m.add 2) λ(c:Sl)=>ae c.a λn=>(0<=i/\i<(c.n:Int))/\st b ((n.add (i.toNat*7)).add 5) z.1.v λP=>ae p λo=>ld (ab .i64) P (o.add 4) λ(q:Int)=>ae p λr=>st P (r.add 4) (.int .i64 (N6.wrap (q+1))) λO=>ae p λs=>ld ak O (s.add 2) λ(d:Sl)=>ae p λt=>ld (ab .i64) O (t.add 4) λ(u:Int)=>ae d.a λw=>(0<=i/\i<(d.n:Int))/\st O ((w.add (i.toNat*7)).add 6) (.int .i64 u) λT=>R (0:Int) T)))
theorem EW.of:∀{p h H R},EW.vc p h H R->EW.sp p h H R:=aU [(8,[(6,ak),(7,(ab .i64))])] (by kernel_rfl)
def Jv.vc (p:Option Addr)(name:ByteArray)(H:aa)(R:Kp Int):Prop:=
 ae p λa=>ld (ab .i64) H (a.add 6) λ(x:Int)=>br (x !=0) (ae p λd=>ld (ab .i64) H (d.add 6) λ(f:Int)=>R f H) (ae p λg=>ld av H (g.add 0) λ(h:Option Addr)=>C2.sp h name H λ(r:(Int×Int)) H1=>br (r.2!=0) (nq.sp p r.2 H1 λ(j:Int) y=>R j y) (aw Int 0 H1 λnext k l=>br (decide (k<r.1)) (Ho.sp p name k l λ(i:Int) b=>br (decide (i>=0)) (ae p λm=>ld ak b (m.add 2) λ(c:Sl)=>ae c.a λn=>(0<=i/\i<(c.n:Int))/\ld ay b ((n.add (i.toNat*7)).add 4) λ(o:Bool)=>br o (HX.sp p i b λ(e:Int) w=>br (e !=0) (nq.sp p e w λ(q:Int) z=>R q z) (next (N6.wrap (k+1)) w)) (next (N6.wrap (k+1)) b)) (next (N6.wrap (k+1)) b)) (ae p λs=>ld av l (s.add 0) λ(t:Option Addr)=>Jb.sp t name l λ(u:Int) A=>nq.sp p u A λ(v:Int) B=>R v B)))
theorem Jv.of:∀{p name H R},Jv.vc p name H R->Jv.sp p name H R:=aU [(7,[(7,(ab .i64))])] (by kernel_rfl)
def Cl.vc (b:Option Addr)(e:Int)(H:aa)(R:Kp Int):Prop:=
 br (e !=0) (ae b λa=>ld (ab .i64) H (a.add 3) λ(x:Int)=>br (x==0) (ae b λc=>st H (c.add 3) (.int .i64 e) λH1=>R e H1) (R e H)) (R e H)
theorem Cl.of:∀{b e H R},Cl.vc b e H R->Cl.sp b e H R:=aU [] (by kernel_rfl)
def It.vc (l:Sl)(H:aa)(R:Kp Sl):Prop:=
 br ((l.n:Int)==0) (aI H #[(.int .u8 0)] fx λp H1=>R (Sl.mk (some p) 1 1) H1) (aw (Sl×Int) ((Sl.mk none 0 0),(0:Int)) H λnext z f=>br (decide (z.2<(l.n:Int))) (aw (Sl×Int) (z.1,(56:Int)) f λc b d=>br (decide (b.2>=0)) (ae l.a λa=>(0<=z.2/\z.2<(l.n:Int))/\ld (ab .u64) d (a.add (z.2.toNat*1)) λ(x:Int)=>0<=b.2/\aI d #[(.int .u8 (O5.wrap (dG .u64 x b.2)))] fx λe g=>ba ak N5 (Oa #[dQ,dQ] dQ #[b.1.v,(.slice (some e) 1 1)]) g λ(out:Sl) h=>c (out,N6.wrap (b.2 - 8)) h) (next (b.1,N6.wrap (z.2+1)) d)) (R z.1 f))
theorem It.of:∀{l H R},It.vc l H R->It.sp l H R:=aU [(5,[(3,ak),(4,(ab .i64))]),(8,[(3,ak),(5,(ab .i64))])] (by kernel_rfl)
def Kl.vc (i:Int)(H:aa)(R:Kp ByteArray):Prop:=
 KR.sp i H λ(r:ByteArray) H1=>R r H1
theorem Kl.of:∀{i H R},Kl.vc i H R->Kl.sp i H R:=aU [] (by kernel_rfl)
def JD.vc (p:Option Addr)(name:ByteArray)(H:aa)(R:Kp Int):Prop:=
 DD.sp p H λ(e:Int) H1=>br (e !=0) (R e H1) (ae p λa=>ld av H1 (a.add 0) λ(x:Option Addr)=>DF.sp x name H1 λ(r:(Int×Int)) s=>br (r.2!=0) (vo.sp p r.2 s λ(d:Int) u=>R d u) (IP.sp p name s λ(l:Sl) v=>Kj.sp l v λ(g:Bool) t=>br g (R (31:Int) t) (aw Int 0 t λnext z b=>br (decide (z<(l.n:Int))) (ae l.a λh=>(0<=z/\z<(l.n:Int))/\ld av b (h.add (z.toNat*1)) λ(f:Option Addr)=>ae p λi=>ld bT b (i.add 2) λ(j:Option Nat)=>ae f λk=>c8 (bQ [aK,(ab .i64)]) 2 b (k.add 0) λ(c:(ByteArray×Int))=>ba gi N5 (PF #[xO,wO] Af #[(.map j),(.agg #[(.string c.1),(.int .i64 c.2)])]) b λ(_:Value) w=>next (N6.wrap (z+1)) w) (ae p λm=>ld av b (m.add 0) λ(n:Option Addr)=>JR.sp n name b λ(o:Int) y=>vo.sp p o y λ(q:Int) A=>R q A))))
theorem JD.of:∀{p name H R},JD.vc p name H R->JD.sp p name H R:=aU [(11,[(37,(ab .i64))])] (by kernel_rfl)
def IG.vc (s:ByteArray)(H:aa)(R:Kp Bool):Prop:=
 R ((!(s.toList==Qu.toList))&&(decide ((s.size:Int)<=100))) H
theorem IG.of:∀{s H R},IG.vc s H R->IG.sp s H R:=aU [] (by kernel_rfl)
def Ds.vc (d:Option Addr)(H:aa)(R:Kp Int):Prop:=
 ae d λa=>ld ay H ((a.add 6).add 0) λ(x:Bool)=>br x (ae d λb=>ld (ab .i64) H ((b.add 6).add 1) λ(c:Int)=>br (c==0) (ae d λe=>st H (e.add 9) (.bool true) λH1=>R (4:Int) H1) (ae d λf=>ld (ab .i64) H ((f.add 6).add 1) λ(g:Int)=>ae d λh=>st H ((h.add 6).add 1) (.int .i64 (N6.wrap (g - 1))) λo=>ae d λi=>ld (ab .i64) o (i.add 4) λ(j:Int)=>ae d λk=>st o (k.add 4) (.int .i64 (N6.wrap (j+1))) λp=>R (0:Int) p)) (ae d λl=>ld (ab .i64) H (l.add 4) λ(m:Int)=>ae d λn=>st H (n.add 4) (.int .i64 (N6.wrap (m+1))) λq=>R (0:Int) q)
theorem Ds.of:∀{d H R},Ds.vc d H R->Ds.sp d H R:=aU [] (by kernel_rfl)
def Jd.vc (p:Option Addr)(name:ByteArray)(H:aa)(R:Kp (Int×Int×Int)):Prop:=
 DD.sp p H λ(e:Int) H1=>br (e !=0) (R ((0:Int),(0:Int),e) H1) (ae p λa=>ld av H1 (a.add 0) λ(x:Option Addr)=>DF.sp x name H1 λ(r:(Int×Int)) z=>br (r.2==0) (G9.sp p z λ(c:Int) B=>aI B #[(.string name),(.int .i64 r.1),(.int .u8 0),(.slice none 0 0),(.bool false),(.int .i64 0),(.int .i64 0)] KE λd j=>br (c==0) (Dy.sp p (some d) j λ(g:Int) A=>br (g !=0) (vo.sp p g A λ(k:Int) C=>R ((0:Int),(0:Int),k) C) (Ci.sp p (some d) A λ(l:Int) D=>R (l,r.1,(0:Int)) D)) (br (c !=0) (vo.sp p c j λ(m:Int) E=>R ((0:Int),(0:Int),m) E) (Ci.sp p (some d) j λ(n:Int) F=>R (n,r.1,(0:Int)) F))) (aI z #[(.string name),(.int .i64 r.1),(.int .u8 0),(.slice none 0 0),(.bool false),(.int .i64 0),(.int .i64 0)] KE λb f=>br (r.2==0) (Dy.sp p (some b) f λ(h:Int) i=>br (h !=0) (vo.sp p h i λ(o:Int) q=>R ((0:Int),(0:Int),o) q) (Ci.sp p (some b) i λ(s:Int) t=>R (s,r.1,(0:Int)) t)) (br (r.2!=0) (vo.sp p r.2 f λ(u:Int) v=>R ((0:Int),(0:Int),u) v) (Ci.sp p (some b) f λ(w:Int) y=>R (w,r.1,(0:Int)) y))))
theorem Jd.of:∀{p name H R},Jd.vc p name H R->Jd.sp p name H R:=aU [] (by kernel_rfl)
def Kq.vc (b:Array Value)(n:Int)(H:aa)(R:Kp (Array Value)):Prop:=
 aI H b Fj λp H1=>aI H1 (zc N5 Fj) Fj λa e=>aw Int 0 e λnext z c=>br (decide (z<8)) (0<=(N6.wrap ((56:Int) - (N6.wrap ((8:Int)*z))))/\(0<=z/\z<((8:Nat):Int))/\st c (p.add (z.toNat*1)) (.int .u8 (O5.wrap (dG .u64 n (N6.wrap ((56:Int) - (N6.wrap ((8:Int)*z))))))) λf=>next (N6.wrap (z+1)) f) (c8 jQ 8 c p λ(x:Array Value)=>jk N5 (Ot Fj (.pointer (some a)) (.agg x)) c λd=>c8 jQ 8 d a λ(res:Array Value)=>R res d)
theorem Kq.of:∀{b n H R},Kq.vc b n H R->Kq.sp b n H R:=aU [(2,[(6,(ab .i64))])] (by kernel_rfl)
def DD.vc (p:Option Addr)(H:aa)(R:Kp Int):Prop:=
 br p.isNone (R (1:Int) H) (ae p λa=>ld (ab .i64) H (a.add 7) λ(x:Int)=>R x H)
theorem DD.of:∀{p H R},DD.vc p H R->DD.sp p H R:=aU [] (by kernel_rfl)
def Ft.vc (p f:Option Addr)(H:aa)(R:Kp Int):Prop:=
 ae f λa=>ld (ab .i64) H (a.add 5) λ(x:Int)=>ae f λb=>st H (b.add 5) (.int .i64 (N6.wrap (x+1))) λH1=>ae p λc=>ld bT H1 (c.add 3) λ(d:Option Nat)=>ae p λe=>ld (ab .i64) H1 (e.add 4) λ(g:Int)=>jk N5 (Qe LM (.map d) (.int .i64 g) (.pointer f)) H1 λm=>ae p λh=>ld (ab .i64) m (h.add 4) λ(i:Int)=>ae p λj=>st m (j.add 4) (.int .i64 (N6.wrap (i+1))) λn=>ae p λk=>ld (ab .i64) n (k.add 4) λ(l:Int)=>R (N6.wrap (l - 1)) n
theorem Ft.of:∀{p f H R},Ft.vc p f H R->Ft.sp p f H R:=aU [] (by kernel_rfl)
def Kv.vc (p:Option Addr)(at_:ByteArray)(h:Int)(H:aa)(R:Kp (Option Addr×Int)):Prop:=
 aI H #[(.string at_),(.int .i64 h)] wO λb H1=>ae p λa=>ld av H1 (a.add 0) λ(x:Option Addr)=>ld aK H1 (b.add 0) λ(k:ByteArray)=>DF.sp x k H1 λ(r:(Int×Int)) g=>br (r.2!=0) (R (none,r.2) g) (ld (ab .i64) g (b.add 1) λ(l:Int)=>br (decide (l<0)) (R (none,(12:Int)) g) (ld (ab .i64) g (b.add 1) λ(m:Int)=>br (decide (m>=r.1)) (R (none,(12:Int)) g) (G9.sp p g λ(e:Int) i=>br (e !=0) (R (none,e) i) (ae p λn=>ld av i (n.add 0) λ(o:Option Addr)=>ld aK i (b.add 0) λ(q:ByteArray)=>ld (ab .i64) i (b.add 1) λ(s:Int)=>HA.sp o q s i λ(c:(Sl×Int)) t=>br (c.2!=0) (R (none,c.2) t) (c8 (bQ [aK,(ab .i64)]) 2 t b λ(j:(ByteArray×Int))=>aI t #[(.string j.1),(.int .i64 j.2),(.int .u8 0),(.slice none 0 0),(.bool false),(.int .i64 0),(.int .i64 0)] KE λd u=>JG.sp c.1 u λ(f:(Int×Sl×Int)) w=>st w (d.add 2) (.int .u8 f.1) λy=>st y (d.add 3) f.2.1.v λz=>R (some d,f.2.2) z)))))
theorem Kv.of:∀{p at_ a H R},Kv.vc p at_ a H R->Kv.sp p at_ a H R:=aU [] (by kernel_rfl)
def vo.vc (p:Option Addr)(e:Int)(H:aa)(R:Kp Int):Prop:=
 br (e==4) (br (e==4) (ae p λa=>st H (a.add 7) (.int .i64 e) λH1=>R e H1) (R e H)) (br (e==5) (br (e==5) (ae p λb=>st H (b.add 7) (.int .i64 e) λd=>R e d) (R e H)) (br (e==20) (ae p λc=>st H (c.add 7) (.int .i64 e) λf=>R e f) (R e H)))
theorem vo.of:∀{p e H R},vo.vc p e H R->vo.sp p e H R:=aU [] (by kernel_rfl)
def Ci.vc (p f:Option Addr)(H:aa)(R:Kp Int):Prop:=
 ae p λa=>ld bT H (a.add 2) λ(x:Option Nat)=>ae f λd=>c8 (bQ [aK,(ab .i64)]) 2 H (d.add 0) λ(b:(ByteArray×Int))=>jk N5 (Qe xO (.map x) (.agg #[(.string b.1),(.int .i64 b.2)]) (.pointer f)) H λH1=>ae p λe=>ld (ab .i64) H1 (e.add 6) λ(c:Int)=>ae p λg=>ld bT H1 (g.add 2) λ(h:Option Nat)=>AL H1 h λ(n:Nat)=>ae p λi=>st H1 (i.add 6) (.int .i64 (if (n:Int)>c then (n:Int) else c)) λj=>Ft.sp p f j λ(r:Int) k=>R r k
theorem Ci.of:∀{p f H R},Ci.vc p f H R->Ci.sp p f H R:=aU [] (by kernel_rfl)
def GW.vc (p:Option Addr)(h:Int)(H:aa)(R:Kp (Option Addr×Int)):Prop:=
 DD.sp p H λ(e:Int) H1=>br (e !=0) (R (none,e) H1) (ae p λa=>ld bT H1 (a.add 3) λ(x:Option Nat)=>Dw (aR [av,ay]) N5 (Px LM (.map x) (.int .i64 h) true) H1 λ(b:(Option Addr×Bool))=>br b.2 (R (b.1,(0:Int)) H1) (R (none,(32:Int)) H1))
theorem GW.of:∀{p h H R},GW.vc p h H R->GW.sp p h H R:=aU [] (by kernel_rfl)
def IP.vc (p:Option Addr)(name:ByteArray)(H:aa)(R:Kp Sl):Prop:=
 aI H #[(.string name)] dI λb H1=>ae p λa=>ld bT H1 (a.add 2) λ(x:Option Nat)=>Ky.sp x H1 λ(r:Value) d=>K1.sp r d λ(c:Sl) e=>JS.sp c b e λ(l:Sl) f=>MU.sp l (.func (.func DJ.no) #[] #[]) f λ(_:Unit) g=>R l g
theorem IP.of:∀{p name H R},IP.vc p name H R->IP.sp p name H R:=aU [] (by kernel_rfl)
def Dy.vc (p f:Option Addr)(H:aa)(R:Kp Int):Prop:=
 ae f λa=>ld (ab .u8) H (a.add 2) λ(x:Int)=>ae f λb=>ld ak H (b.add 3) λ(c:Sl)=>J6.sp x c H λ(r:(Sl×Int)) H1=>br (r.2!=0) (R r.2 H1) (ae p λd=>ld av H1 (d.add 0) λ(g:Option Addr)=>ae f λh=>ld aK H1 ((h.add 0).add 0) λ(i:ByteArray)=>ae f λj=>ld (ab .i64) H1 ((j.add 0).add 1) λ(k:Int)=>Kh.sp g i k r.1 H1 λ(e:Int) m=>br (e==0) (ae f λl=>st m (l.add 4) (.bool false) λn=>R e n) (R e m))
theorem Dy.of:∀{p f H R},Dy.vc p f H R->Dy.sp p f H R:=aU [] (by kernel_rfl)
def Ke.vc (d:Option Addr)(name:ByteArray)(H:aa)(R:Kp Int):Prop:=
 Dx.sp d name H λ(r:(Option Addr×Int)) H1=>br (r.2!=0) (R r.2 H1) (Ds.sp d H1 λ(e:Int) b=>br (e==0) (ae r.1 λa=>ld ak b (a.add 0) λ(x:Sl)=>Du.sp x b λ(c:Sl) h=>ae r.1 λf=>st h (f.add 1) c.v λi=>ae r.1 λg=>st i (g.add 2) (.slice none 0 0) λj=>R e j) (R e b))
theorem Ke.of:∀{d name H R},Ke.vc d name H R->Ke.sp d name H R:=aU [] (by kernel_rfl)
def J8.vc (p:Option Addr)(h:Int)(H:aa)(R:Kp (Int×Sl×Int)):Prop:=
 GW.sp p h H λ(r:(Option Addr×Int)) H1=>br (r.2!=0) (R ((0:Int),(Sl.mk none 0 0),r.2) H1) (∃G:aa->Prop,G H1/\ae r.1 λa=>dw (ab .u8) G (a.add 2) λ(x:Int)=>ae r.1 λb=>ld ak H1 (b.add 3) λ(c:Sl)=>DC.sp c H1 λ(d:Sl) e=>G e/\R (x,d,(0:Int)) e)
theorem J8.of:∀{p h H R},J8.vc p h H R->J8.sp p h H R:=aU [] (by kernel_rfl)
def JF.vc (s:Sl)(n:Int)(H:aa)(R:Kp Value):Prop:=
 aI H #[s.v] dQ λp H1=>aI H1 #[(.int .i64 n)] ib λa b=>ld (ab .i64) b a λ(x:Int)=>br (decide (x<1)) (False) (R (.func (.func DB.no) #[] #[(.pointer (some p)),(.pointer (some a))]) b)
theorem JF.of:∀{s n H R},JF.vc s n H R->JF.sp s n H R:=aU [] (by kernel_rfl)
def Lh.vc (seq:Value)(H:aa)(R:Kp Sl):Prop:=
 JH.sp (Sl.mk none 0 0) seq H λ(r:Sl) H1=>R r H1
theorem Lh.of:∀{seq H R},Lh.vc seq H R->Lh.sp seq H R:=aU [] (by kernel_rfl)
def E6.vc (l:Nat)(cap:Addr)(H:aa)(R:Kp Unit):Prop:=
 ld bT H cap λ(x:Option Nat)=>ba av N5 (P9 yM (.map x)) H λ(it:Option Addr) H1=>aw Unit () H1 λnext _ d=>ba fW N5 (P5 (.pointer it) false Af) d λ(e:Bool×List Value) a=>br e.1 (ba oH N5 (PM (.pointer it)) a λ(f:Value×Value) g=>HM aK f.1 λ(k:ByteArray)=>bZ N5 l #[(.string k)] g λ(b:Bool) c=>br (!b) (R () c) (next () c)) (R () a)
theorem E6.of:∀{l cap H R},E6.vc l cap H R->E6.sp l cap H R:=aU [(1,[])] (by kernel_rfl)
def Je.vc (x y:Int)(H:aa)(R:Kp Bool):Prop:=
 Jy.sp x H λ(r:Bool) H1=>br r (Jy.sp y H1 λ(a:Bool) b=>R ((!a)||(decide (x<y))) b) (R (decide (x<y)) H1)
theorem Je.of:∀{x y H R},Je.vc x y H R->Je.sp x y H R:=aU [] (by kernel_rfl)
def I8.vc (x:Int)(H:aa)(R:Kp Bool):Prop:=
 R (x !=x) H
theorem I8.of:∀{x H R},I8.vc x H R->I8.sp x H R:=aU [] (by kernel_rfl)
def Gf.vc (n:Int)(H:aa)(R:Kp ByteArray):Prop:=
 aI H #[(.int .u8 (O5.wrap (N6.wrap ((48:Int)+(Pq n (10:Int))))))] fx λp H1=>vM H1 (some p) 1 λ(s:ByteArray)=>br (decide (n>9)) (Gf.sp (N6.wrap (OX n (10:Int))) H1 λ(r:ByteArray) a=>((r.size+s.size:Nat):Int)<=9223372036854775807/\R (r++s) a) (R s H1)
theorem Gf.of:∀{n H R},Gf.vc n H R->Gf.sp n H R:=aU [] (by kernel_rfl)
def J2.vc (l x:Sl)(H:aa)(R:Kp Sl):Prop:=
 Ju.sp l x H λ(r:Int) H1=>br (decide (r<(l.n:Int))) (ae l.a λa=>(0<=r/\r<(l.n:Int))/\ld ak H1 (a.add (r.toNat*1)) λ(h:Sl)=>Am.sp h x H1 λ(j:Int) C=>br (j==0) (R l C) (ba ak N5 (Oa #[ez,ez] ez #[(.slice none 0 0),x.v]) C λ(own:Sl) D=>aI D #[own.v] ez λp E=>ba ak N5 (Oa #[gh,gh] gh #[l.v,(.slice (some p) 1 1)]) E λ(b:Sl) F=>aw Int (N6.wrap ((b.n:Int) - 1)) F λnext i k=>br (decide (i>r)) (ae b.a λm=>(0<=(N6.wrap (i - 1))/\(N6.wrap (i - 1))<(b.n:Int))/\ld ak k (m.add ((N6.wrap (i - 1)).toNat*1)) λ(n:Sl)=>ae b.a λo=>(0<=i/\i<(b.n:Int))/\st k (o.add (i.toNat*1)) n.v λG=>next (N6.wrap (i - 1)) G) (ae b.a λq=>(0<=r/\r<(b.n:Int))/\st k (q.add (r.toNat*1)) own.v λI=>R b I))) (ba ak N5 (Oa #[ez,ez] ez #[(.slice none 0 0),x.v]) H1 λ(e:Sl) J=>aI J #[e.v] ez λs t=>ba ak N5 (Oa #[gh,gh] gh #[l.v,(.slice (some s) 1 1)]) t λ(c:Sl) u=>aw Int (N6.wrap ((c.n:Int) - 1)) u λf d g=>br (decide (d>r)) (ae c.a λv=>(0<=(N6.wrap (d - 1))/\(N6.wrap (d - 1))<(c.n:Int))/\ld ak g (v.add ((N6.wrap (d - 1)).toNat*1)) λ(w:Sl)=>ae c.a λy=>(0<=d/\d<(c.n:Int))/\st g (y.add (d.toNat*1)) w.v λz=>f (N6.wrap (d - 1)) z) (ae c.a λA=>(0<=r/\r<(c.n:Int))/\st g (A.add (r.toNat*1)) e.v λB=>R c B))
theorem J2.of:∀{l x H R},J2.vc l x H R->J2.sp l x H R:=aU [(8,[(7,(ab .i64))])] (by kernel_rfl)
def Iz.vc (s:Option Addr)(names:Sl)(H:aa)(R:Kp Int):Prop:=
 aw Int 0 H λnext i H1=>br (decide (i<(names.n:Int))) (ae s λa=>ld av H1 (a.add 0) λ(x:Option Addr)=>ae names.a λb=>(0<=i/\i<(names.n:Int))/\ld aK H1 (b.add (i.toNat*1)) λ(c:ByteArray)=>G6.sp x c H1 λ(e:Int) d=>br (e !=0) (R e d) (next (N6.wrap (i+1)) d)) (R (0:Int) H1)
theorem Iz.of:∀{s names H R},Iz.vc s names H R->Iz.sp s names H R:=aU [(2,[(5,(ab .i64))])] (by kernel_rfl)
def Jl.vc (p:Option Addr)(h:Int)(H:aa)(R:Kp (Int×Sl×Int)):Prop:=
 GL.sp p h H λ(i:Int) H1=>ae p λa=>ld (ab .i64) H1 (a.add 6) λ(x:Int)=>br (x !=0) (ae p λd=>ld (ab .i64) H1 (d.add 6) λ(e:Int)=>R ((0:Int),(Sl.mk none 0 0),e) H1) (br (decide (i<0)) (R ((0:Int),(Sl.mk none 0 0),(32:Int)) H1) (∃G:aa->Prop,G H1/\ae p λf=>dw ak G (f.add 2) λ(b:Sl)=>ae b.a λg=>(0<=i/\i<(b.n:Int))/\dw (ab .u8) G ((g.add (i.toNat*7)).add 2) λ(j:Int)=>ae p λk=>ld ak H1 (k.add 2) λ(c:Sl)=>ae c.a λl=>(0<=i/\i<(c.n:Int))/\ld aK H1 ((l.add (i.toNat*7)).add 3) λ(m:ByteArray)=>ba ak N5 (convert dI dQ (.string m)) H1 λ(n:Sl) o=>G o/\R (j,n,(0:Int)) o))
theorem Jl.of:∀{p h H R},Jl.vc p h H R->Jl.sp p h H R:=aU [] (by kernel_rfl)
def Jm.vc (s:ByteArray)(H:aa)(R:Kp Bool):Prop:=
 R ((decide ((s.size:Int)>=1))&&(decide ((s.size:Int)<=100))) H
theorem Jm.of:∀{s H R},Jm.vc s H R->Jm.sp s H R:=aU [] (by kernel_rfl)
def EL.vc (d:Option Addr)(H:aa)(R:Kp Int):Prop:=
 ae d λa=>ld ay H (a.add 5) λ(x:Bool)=>br x (ae d λj=>ld (ab .i64) H (j.add 6) λ(k:Int)=>br (k==0) (ae d λl=>st H (l.add 8) (.bool true) λH1=>R (4:Int) H1) (ae d λm=>ld ay H (m.add 5) λ(n:Bool)=>br n (ae d λo=>ld (ab .i64) H (o.add 6) λ(p:Int)=>ae d λq=>st H (q.add 6) (.int .i64 (N6.wrap (p - 1))) λC=>ae d λr=>ld (ab .i64) C (r.add 3) λ(s:Int)=>ae d λt=>st C (t.add 3) (.int .i64 (N6.wrap (s+1))) λE=>R (0:Int) E) (ae d λu=>ld (ab .i64) H (u.add 3) λ(v:Int)=>ae d λw=>st H (w.add 3) (.int .i64 (N6.wrap (v+1))) λF=>R (0:Int) F))) (ae d λb=>ld ay H (b.add 5) λ(y:Bool)=>br y (ae d λc=>ld (ab .i64) H (c.add 6) λ(z:Int)=>ae d λe=>st H (e.add 6) (.int .i64 (N6.wrap (z - 1))) λD=>ae d λf=>ld (ab .i64) D (f.add 3) λ(A:Int)=>ae d λg=>st D (g.add 3) (.int .i64 (N6.wrap (A+1))) λG=>R (0:Int) G) (ae d λh=>ld (ab .i64) H (h.add 3) λ(B:Int)=>ae d λi=>st H (i.add 3) (.int .i64 (N6.wrap (B+1))) λI=>R (0:Int) I))
theorem EL.of:∀{d H R},EL.vc d H R->EL.sp d H R:=aU [] (by kernel_rfl)
def Kw.vc (p:Option Addr)(name:ByteArray)(H:aa)(R:Kp (Int×Int×Int)):Prop:=
 ae p λa=>ld (ab .i64) H (a.add 6) λ(x:Int)=>br (x !=0) (ae p λf=>ld (ab .i64) H (f.add 6) λ(g:Int)=>R ((0:Int),(0:Int),g) H) (ae p λh=>ld av H (h.add 0) λ(i:Option Addr)=>C2.sp i name H λ(r:(Int×Int)) H1=>br (r.2==0) (GI.sp p H1 λ(e:Int) A=>br (e !=0) (nq.sp p e A λ(j:Int) E=>R ((0:Int),(0:Int),j) E) (Er.sp (0:Int) (Sl.mk none 0 0) A λ(k:(Sl×Int)) B=>ae p λl=>ld av B (l.add 0) λ(m:Option Addr)=>GO.sp m name r.1 k.1 B λ(b:Int) C=>br (b !=0) (nq.sp p b C λ(n:Int) F=>R ((0:Int),(0:Int),n) F) (BT.sp p name r.1 (0:Int) Qu false (Sl.mk none 0 0) (0:Int) C λ(o:Int) G=>R (o,r.1,(0:Int)) G))) (br (r.2!=0) (nq.sp p r.2 H1 λ(q:Int) I=>R ((0:Int),(0:Int),q) I) (Er.sp (0:Int) (Sl.mk none 0 0) H1 λ(s:(Sl×Int)) D=>ae p λt=>ld av D (t.add 0) λ(u:Option Addr)=>GO.sp u name r.1 s.1 D λ(c:Int) d=>br (c !=0) (nq.sp p c d λ(v:Int) w=>R ((0:Int),(0:Int),v) w) (BT.sp p name r.1 (0:Int) Qu false (Sl.mk none 0 0) (0:Int) d λ(y:Int) z=>R (y,r.1,(0:Int)) z))))
theorem Kw.of:∀{p name H R},Kw.vc p name H R->Kw.sp p name H R:=aU [] (by kernel_rfl)
def Ho.vc (p:Option Addr)(name:ByteArray)(page:Int)(H:aa)(R:Kp Int):Prop:=
 aw Int 0 H λnext i H1=>ae p λa=>ld ak H1 (a.add 2) λ(x:Sl)=>br (decide (i<(x.n:Int))) (ae p λd=>ld ak H1 (d.add 2) λ(b:Sl)=>ae b.a λe=>(0<=i/\i<(b.n:Int))/\ld aK H1 ((e.add (i.toNat*7)).add 0) λ(f:ByteArray)=>br (f.toList==name.toList) (ae p λg=>ld ak H1 (g.add 2) λ(c:Sl)=>ae c.a λh=>(0<=i/\i<(c.n:Int))/\ld (ab .i64) H1 ((h.add (i.toNat*7)).add 1) λ(j:Int)=>br (j==page) (R i H1) (next (N6.wrap (i+1)) H1)) (next (N6.wrap (i+1)) H1)) (R (-1:Int) H1)
theorem Ho.of:∀{p name page H R},Ho.vc p name page H R->Ho.sp p name page H R:=aU [(2,[(7,(ab .i64))])] (by kernel_rfl)
def GG.vc (p:Option Addr)(i:Int)(H:aa)(R:Kp Int):Prop:=
 ∃G:aa->Prop,G H/\ae p λa=>dw ak G (a.add 2) λ(x:Sl)=>ae p λc=>dw ak G (c.add 2) λ(b:Sl)=>ae b.a λd=>(0<=i/\i<(b.n:Int))/\dw ak G ((d.add (i.toNat*7)).add 5) λ(e:Sl)=>ae p λf=>ld (ab .i64) H (f.add 3) λ(g:Int)=>aI H #[(.int .i64 g)] ib λh H1=>G H1/\ba ak N5 (Oa #[Dh,Dh] Dh #[e.v,(.slice (some h) 1 1)]) H1 λ(s:Sl) q=>G q/\ae x.a λj=>(0<=i/\i<(x.n:Int))/\st q ((j.add (i.toNat*7)).add 5) s.v λr=>ae p λk=>ld (ab .i64) r (k.add 3) λ(l:Int)=>ae p λm=>st r (m.add 3) (.int .i64 (N6.wrap (l+1))) λt=>ae p λn=>ld (ab .i64) t (n.add 3) λ(o:Int)=>R (N6.wrap (o - 1)) t
theorem GG.of:∀{p i H R},GG.vc p i H R->GG.sp p i H R:=aU [] (by kernel_rfl)
def GI.vc (p:Option Addr)(H:aa)(R:Kp Int):Prop:=
 ae p λa=>ld ak H (a.add 2) λ(x:Sl)=>ae p λi=>ld (ab .i64) H (i.add 1) λ(j:Int)=>br (decide ((x.n:Int)<j)) (R (0:Int) H) (aw (Int×Int) ((-1:Int),(0:Int)) H λnext z H1=>ae p λk=>ld ak H1 (k.add 2) λ(l:Sl)=>br (decide (z.2<(l.n:Int))) (ae p λm=>ld ak H1 (m.add 2) λ(b:Sl)=>ae b.a λn=>(0<=z.2/\z.2<(b.n:Int))/\ld ak H1 ((n.add (z.2.toNat*7)).add 5) λ(o:Sl)=>br (((o.n:Int)==0)==true) (br (decide (z.1<0)) (next (z.2,N6.wrap (z.2+1)) H1) (ae p λq=>ld ak H1 (q.add 2) λ(c:Sl)=>ae c.a λr=>(0<=z.2/\z.2<(c.n:Int))/\ld (ab .i64) H1 ((r.add (z.2.toNat*7)).add 6) λ(s:Int)=>ae p λt=>ld ak H1 (t.add 2) λ(d:Sl)=>ae d.a λu=>(0<=z.1/\z.1<(d.n:Int))/\ld (ab .i64) H1 ((u.add (z.1.toNat*7)).add 6) λ(v:Int)=>br (decide (s<v)) (next (z.2,N6.wrap (z.2+1)) H1) (next (z.1,N6.wrap (z.2+1)) H1))) (next (z.1,N6.wrap (z.2+1)) H1)) (br (decide (z.1<0)) (R (31:Int) H1) (ae p λw=>ld ak H1 (w.add 2) λ(f:Sl)=>ae f.a λg=>(0<=z.1/\z.1<(f.n:Int))/\ld ay H1 ((g.add (z.1.toNat*7)).add 4) λ(h:Bool)=>br h (HX.sp p z.1 H1 λ(e:Int) y=>br (e !=0) (R e y) (IX.sp p z.1 y λ(_:Unit) A=>R (0:Int) A)) (IX.sp p z.1 H1 λ(_:Unit) B=>R (0:Int) B))))
theorem GI.of:∀{p H R},GI.vc p H R->GI.sp p H R:=aU [(5,[(3,(ab .i64)),(4,(ab .i64))])] (by kernel_rfl)
def nq.vc (p:Option Addr)(e:Int)(H:aa)(R:Kp Int):Prop:=
 br (((e==4)||(e==5))||(e==20)) (ae p λa=>st H (a.add 6) (.int .i64 e) λH1=>R e H1) (R e H)
theorem nq.of:∀{p e H R},nq.vc p e H R->nq.sp p e H R:=aU [] (by kernel_rfl)
def Gx.vc (b:Sl)(H:aa)(R:Kp (Int×Sl×Int)):Prop:=
 br ((b.n:Int)!=512) (R ((0:Int),(Sl.mk none 0 0),(2:Int)) H) (ae b.a λa=>(0<=(4:Int)/\(4:Int)<(b.n:Int))/\ld (ab .u8) H (a.add ((4:Int).toNat*1)) λ(x:Int)=>ae b.a λe=>(0<=(5:Int)/\(5:Int)<(b.n:Int))/\ld (ab .u8) H (e.add ((5:Int).toNat*1)) λ(c:Int)=>br (decide ((N6.wrap ((N6.wrap x)+(N6.wrap ((256:Int)*(N6.wrap c)))))>504)) (R ((0:Int),(Sl.mk none 0 0),(20:Int)) H) ((0<=(N6.wrap ((8:Int)+(N6.wrap ((N6.wrap x)+(N6.wrap ((256:Int)*(N6.wrap c)))))))/\(N6.wrap ((8:Int)+(N6.wrap ((N6.wrap x)+(N6.wrap ((256:Int)*(N6.wrap c)))))))<=(b.c:Int))/\(0<=(8:Int)/\(8:Int)<=(N6.wrap ((8:Int)+(N6.wrap ((N6.wrap x)+(N6.wrap ((256:Int)*(N6.wrap c))))))))/\ba ak N5 (Oa #[dQ,dQ] dQ #[(.slice none 0 0),(.slice (cA b.a b.c ((8:Int).toNat) 1) (((N6.wrap ((8:Int)+(N6.wrap ((N6.wrap x)+(N6.wrap ((256:Int)*(N6.wrap c))))))).toNat) - ((8:Int).toNat)) (b.c - ((8:Int).toNat)))]) H λ(s:Sl) H1=>ae b.a λf=>(0<=(6:Int)/\(6:Int)<(b.n:Int))/\ld (ab .u8) H1 (f.add ((6:Int).toNat*1)) λ(g:Int)=>Er.sp g s H1 λ(r:(Sl×Int)) d=>vM d r.1.a r.1.n λ(str:ByteArray)=>vM d b.a b.n λ(str_1:ByteArray)=>br (!(str.toList==str_1.toList)) (R ((0:Int),(Sl.mk none 0 0),(20:Int)) d) (ae b.a λh=>(0<=(6:Int)/\(6:Int)<(b.n:Int))/\ld (ab .u8) d (h.add ((6:Int).toNat*1)) λ(i:Int)=>R (i,s,(0:Int)) d)))
theorem Gx.of:∀{b H R},Gx.vc b H R->Gx.sp b H R:=aU [] (by kernel_rfl)
def BT.vc (p:Option Addr)(A:ByteArray)(e f:Int)(g:ByteArray)(h:Bool)(i:Sl)(j:Int)(H:aa)(R:Kp Int):Prop:=
 aI H #[(.string A),(.int .i64 e),(.int .u8 f),(.string g),(.bool h),i.v,(.int .i64 j)] tN λk H1=>∃G:aa->Prop,G H1/\ae p λa=>dw ak G (a.add 2) λ(x:Sl)=>c8 (bQ [aK,(ab .i64),(ab .u8),aK,ay,ak,(ab .i64)]) 7 H1 k λ(b:(ByteArray×Int×Int×ByteArray×Bool×Sl×Int))=>aI H1 #[(.string b.1),(.int .i64 b.2.1),(.int .u8 b.2.2.1),(.string b.2.2.2.1),(.bool b.2.2.2.2.1),b.2.2.2.2.2.1.v,(.int .i64 b.2.2.2.2.2.2)] tN λl y=>G y/\ba ak N5 (Oa #[CA,CA] CA #[x.v,(.slice (some l) 1 1)]) y λ(s:Sl) B=>ae p λm=>st B (m.add 2) s.v λn=>ae p λo=>ld (ab .i64) n (o.add 5) λ(c:Int)=>ae p λq=>ld ak n (q.add 2) λ(d:Sl)=>ae p λt=>st n (t.add 5) (.int .i64 (if (d.n:Int)>c then (d.n:Int) else c)) λz=>ae p λu=>ld ak z (u.add 2) λ(w:Sl)=>GG.sp p (N6.wrap ((w.n:Int) - 1)) z λ(r:Int) C=>R r C
theorem BT.of:∀{p g a b c d e f H R},BT.vc p g a b c d e f H R->BT.sp p g a b c d e f H R:=aU [] (by kernel_rfl)
def GL.vc (p:Option Addr)(h:Int)(H:aa)(R:Kp Int):Prop:=
 aw Int 0 H λnext i H1=>ae p λa=>ld ak H1 (a.add 2) λ(x:Sl)=>br (decide (i<(x.n:Int))) (aw Int 0 H1 λb k c=>ae p λg=>ld ak c (g.add 2) λ(d:Sl)=>ae d.a λj=>(0<=i/\i<(d.n:Int))/\ld ak c ((j.add (i.toNat*7)).add 5) λ(l:Sl)=>br (decide (k<(l.n:Int))) (ae p λm=>ld ak c (m.add 2) λ(e:Sl)=>ae e.a λn=>(0<=i/\i<(e.n:Int))/\ld ak c ((n.add (i.toNat*7)).add 5) λ(f:Sl)=>ae f.a λo=>(0<=k/\k<(f.n:Int))/\ld (ab .i64) c (o.add (k.toNat*1)) λ(q:Int)=>br (q==h) (R i c) (b (N6.wrap (k+1)) c)) (next (N6.wrap (i+1)) c)) (R (-1:Int) H1)
theorem GL.of:∀{p h H R},GL.vc p h H R->GL.sp p h H R:=aU [(2,[(5,(ab .i64))]),(5,[(6,(ab .i64))])] (by kernel_rfl)
def HX.vc (p:Option Addr)(i:Int)(H:aa)(R:Kp Int):Prop:=
 ∃G:aa->Prop,G H/\ae p λa=>dw ak G (a.add 2) λ(x:Sl)=>ae x.a λj=>(0<=i/\i<(x.n:Int))/\dw (ab .u8) G ((j.add (i.toNat*7)).add 2) λ(k:Int)=>ae p λl=>ld ak H (l.add 2) λ(d:Sl)=>ae d.a λm=>(0<=i/\i<(d.n:Int))/\ld aK H ((m.add (i.toNat*7)).add 3) λ(n:ByteArray)=>ba ak N5 (convert dI dQ (.string n)) H λ(o:Sl) H1=>G H1/\Er.sp k o H1 λ(r:(Sl×Int)) c=>ae p λq=>ld av c (q.add 0) λ(s:Option Addr)=>ae p λt=>ld ak c (t.add 2) λ(f:Sl)=>ae f.a λu=>(0<=i/\i<(f.n:Int))/\ld aK c ((u.add (i.toNat*7)).add 0) λ(v:ByteArray)=>ae p λw=>ld ak c (w.add 2) λ(g:Sl)=>ae g.a λy=>(0<=i/\i<(g.n:Int))/\ld (ab .i64) c ((y.add (i.toNat*7)).add 1) λ(z:Int)=>GO.sp s v z r.1 c λ(e:Int) A=>br (e==0) (ae p λB=>ld ak A (B.add 2) λ(b:Sl)=>ae b.a λh=>(0<=i/\i<(b.n:Int))/\st A ((h.add (i.toNat*7)).add 4) (.bool false) λC=>R e C) (R e A)
theorem HX.of:∀{p i H R},HX.vc p i H R->HX.sp p i H R:=aU [] (by kernel_rfl)
def Jb.vc (d:Option Addr)(name:ByteArray)(H:aa)(R:Kp Int):Prop:=
 AR.sp d name H λ(i:Int) H1=>ae d λa=>ld ay H1 (a.add 8) λ(x:Bool)=>br x (R (4:Int) H1) (br (decide (i<0)) (R (11:Int) H1) (EL.sp d H1 λ(e:Int) c=>br (e==0) (∃G:aa->Prop,G c/\ae d λj=>dw ak G (j.add 0) λ(f:Sl)=>ae d λk=>ld ak c (k.add 0) λ(g:Sl)=>ae g.a λl=>(0<=i/\i<(g.n:Int))/\c8 (bQ [aK,ak,ak]) 3 c (l.add (i.toNat*3)) λ(b:(ByteArray×Sl×Sl))=>DH.sp b.1 b.2.1 b.2.2 c λ(r:Sl) p=>G p/\ae f.a λm=>(0<=i/\i<(f.n:Int))/\st p ((m.add (i.toNat*3)).add 1) r.v λq=>ae d λn=>ld ak q (n.add 0) λ(h:Sl)=>ae h.a λo=>(0<=i/\i<(h.n:Int))/\st q ((o.add (i.toNat*3)).add 2) (.slice none 0 0) λs=>R e s) (R e c)))
theorem Jb.of:∀{d name H R},Jb.vc d name H R->Jb.sp d name H R:=aU [] (by kernel_rfl)
def KR.vc (i:Int)(H:aa)(R:Kp ByteArray):Prop:=
 K5.sp i (10:Int) H λ(r:ByteArray) H1=>R r H1
theorem KR.of:∀{i H R},KR.vc i H R->KR.sp i H R:=aU [] (by kernel_rfl)
def Kj.vc (s:Sl)(H:aa)(R:Kp Bool):Prop:=
 Ja.sp s H λ(r:Int) H1=>R (decide (r>=0)) H1
theorem Kj.of:∀{s H R},Kj.vc s H R->Kj.sp s H R:=aU [] (by kernel_rfl)
def Eg.vc (f:Option Addr)(H:aa)(R:Kp Bool):Prop:=
 ae f λa=>ld (ab .i64) H (a.add 5) λ(x:Int)=>R (decide (x>0)) H
theorem Eg.of:∀{f H R},Eg.vc f H R->Eg.sp f H R:=aU [] (by kernel_rfl)
def JR.vc (d:Option Addr)(name:ByteArray)(H:aa)(R:Kp Int):Prop:=
 Dx.sp d name H λ(r:(Option Addr×Int)) H1=>br (r.2!=0) (R r.2 H1) (Ds.sp d H1 λ(e:Int) a=>br (e==0) (Jk.sp d name a λ(_:Unit) b=>R e b) (R e a))
theorem JR.of:∀{d name H R},JR.vc d name H R->JR.sp d name H R:=aU [] (by kernel_rfl)
def G9.vc (p:Option Addr)(H:aa)(R:Kp Int):Prop:=
 ae p λa=>ld bT H (a.add 2) λ(x:Option Nat)=>AL H x λ(n:Nat)=>ae p λg=>ld (ab .i64) H (g.add 1) λ(h:Int)=>br (decide ((n:Int)<h)) (R (0:Int) H) (JC.sp p H λ(f:Option Addr) H1=>br f.isNone (R (31:Int) H1) (ae f λi=>ld ay H1 (i.add 4) λ(j:Bool)=>br j (Dy.sp p f H1 λ(e:Int) d=>br (e !=0) (R e d) (ae p λk=>ld bT d (k.add 2) λ(l:Option Nat)=>ae f λm=>c8 (bQ [aK,(ab .i64)]) 2 d (m.add 0) λ(b:(ByteArray×Int))=>ba gi N5 (PF #[xO,wO] Af #[(.map l),(.agg #[(.string b.1),(.int .i64 b.2)])]) d λ(_:Value) s=>R (0:Int) s)) (ae p λo=>ld bT H1 (o.add 2) λ(q:Option Nat)=>ae f λr=>c8 (bQ [aK,(ab .i64)]) 2 H1 (r.add 0) λ(c:(ByteArray×Int))=>ba gi N5 (PF #[xO,wO] Af #[(.map q),(.agg #[(.string c.1),(.int .i64 c.2)])]) H1 λ(_:Value) t=>R (0:Int) t)))
theorem G9.of:∀{p H R},G9.vc p H R->G9.sp p H R:=aU [] (by kernel_rfl)
def JG.vc (b:Sl)(H:aa)(R:Kp (Int×Sl×Int)):Prop:=
 br ((b.n:Int)!=512) (R ((0:Int),(Sl.mk none 0 0),(2:Int)) H) ((0<=(4:Int)/\(4:Int)<=(b.n:Int))/\HI.sp (Sl.mk (cA b.a b.c ((4:Int).toNat) 1) (b.n - ((4:Int).toNat)) (b.c - ((4:Int).toNat))) H λ(n:Int) H1=>aw Int 0 H1 λnext z e=>br (decide (z<4)) (ae b.a λa=>(0<=z/\z<(b.n:Int))/\ld (ab .u8) e (a.add (z.toNat*1)) λ(x:Int)=>0<=(N6.wrap ((8:Int)*z))/\br (x !=(O5.wrap (dG .u32 n (N6.wrap ((8:Int)*z))))) (R ((0:Int),(Sl.mk none 0 0),(20:Int)) e) (next (N6.wrap (z+1)) e)) (ae b.a λf=>(0<=(4:Int)/\(4:Int)<(b.n:Int))/\ld (ab .u8) e (f.add ((4:Int).toNat*1)) λ(c:Int)=>ae b.a λg=>(0<=(5:Int)/\(5:Int)<(b.n:Int))/\ld (ab .u8) e (g.add ((5:Int).toNat*1)) λ(d:Int)=>br (decide ((yO .i64 (N6.wrap c) (kV .i64 (N6.wrap d) (8:Int)))>504)) (R ((0:Int),(Sl.mk none 0 0),(20:Int)) e) (ae b.a λh=>(0<=(7:Int)/\(7:Int)<(b.n:Int))/\ld (ab .u8) e (h.add ((7:Int).toNat*1)) λ(i:Int)=>br (i !=157) (R ((0:Int),(Sl.mk none 0 0),(20:Int)) e) ((0<=(N6.wrap ((8:Int)+(yO .i64 (N6.wrap c) (kV .i64 (N6.wrap d) (8:Int)))))/\(N6.wrap ((8:Int)+(yO .i64 (N6.wrap c) (kV .i64 (N6.wrap d) (8:Int)))))<=(b.n:Int))/\JI.sp (Sl.mk (cA b.a b.c ((N6.wrap ((8:Int)+(yO .i64 (N6.wrap c) (kV .i64 (N6.wrap d) (8:Int))))).toNat) 1) (b.n - ((N6.wrap ((8:Int)+(yO .i64 (N6.wrap c) (kV .i64 (N6.wrap d) (8:Int))))).toNat)) (b.c - ((N6.wrap ((8:Int)+(yO .i64 (N6.wrap c) (kV .i64 (N6.wrap d) (8:Int))))).toNat))) e λ(r:Bool) j=>br r (R ((0:Int),(Sl.mk none 0 0),(20:Int)) j) (∃G:aa->Prop,G j/\ae b.a λk=>(0<=(6:Int)/\(6:Int)<(b.n:Int))/\dw (ab .u8) G (k.add ((6:Int).toNat*1)) λ(l:Int)=>(0<=(N6.wrap ((8:Int)+(yO .i64 (N6.wrap c) (kV .i64 (N6.wrap d) (8:Int)))))/\(N6.wrap ((8:Int)+(yO .i64 (N6.wrap c) (kV .i64 (N6.wrap d) (8:Int)))))<=(b.c:Int))/\(0<=(8:Int)/\(8:Int)<=(N6.wrap ((8:Int)+(yO .i64 (N6.wrap c) (kV .i64 (N6.wrap d) (8:Int))))))/\DC.sp (Sl.mk (cA b.a b.c ((8:Int).toNat) 1) (((N6.wrap ((8:Int)+(yO .i64 (N6.wrap c) (kV .i64 (N6.wrap d) (8:Int))))).toNat) - ((8:Int).toNat)) (b.c - ((8:Int).toNat))) j λ(m:Sl) o=>G o/\R (l,m,(0:Int)) o)))))
theorem JG.of:∀{b H R},JG.vc b H R->JG.sp b H R:=aU [(5,[(14,(ab .i64))])] (by kernel_rfl)
def JS.vc (s:Sl)(cap:Addr)(H:aa)(R:Kp Sl):Prop:=
 JN.sp s cap H λ(i:Int) H1=>br (i==(-1:Int)) (R s H1) (aw (Int×Int) (i,N6.wrap (i+1)) H1 λnext z b=>br (decide (z.2<(s.n:Int))) (ae s.a λa=>(0<=z.2/\z.2<(s.n:Int))/\ld av b (a.add (z.2.toNat*1)) λ(v:Option Addr)=>Dr.sp v cap b λ(r:Bool) d=>br (!r) (ae s.a λc=>(0<=z.1/\z.1<(s.n:Int))/\st d (c.add (z.1.toNat*1)) (.pointer v) λe=>next (N6.wrap (z.1+1),N6.wrap (z.2+1)) e) (next (z.1,N6.wrap (z.2+1)) d)) ((0<=z.1/\z.1<=(s.n:Int))/\ba gi N5 (To #[Cf] Af #[(.slice (cA s.a s.c z.1.toNat 1) (s.n - z.1.toNat) (s.c - z.1.toNat))]) b λ(_:Value) f=>(0<=z.1/\z.1<=(s.c:Int))/\R (Sl.mk (cA s.a s.c 0 1) (z.1.toNat - 0) (s.c - 0)) f))
theorem JS.of:∀{s cap H R},JS.vc s cap H R->JS.sp s cap H R:=aU [(5,[(5,(ab .i64)),(6,(ab .i64))])] (by kernel_rfl)
def K1.vc (seq:Value)(H:aa)(R:Kp Sl):Prop:=
 Kk.sp (Sl.mk none 0 0) seq H λ(r:Sl) H1=>R r H1
theorem K1.of:∀{seq H R},K1.vc seq H R->K1.sp seq H R:=aU [] (by kernel_rfl)
def Ky.vc (m:Option Nat)(H:aa)(R:Kp Value):Prop:=
 aI H #[(.map m)] xO λp H1=>R (.func (.func Fs.no) #[] #[(.pointer (some p))]) H1
theorem Ky.of:∀{m H R},Ky.vc m H R->Ky.sp m H R:=aU [] (by kernel_rfl)
def Dr.vc (f:Option Addr)(cap:Addr)(H:aa)(R:Kp Bool):Prop:=
 ae f λa=>ld aK H ((a.add 0).add 0) λ(x:ByteArray)=>ld aK H cap λ(b:ByteArray)=>R (!(x.toList==b.toList)) H
theorem Dr.of:∀{f cap H R},Dr.vc f cap H R->Dr.sp f cap H R:=aU [] (by kernel_rfl)
def DJ.vc (a b:Option Addr)(H:aa)(R:Kp Int):Prop:=
 ae a λc=>ld (ab .i64) H ((c.add 0).add 1) λ(x:Int)=>ae b λd=>ld (ab .i64) H ((d.add 0).add 1) λ(e:Int)=>R (N6.wrap (x - e)) H
theorem DJ.of:∀{a b H R},DJ.vc a b H R->DJ.sp a b H R:=aU [] (by kernel_rfl)
def J6.vc (kind:Int)(b:Sl)(H:aa)(R:Kp (Sl×Int)):Prop:=
 br (decide ((b.n:Int)>504)) (R ((Sl.mk none 0 0),(2:Int)) H) (aI H (zc N5 Lf) Lf λp H1=>(0<=(4:Int)/\(4:Int)<((512:Nat):Int))/\st H1 (p.add ((4:Int).toNat*1)) (.int .u8 (O5.wrap (b.n:Int))) λd=>(0<=(5:Int)/\(5:Int)<((512:Nat):Int))/\st d (p.add ((5:Int).toNat*1)) (.int .u8 (O5.wrap (dG .i64 (b.n:Int) (8:Int)))) λe=>(0<=(6:Int)/\(6:Int)<((512:Nat):Int))/\st e (p.add ((6:Int).toNat*1)) (.int .u8 kind) λf=>(0<=(7:Int)/\(7:Int)<((512:Nat):Int))/\st f (p.add ((7:Int).toNat*1)) (.int .u8 157) λg=>(0<=(8:Int)/\(8:Int)<=512)/\ba (ab .i64) N5 (UW #[dQ,dQ] ib #[(.slice (cA (some p) 512 ((8:Int).toNat) 1) (512 - ((8:Int).toNat)) (512 - ((8:Int).toNat))),b.v]) g λ(_:Int) h=>(0<=(4:Int)/\(4:Int)<=512)/\HI.sp (Sl.mk (cA (some p) 512 ((4:Int).toNat) 1) (512 - ((4:Int).toNat)) (512 - ((4:Int).toNat))) h λ(n:Int) i=>aw Int 0 i λnext z c=>br (decide (z<4)) (0<=(N6.wrap ((8:Int)*z))/\(0<=z/\z<((512:Nat):Int))/\st c (p.add (z.toNat*1)) (.int .u8 (O5.wrap (dG .u32 n (N6.wrap ((8:Int)*z))))) λj=>next (N6.wrap (z+1)) j) (DC.sp (Sl.mk (cA (some p) 512 0 1) (512 - 0) (512 - 0)) c λ(r:Sl) a=>R (r,(0:Int)) a))
theorem J6.of:∀{kind b H R},J6.vc kind b H R->J6.sp kind b H R:=aU [(9,[(29,(ab .i64))])] (by kernel_rfl)
def Kh.vc (d:Option Addr)(name:ByteArray)(page:Int)(b:Sl)(H:aa)(R:Kp Int):Prop:=
 Dv.sp d H λ(e:Int) H1=>br (e !=0) (R e H1) (br ((b.n:Int)!=512) (R (2:Int) H1) (Dx.sp d name H1 λ(r:(Option Addr×Int)) c=>cut Unit (λJ=>br (r.2!=0) (R r.2 c) (br (decide (page<0)) (br (decide (page<0)) (R (12:Int) c) (ae r.1 λa=>ld ak c (a.add 0) λ(x:Sl)=>br (page==(x.n:Int)) (ae d λL=>ld (ab .i64) c (L.add 1) λ(M:Int)=>ae d λN=>ld (ab .i64) c (N.add 3) λ(O:Int)=>br (M==O) (R (5:Int) c) (J () c)) (J () c))) (ae r.1 λP=>ld ak c (P.add 0) λ(Q:Sl)=>br (decide (page>(Q.n:Int))) (R (12:Int) c) (ae r.1 λS=>ld ak c (S.add 0) λ(T:Sl)=>br (page==(T.n:Int)) (ae d λU=>ld (ab .i64) c (U.add 1) λ(V:Int)=>ae d λW=>ld (ab .i64) c (W.add 3) λ(X:Int)=>br (V==X) (R (5:Int) c) (J () c)) (J () c))))) λ(_:Unit) H3=>Ds.sp d H3 λ(h:Int) i=>br (h !=0) (R h i) (cut Unit (λj=>ae r.1 λY=>ld ak i (Y.add 0) λ(Z:Sl)=>br (page==(Z.n:Int)) (ae d λaf=>ld (ab .i64) i (af.add 1) λ(an:Int)=>ae d λa1=>st i (a1.add 1) (.int .i64 (N6.wrap (an+1))) λH6=>ae d λk=>ld (ab .i64) H6 (k.add 2) λ(l:Int)=>ae d λm=>ld (ab .i64) H6 (m.add 1) λ(f:Int)=>ae d λn=>st H6 (n.add 2) (.int .i64 (if f>l then f else l)) λH7=>j () H7) (j () i)) λ(_:Unit) H5=>∃G:aa->Prop,G H5/\ae r.1 λo=>dw ak G (o.add 2) λ(p:Sl)=>ae d λq=>ld (ab .i64) H5 (q.add 5) λ(t:Int)=>512<=b.n/\ae b.a λu=>Lb jQ 512 G u λ(v:Array Value)=>rN jQ N5 (Instr.build qR #[(0,(.int .i64 t)),(1,(.int .i64 page)),(2,(.agg v))]) λ(y:Array Value)=>ba ak N5 (Ps Lq 1 #[(0,(.agg y))]) H5 λ(sl:Sl) H8=>G H8/\ba ak N5 (Oa #[Lq,Lq] Lq #[p.v,sl.v]) H8 λ(s:Sl) H9=>ae r.1 λw=>st H9 (w.add 2) s.v λg=>ae r.1 λz=>ld ak g (z.add 0) λ(A:Sl)=>512<=b.n/\ae b.a λB=>c8 jQ 512 g B λ(C:Array Value)=>GB.sp A page C g λ(a6:Sl) a7=>ae r.1 λD=>st a7 (D.add 0) a6.v λE=>ae d λF=>ld (ab .i64) E (F.add 5) λ(I:Int)=>ae d λK=>st E (K.add 5) (.int .i64 (N6.wrap (I+1))) λa8=>R (0:Int) a8)))
theorem Kh.of:∀{d name page b H R},Kh.vc d name page b H R->Kh.sp d name page b H R:=aU [(100014,[]),(100020,[])] (by kernel_rfl)
def DB.vc (l:Nat)(cap d:Addr)(H:aa)(R:Kp Unit):Prop:=
 aw Int 0 H λnext i H1=>ld ak H1 cap λ(x:Sl)=>br (decide (i<(x.n:Int))) (ld (ab .i64) H1 d λ(c:Int)=>ld ak H1 cap λ(a:Sl)=>(0<=i/\i<=(a.n:Int))/\ld ak H1 cap λ(e:Sl)=>(0<=(N6.wrap (i+(if ((a.n - i.toNat:Nat):Int)<c then ((a.n - i.toNat:Nat):Int) else c)))/\(N6.wrap (i+(if ((a.n - i.toNat:Nat):Int)<c then ((a.n - i.toNat:Nat):Int) else c)))<=(e.c:Int))/\(0<=(N6.wrap (i+(if ((a.n - i.toNat:Nat):Int)<c then ((a.n - i.toNat:Nat):Int) else c)))/\(N6.wrap (i+(if ((a.n - i.toNat:Nat):Int)<c then ((a.n - i.toNat:Nat):Int) else c)))<=(N6.wrap (i+(if ((a.n - i.toNat:Nat):Int)<c then ((a.n - i.toNat:Nat):Int) else c))))/\(0<=i/\i<=(N6.wrap (i+(if ((a.n - i.toNat:Nat):Int)<c then ((a.n - i.toNat:Nat):Int) else c))))/\bZ N5 l #[(.slice (cA e.a ((N6.wrap (i+(if ((a.n - i.toNat:Nat):Int)<c then ((a.n - i.toNat:Nat):Int) else c))).toNat) i.toNat 1) ((N6.wrap (i+(if ((a.n - i.toNat:Nat):Int)<c then ((a.n - i.toNat:Nat):Int) else c))).toNat - i.toNat) ((N6.wrap (i+(if ((a.n - i.toNat:Nat):Int)<c then ((a.n - i.toNat:Nat):Int) else c))).toNat - i.toNat))] H1 λ(b:Bool) f=>br (!b) (R () f) (ld (ab .i64) f d λ(g:Int)=>next (N6.wrap (i+g)) f)) (R () H1)
theorem DB.of:∀{l cap a H R},DB.vc l cap a H R->DB.sp l cap a H R:=aU [(1,[(4,(ab .i64))])] (by kernel_rfl)
def JH.vc (s:Sl)(seq:Value)(H:aa)(R:Kp Sl):Prop:=
 aI H #[s.v] dU λp H1=>oO N5 seq H1 (λl rec vs b h=>iN (dg.dec [aK] vs) λ(z:ByteArray)=>b[l]?=some (.loop (rec .ready none))/\ld ak (b.setIfInBounds l (.loop (rec .busy none))) p λ(x:Sl)=>aI (b.setIfInBounds l (.loop (rec .busy none))) #[(.string z)] dI λc j=>ba ak N5 (Oa #[dU,dU] dU #[x.v,(.slice (some c) 1 1)]) j λ(d:Sl) k=>st k p d.v λg=>g[l]?=some (.loop (rec .busy none))/\h true (g.setIfInBounds l (.loop (rec .ready none)))) (λr a=>ld ak a p λ(e:Sl)=>a[r]?=some (.deferred (some []))/\R e (a.setIfInBounds r (.deferred none))) (λi r a=>bif OC i 0 then ld ak a p λ(f:Sl)=>a[r]?=some (.deferred (some []))/\R f (a.setIfInBounds r (.deferred none)) else False) (λr a=>a[r]?=some (.deferred (some []))/\R (Sl.mk none 0 0) (a.setIfInBounds r (.deferred none)))
theorem JH.of:∀{s seq H R},JH.vc s seq H R->JH.sp s seq H R:=aU [(200003,[(7,aK)])] (by kernel_rfl)
def Jy.vc (x:Int)(H:aa)(R:Kp Bool):Prop:=
 R (x !=x) H
theorem Jy.of:∀{x H R},Jy.vc x H R->Jy.sp x H R:=aU [] (by kernel_rfl)
def Ju.vc (l x:Sl)(H:aa)(R:Kp Int):Prop:=
 aw (Int×Int) ((0:Int),(l.n:Int)) H λnext z H1=>br (decide (z.1<z.2)) (ae l.a λa=>(0<=(N6.wrap (OX (N6.wrap (z.1+z.2)) (2:Int)))/\(N6.wrap (OX (N6.wrap (z.1+z.2)) (2:Int)))<(l.n:Int))/\ld ak H1 (a.add ((N6.wrap (OX (N6.wrap (z.1+z.2)) (2:Int))).toNat*1)) λ(b:Sl)=>Am.sp b x H1 λ(r:Int) c=>br (decide (r<0)) (next (N6.wrap ((N6.wrap (OX (N6.wrap (z.1+z.2)) (2:Int)))+1),z.2) c) (next (z.1,N6.wrap (OX (N6.wrap (z.1+z.2)) (2:Int))) c)) (R z.1 H1)
theorem Ju.of:∀{l x H R},Ju.vc l x H R->Ju.sp l x H R:=aU [(2,[(5,(ab .i64)),(6,(ab .i64))])] (by kernel_rfl)
def G6.vc (p:Option Addr)(name:ByteArray)(H:aa)(R:Kp Int):Prop:=
 ae p λa=>ld (ab .i64) H (a.add 6) λ(x:Int)=>br (x !=0) (ae p λj=>ld (ab .i64) H (j.add 6) λ(k:Int)=>R k H) (ae p λm=>ld av H (m.add 0) λ(n:Option Addr)=>C2.sp n name H λ(r:(Int×Int)) H1=>br (r.2!=0) (nq.sp p r.2 H1 λ(o:Int) J=>R o J) (aw (Sl×Int) ((Sl.mk none 0 0),(0:Int)) H1 λnext z c=>ae p λq=>ld ak c (q.add 2) λ(s:Sl)=>br (decide (z.2<(s.n:Int))) (ae p λt=>ld ak c (t.add 2) λ(d:Sl)=>ae d.a λu=>(0<=z.2/\z.2<(d.n:Int))/\ld aK c ((u.add (z.2.toNat*7)).add 0) λ(w:ByteArray)=>br (!(w.toList==name.toList)) (ae p λy=>ld ak c (y.add 2) λ(e:Sl)=>ae e.a λA=>(0<=z.2/\z.2<(e.n:Int))/\c8 (bQ [aK,(ab .i64),(ab .u8),aK,ay,ak,(ab .i64)]) 7 c (A.add (z.2.toNat*7)) λ(b:(ByteArray×Int×Int×ByteArray×Bool×Sl×Int))=>aI c #[(.string b.1),(.int .i64 b.2.1),(.int .u8 b.2.2.1),(.string b.2.2.2.1),(.bool b.2.2.2.2.1),b.2.2.2.2.2.1.v,(.int .i64 b.2.2.2.2.2.2)] tN λB K=>ba ak N5 (Oa #[CA,CA] CA #[z.1.v,(.slice (some B) 1 1)]) K λ(l:Sl) L=>next (l,N6.wrap (z.2+1)) L) (ae p λC=>ld ak c (C.add 2) λ(f:Sl)=>ae f.a λD=>(0<=z.2/\z.2<(f.n:Int))/\ld ak c ((D.add (z.2.toNat*7)).add 5) λ(E:Sl)=>br (decide ((E.n:Int)>0)) (R (31:Int) c) (next (z.1,N6.wrap (z.2+1)) c))) (ae p λg=>st c (g.add 2) z.1.v λI=>ae p λh=>ld av I (h.add 0) λ(i:Option Addr)=>Ka.sp i name I λ(F:Int) M=>nq.sp p F M λ(G:Int) N=>R G N)))
theorem G6.of:∀{p name H R},G6.vc p name H R->G6.sp p name H R:=aU [(8,[(7,ak),(8,(ab .i64))])] (by kernel_rfl)
def Er.vc (kind:Int)(b:Sl)(H:aa)(R:Kp (Sl×Int)):Prop:=
 br (decide ((b.n:Int)>504)) (R ((Sl.mk none 0 0),(2:Int)) H) (aI H #[(.int .u8 (O5.wrap (Pq (b.n:Int) (256:Int)))),(.int .u8 (O5.wrap (N6.wrap (OX (b.n:Int) (256:Int))))),(.int .u8 kind),(.int .u8 157)] fx λc H1=>ba ak N5 (Oa #[dQ,dQ] dQ #[(.slice (some c) 4 4),b.v]) H1 λ(rest:Sl) f=>ba ak N5 (Oa #[dQ,ib] dQ #[rest.v,(.int .i64 (N6.wrap ((508:Int) - (rest.n:Int))))]) f λ(a:Sl) g=>Jc.sp a g λ(n:Int) h=>aw (Sl×Int) ((Sl.mk none 0 0),(0:Int)) h λnext z e=>br (decide (z.2<4)) (0<=(N6.wrap ((8:Int)*z.2))/\aI e #[(.int .u8 (O5.wrap (dG .u32 n (N6.wrap ((8:Int)*z.2)))))] fx λp i=>ba ak N5 (Oa #[dQ,dQ] dQ #[z.1.v,(.slice (some p) 1 1)]) i λ(out:Sl) j=>next (out,N6.wrap (z.2+1)) j) (ba ak N5 (Oa #[dQ,dQ] dQ #[z.1.v,a.v]) e λ(d:Sl) k=>R (d,(0:Int)) k))
theorem Er.of:∀{kind b H R},Er.vc kind b H R->Er.sp kind b H R:=aU [(9,[(8,ak),(9,(ab .i64))])] (by kernel_rfl)
def GO.vc (d:Option Addr)(name:ByteArray)(page:Int)(b:Sl)(H:aa)(R:Kp Int):Prop:=
 AR.sp d name H λ(i:Int) H1=>ae d λa=>ld ay H1 (a.add 8) λ(x:Bool)=>br x (R (4:Int) H1) (br ((b.n:Int)!=512) (R (2:Int) H1) (br (decide (i<0)) (R (11:Int) H1) (ae d λw=>ld ak H1 (w.add 0) λ(h:Sl)=>ae h.a λy=>(0<=i/\i<(h.n:Int))/\c8 (bQ [aK,ak,ak]) 3 H1 (y.add (i.toNat*3)) λ(f:(ByteArray×Sl×Sl))=>DH.sp f.1 f.2.1 f.2.2 H1 λ(r:Sl) u=>cut Unit (λJ=>br ((decide (page<0))||(decide (page>(r.n:Int)))) (R (12:Int) u) (∃G:aa->Prop,G u/\br (page==(r.n:Int)) (Ij.sp d u λ(z:Int) A=>G A/\ae d λB=>dw (ab .i64) G (B.add 2) λ(C:Int)=>br (decide (z>=C)) (R (5:Int) A) (J () A)) (J () u))) λ(_:Unit) V=>EL.sp d V λ(e:Int) v=>br (e !=0) (R e v) (∃c:aa->Prop,c v/\ae d λD=>dw ak c (D.add 0) λ(j:Sl)=>ae d λE=>dw ak c (E.add 0) λ(k:Sl)=>ae k.a λF=>(0<=i/\i<(k.n:Int))/\dw ak c ((F.add (i.toNat*3)).add 2) λ(I:Sl)=>ae d λK=>ld (ab .i64) v (K.add 4) λ(L:Int)=>Lz c b.a b.n λ(str:ByteArray)=>aI v #[(.int .i64 L),(.int .i64 page),(.string str)] yP λp Q=>c Q/\ba ak N5 (Oa #[L8,L8] L8 #[I.v,(.slice (some p) 1 1)]) Q λ(s:Sl) S=>c S/\ae j.a λM=>(0<=i/\i<(j.n:Int))/\st S ((M.add (i.toNat*3)).add 2) s.v λT=>ae d λN=>ld (ab .i64) T (N.add 4) λ(O:Int)=>ae d λl=>st T (l.add 4) (.int .i64 (N6.wrap (O+1))) λU=>∃g:aa->Prop,g U/\ae d λm=>dw (ab .i64) g (m.add 1) λ(n:Int)=>Ij.sp d U λ(o:Int) q=>g q/\ae d λt=>st q (t.add 1) (.int .i64 (if o>n then o else n)) λP=>R (0:Int) P))))
theorem GO.of:∀{d name page b H R},GO.vc d name page b H R->GO.sp d name page b H R:=aU [(100013,[])] (by kernel_rfl)
def IX.vc (p:Option Addr)(i:Int)(H:aa)(R:Kp Unit):Prop:=
 ae p λa=>ld ak H (a.add 2) λ(x:Sl)=>(0<=i/\i<=(x.c:Int))/\ba ak N5 (Oa #[CA,CA] CA #[(.slice none 0 0),(.slice (cA x.a x.c 0 7) (i.toNat - 0) (x.c - 0))]) H λ(l:Sl) H1=>ae p λc=>ld ak H1 (c.add 2) λ(b:Sl)=>(0<=(N6.wrap (i+1))/\(N6.wrap (i+1))<=(b.n:Int))/\ba ak N5 (Oa #[CA,CA] CA #[l.v,(.slice (cA b.a b.c ((N6.wrap (i+1)).toNat) 7) (b.n - ((N6.wrap (i+1)).toNat)) (b.c - ((N6.wrap (i+1)).toNat)))]) H1 λ(d:Sl) f=>ae p λe=>st f (e.add 2) d.v λg=>R () g
theorem IX.of:∀{p i H R},IX.vc p i H R->IX.sp p i H R:=aU [] (by kernel_rfl)
def K5.vc (i base:Int)(H:aa)(R:Kp ByteArray):Prop:=
 br (base==10) (br ((decide ((0:Int)<=i))&&(decide (i<100))) (Lj.sp i H λ(r:ByteArray) H1=>R r H1) (aI H (zc N5 MD) MD λp h=>br (decide (i<0)) (MB.sp (OI.wrap (0 - (OI.wrap i))) h λ(b:Int) l=>(0<=(N6.wrap ((1:Int)+b))/\(N6.wrap ((1:Int)+b))<=24)/\(0<=(1:Int)/\(1:Int)<=(N6.wrap ((1:Int)+b)))/\MN.sp (Sl.mk (cA (some p) 24 ((1:Int).toNat) 1) (((N6.wrap ((1:Int)+b)).toNat) - ((1:Int).toNat)) (24 - ((1:Int).toNat))) (OI.wrap (0 - (OI.wrap i))) l λ(_:Unit) e=>br (decide (i<0)) ((0<=(0:Int)/\(0:Int)<((24:Nat):Int))/\st e (p.add ((0:Int).toNat*1)) (.int .u8 45) λj=>(0<=(N6.wrap ((1:Int)+b))/\(N6.wrap ((1:Int)+b))<=24)/\vM j (cA (some p) 24 0 1) (((N6.wrap ((1:Int)+b)).toNat) - 0) λ(str:ByteArray)=>R str j) ((0<=(N6.wrap ((1:Int)+b))/\(N6.wrap ((1:Int)+b))<=24)/\(0<=(1:Int)/\(1:Int)<=(N6.wrap ((1:Int)+b)))/\vM e (cA (some p) 24 ((1:Int).toNat) 1) (((N6.wrap ((1:Int)+b)).toNat) - ((1:Int).toNat)) λ(str_1:ByteArray)=>R str_1 e)) (MB.sp (OI.wrap i) h λ(a:Int) m=>(0<=(N6.wrap ((1:Int)+a))/\(N6.wrap ((1:Int)+a))<=24)/\(0<=(1:Int)/\(1:Int)<=(N6.wrap ((1:Int)+a)))/\MN.sp (Sl.mk (cA (some p) 24 ((1:Int).toNat) 1) (((N6.wrap ((1:Int)+a)).toNat) - ((1:Int).toNat)) (24 - ((1:Int).toNat))) (OI.wrap i) m λ(_:Unit) f=>br (decide (i<0)) ((0<=(0:Int)/\(0:Int)<((24:Nat):Int))/\st f (p.add ((0:Int).toNat*1)) (.int .u8 45) λk=>(0<=(N6.wrap ((1:Int)+a))/\(N6.wrap ((1:Int)+a))<=24)/\vM k (cA (some p) 24 0 1) (((N6.wrap ((1:Int)+a)).toNat) - 0) λ(c:ByteArray)=>R c k) ((0<=(N6.wrap ((1:Int)+a))/\(N6.wrap ((1:Int)+a))<=24)/\(0<=(1:Int)/\(1:Int)<=(N6.wrap ((1:Int)+a)))/\vM f (cA (some p) 24 ((1:Int).toNat) 1) (((N6.wrap ((1:Int)+a)).toNat) - ((1:Int).toNat)) λ(d:ByteArray)=>R d f)))) (MS.sp (Sl.mk none 0 0) (OI.wrap i) base (decide (i<0)) false H λ(g:(Sl×ByteArray)) n=>R g.2 n)
theorem K5.of:∀{i base H R},K5.vc i base H R->K5.sp i base H R:=aU [] (by kernel_rfl)
def Ja.vc (s:Sl)(H:aa)(R:Kp Int):Prop:=
 aw Int 0 H λnext z H1=>br (decide (z<(s.n:Int))) (ae s.a λa=>(0<=z/\z<(s.n:Int))/\ld av H1 (a.add (z.toNat*1)) λ(x:Option Addr)=>Eg.sp x H1 λ(r:Bool) b=>br r (R z b) (next (N6.wrap (z+1)) b)) (R (-1:Int) H1)
theorem Ja.of:∀{s H R},Ja.vc s H R->Ja.sp s H R:=aU [(2,[(8,(ab .i64))])] (by kernel_rfl)
def JN.vc (s:Sl)(cap:Addr)(H:aa)(R:Kp Int):Prop:=
 aw Int 0 H λnext z H1=>br (decide (z<(s.n:Int))) (ae s.a λa=>(0<=z/\z<(s.n:Int))/\ld av H1 (a.add (z.toNat*1)) λ(x:Option Addr)=>Dr.sp x cap H1 λ(r:Bool) b=>br r (R z b) (next (N6.wrap (z+1)) b)) (R (-1:Int) H1)
theorem JN.of:∀{s cap H R},JN.vc s cap H R->JN.sp s cap H R:=aU [(2,[(8,(ab .i64))])] (by kernel_rfl)
def Jk.vc (d:Option Addr)(name:ByteArray)(H:aa)(R:Kp Unit):Prop:=
 ae d λa=>ld bT H (a.add 0) λ(x:Option Nat)=>Dw (aR [av,ay]) N5 (Px yM (.map x) (.string name) true) H λ(b:(Option Addr×Bool))=>br b.2 (ae d λc=>ld (ab .i64) H (c.add 1) λ(e:Int)=>ae b.1 λf=>ld ak H (f.add 0) λ(g:Sl)=>ae d λh=>st H (h.add 1) (.int .i64 (N6.wrap (e - (g.n:Int)))) λH1=>ae d λi=>ld bT H1 (i.add 0) λ(j:Option Nat)=>ba gi N5 (PF #[yM,dI] Af #[(.map j),(.string name)]) H1 λ(_:Value) k=>R () k) (R () H)
theorem Jk.of:∀{d name H R},Jk.vc d name H R->Jk.sp d name H R:=aU [] (by kernel_rfl)
def JC.vc (p:Option Addr)(H:aa)(R:Kp (Option Addr)):Prop:=
 ae p λa=>ld bT H (a.add 2) λ(x:Option Nat)=>ba av N5 (P9 xO (.map x)) H λ(it:Option Addr) H1=>aw (Option Addr) none H1 λnext jS g=>ba fW N5 (P5 (.pointer it) false Af) g λ(h:Bool×List Value) d=>br h.1 (ba oH N5 (PM (.pointer it)) d λ(i:Value×Value) j=>HM av i.2 λ(f:Option Addr)=>Hv.sp f j λ(r:Bool) b=>br r (br jS.isNone (next f b) (Hj.sp f jS b λ(c:Bool) e=>br c (next f e) (next jS e))) (next jS b)) (R jS d)
theorem JC.of:∀{p H R},JC.vc p H R->JC.sp p H R:=aU [(3,[(7,av)])] (by kernel_rfl)
def Hv.vc (f:Option Addr)(H:aa)(R:Kp Bool):Prop:=
 ae f λa=>ld (ab .i64) H (a.add 5) λ(x:Int)=>R (x==0) H
theorem Hv.of:∀{f H R},Hv.vc f H R->Hv.sp f H R:=aU [] (by kernel_rfl)
def Hj.vc (a b:Option Addr)(H:aa)(R:Kp Bool):Prop:=
 ae a λc=>ld (ab .i64) H (c.add 6) λ(x:Int)=>ae b λd=>ld (ab .i64) H (d.add 6) λ(e:Int)=>R (decide (x<e)) H
theorem Hj.of:∀{a b H R},Hj.vc a b H R->Hj.sp a b H R:=aU [] (by kernel_rfl)
def HI.vc (b:Sl)(H:aa)(R:Kp Int):Prop:=
 aw (Int×Int) ((4294967295:Int),(0:Int)) H λnext z H1=>br (decide (z.2<(b.n:Int))) (ae b.a λa=>(0<=z.2/\z.2<(b.n:Int))/\ld (ab .u8) H1 (a.add (z.2.toNat*1)) λ(c:Int)=>(0<=(lJ .u32 (iP .u32 z.1 (PN.wrap c)) (15:Int))/\(lJ .u32 (iP .u32 z.1 (PN.wrap c)) (15:Int))<((16:Nat):Int))/\ld (ab .u32) H1 ((X8 0 0 none).add ((lJ .u32 (iP .u32 z.1 (PN.wrap c)) (15:Int)).toNat*1)) λ(x:Int)=>(0<=(lJ .u32 (iP .u32 (dG .u32 (iP .u32 z.1 (PN.wrap c)) (4:Int)) x) (15:Int))/\(lJ .u32 (iP .u32 (dG .u32 (iP .u32 z.1 (PN.wrap c)) (4:Int)) x) (15:Int))<((16:Nat):Int))/\ld (ab .u32) H1 ((X8 0 0 none).add ((lJ .u32 (iP .u32 (dG .u32 (iP .u32 z.1 (PN.wrap c)) (4:Int)) x) (15:Int)).toNat*1)) λ(d:Int)=>next (iP .u32 (dG .u32 (iP .u32 (dG .u32 (iP .u32 z.1 (PN.wrap c)) (4:Int)) x) (4:Int)) d,N6.wrap (z.2+1)) H1) (R (iP .u32 (4294967295:Int) z.1) H1)
theorem HI.of:∀{b H R},HI.vc b H R->HI.sp b H R:=aU [(3,[(3,(ab .u32)),(8,(ab .i64))])] (by kernel_rfl)
def JI.vc (s:Sl)(H:aa)(R:Kp Bool):Prop:=
 Ku.sp s H λ(r:Int) H1=>R (decide (r>=0)) H1
theorem JI.of:∀{s H R},JI.vc s H R->JI.sp s H R:=aU [] (by kernel_rfl)
def GK.vc (c:Int)(H:aa)(R:Kp Bool):Prop:=
 R (c !=0) H
theorem GK.of:∀{c H R},GK.vc c H R->GK.sp c H R:=aU [] (by kernel_rfl)
def Kk.vc (s:Sl)(seq:Value)(H:aa)(R:Kp Sl):Prop:=
 aI H #[s.v] Cf λp H1=>oO N5 seq H1 (λl rec vs b h=>iN (dg.dec [av] vs) λ(z:Option Addr)=>b[l]?=some (.loop (rec .ready none))/\ld ak (b.setIfInBounds l (.loop (rec .busy none))) p λ(x:Sl)=>aI (b.setIfInBounds l (.loop (rec .busy none))) #[(.pointer z)] tx λc j=>ba ak N5 (Oa #[Cf,Cf] Cf #[x.v,(.slice (some c) 1 1)]) j λ(d:Sl) k=>st k p d.v λg=>g[l]?=some (.loop (rec .busy none))/\h true (g.setIfInBounds l (.loop (rec .ready none)))) (λr a=>ld ak a p λ(e:Sl)=>a[r]?=some (.deferred (some []))/\R e (a.setIfInBounds r (.deferred none))) (λi r a=>bif OC i 0 then ld ak a p λ(f:Sl)=>a[r]?=some (.deferred (some []))/\R f (a.setIfInBounds r (.deferred none)) else False) (λr a=>a[r]?=some (.deferred (some []))/\R (Sl.mk none 0 0) (a.setIfInBounds r (.deferred none)))
theorem Kk.of:∀{s seq H R},Kk.vc s seq H R->Kk.sp s seq H R:=aU [(200003,[(7,av)])] (by kernel_rfl)
def Fs.vc (l:Nat)(cap:Addr)(H:aa)(R:Kp Unit):Prop:=
 ld bT H cap λ(x:Option Nat)=>ba av N5 (P9 xO (.map x)) H λ(it:Option Addr) H1=>aw Unit () H1 λnext _ d=>ba fW N5 (P5 (.pointer it) false Af) d λ(e:Bool×List Value) a=>br e.1 (ba oH N5 (PM (.pointer it)) a λ(f:Value×Value) g=>HM av f.2 λ(v:Option Addr)=>bZ N5 l #[(.pointer v)] g λ(b:Bool) c=>br (!b) (R () c) (next () c)) (R () a)
theorem Fs.of:∀{l cap H R},Fs.vc l cap H R->Fs.sp l cap H R:=aU [(1,[])] (by kernel_rfl)
def Ka.vc (d:Option Addr)(name:ByteArray)(H:aa)(R:Kp Int):Prop:=
 ae d λa=>ld ay H (a.add 8) λ(x:Bool)=>br x (R (4:Int) H) (AR.sp d name H λ(r:Int) H1=>br (decide (r<0)) (R (11:Int) H1) (EL.sp d H1 λ(e:Int) c=>br (e==0) (AR.sp d name c λ(b:Int) f=>Kd.sp d b f λ(_:Unit) g=>R e g) (R e c)))
theorem Ka.of:∀{d name H R},Ka.vc d name H R->Ka.sp d name H R:=aU [] (by kernel_rfl)
def Jc.vc (b:Sl)(H:aa)(R:Kp Int):Prop:=
 aw (Int×Int) ((4294967295:Int),(0:Int)) H λnext z H1=>br (decide (z.2<(b.n:Int))) (ae b.a λa=>(0<=z.2/\z.2<(b.n:Int))/\ld (ab .u8) H1 (a.add (z.2.toNat*1)) λ(x:Int)=>aw (Int×Int) (iP .u32 z.1 (PN.wrap x),(0:Int)) H1 λd c e=>br (decide (c.2<8)) (br ((lJ .u32 c.1 (1:Int))==1) (d (iP .u32 (dG .u32 c.1 (1:Int)) (3988292384:Int),N6.wrap (c.2+1)) e) (d (dG .u32 c.1 (1:Int),N6.wrap (c.2+1)) e)) (next (c.1,N6.wrap (z.2+1)) e)) (R (iP .u32 z.1 (4294967295:Int)) H1)
theorem Jc.of:∀{b H R},Jc.vc b H R->Jc.sp b H R:=aU [(3,[(3,(ab .u32)),(4,(ab .i64))]),(7,[(3,(ab .u32)),(5,(ab .i64))])] (by kernel_rfl)
def Ij.vc (d:Option Addr)(H:aa)(R:Kp Int):Prop:=
 aw (Int×Int) ((0:Int),(0:Int)) H λnext z H1=>ae d λa=>ld ak H1 (a.add 0) λ(x:Sl)=>br (decide (z.2<(x.n:Int))) (ae d λe=>ld ak H1 (e.add 0) λ(c:Sl)=>ae c.a λf=>(0<=z.2/\z.2<(c.n:Int))/\c8 (bQ [aK,ak,ak]) 3 H1 (f.add (z.2.toNat*3)) λ(b:(ByteArray×Sl×Sl))=>DH.sp b.1 b.2.1 b.2.2 H1 λ(r:Sl) g=>next (N6.wrap (z.1+(r.n:Int)),N6.wrap (z.2+1)) g) (R z.1 H1)
theorem Ij.of:∀{d H R},Ij.vc d H R->Ij.sp d H R:=aU [(3,[(3,(ab .i64)),(4,(ab .i64))])] (by kernel_rfl)
def Lj.vc (i:Int)(H:aa)(R:Kp ByteArray):Prop:=
 br (decide (i<10)) ((0<=(N6.wrap (i+1))/\(N6.wrap (i+1))<=(((Pe #[48,49,50,51,52,53,54,55,56,57,97,98,99,100,101,102,103,104,105,106,107,108,109,110,111,112,113,114,115,116,117,118,119,120,121,122]).size:Nat):Int))/\(0<=i/\i<=(N6.wrap (i+1)))/\R ((Pe #[48,49,50,51,52,53,54,55,56,57,97,98,99,100,101,102,103,104,105,106,107,108,109,110,111,112,113,114,115,116,117,118,119,120,121,122]).extract i.toNat ((N6.wrap (i+1)).toNat)) H) ((0<=(N6.wrap ((N6.wrap (i*2))+2))/\(N6.wrap ((N6.wrap (i*2))+2))<=(J3.size:Int))/\(0<=(N6.wrap (i*2))/\(N6.wrap (i*2))<=(N6.wrap ((N6.wrap (i*2))+2)))/\R (J3.extract ((N6.wrap (i*2)).toNat) ((N6.wrap ((N6.wrap (i*2))+2)).toNat)) H)
theorem Lj.of:∀{i H R},Lj.vc i H R->Lj.sp i H R:=aU [] (by kernel_rfl)
def Ku.vc (s:Sl)(H:aa)(R:Kp Int):Prop:=
 aw Int 0 H λnext z H1=>br (decide (z<(s.n:Int))) (ae s.a λa=>(0<=z/\z<(s.n:Int))/\ld (ab .u8) H1 (a.add (z.toNat*1)) λ(x:Int)=>GK.sp x H1 λ(r:Bool) b=>br r (R z b) (next (N6.wrap (z+1)) b)) (R (-1:Int) H1)
theorem Ku.of:∀{s H R},Ku.vc s H R->Ku.sp s H R:=aU [(2,[(8,(ab .i64))])] (by kernel_rfl)
def Kd.vc (d:Option Addr)(i:Int)(H:aa)(R:Kp Unit):Prop:=
 ae d λa=>ld ak H (a.add 0) λ(x:Sl)=>(0<=i/\i<=(x.c:Int))/\ba ak N5 (Oa #[C0,C0] C0 #[(.slice none 0 0),(.slice (cA x.a x.c 0 3) (i.toNat - 0) (x.c - 0))]) H λ(l:Sl) H1=>ae d λc=>ld ak H1 (c.add 0) λ(b:Sl)=>(0<=(N6.wrap (i+1))/\(N6.wrap (i+1))<=(b.n:Int))/\ba ak N5 (Oa #[C0,C0] C0 #[l.v,(.slice (cA b.a b.c ((N6.wrap (i+1)).toNat) 3) (b.n - ((N6.wrap (i+1)).toNat)) (b.c - ((N6.wrap (i+1)).toNat)))]) H1 λ(e:Sl) g=>ae d λf=>st g (f.add 0) e.v λh=>R () h
theorem Kd.of:∀{d i H R},Kd.vc d i H R->Kd.sp d i H R:=aU [] (by kernel_rfl)
end Go.Proofs.YtmkbhnholcaghaaGreatDoor
