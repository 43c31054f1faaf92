/-
 Written by wip/tools/gen.py: what the walk of each function asks, in plain form, and that it is enough.
-/
import Derived.Test.YtmkbhnholcaghaaGreatDoorFxf
import Derived.Test.YtmkbhnholcaghaaGreatDoorProg
import Derived.KernelRfl
open ByteArray renaming mk->O6,empty->Qk
open Go.Addr renaming mk->XT
open Go.Builtin renaming append_->N2,delete_->Px,clear_->Tg,copy_->UN
open Go.Instr renaming storeAt->Og,buildSlice->Pj,lookup->Pp,entry->PD,next->PU,range->PY,mapUpdate->P5,makeSlice->QO
open Go.IntKind renaming i64->NY,u64->OA,u8->OW,u32->PE
open Go.Proofs.Tryz renaming prog->NX
open Int renaming tdiv->OP,tmod->Pf
open Nat renaming beq->Ou
namespace Go.Proofs.YtmkbhnholcaghaaGreatDoor
set_option maxRecDepth 100000
theorem yY:NX.follows .mixedOrders=true:=by kernel_rfl
theorem EU:(NX.funcs.toList.all λfn=>!(fn.name=="runtime.NumGoroutine"))=true:=by kernel_rfl
theorem G2:lO NX:=by
 intro f fn a;have h1:=List.all_eq_true.1 EU fn (by
  have:=Array.getElem?_eq_some_iff.1 a;obtain⟨h,e⟩:=this;rw[<-e];simp)
 simpa using h1
theorem aU {c:eN}{f:FuncId}(A:AX){args:List Value}{H:aa}{R:c.α->aa->Prop}{V:Prop}(e:Lx c NX f A args H R=V)(h:V):ai c NX f args.toArray H R:=xZ G2 yY (A:=A) (Eq.mpr e h)
abbrev Kp (α:Type):=α->aa->Prop
@[reducible] def Aa:TypeId:=0
abbrev hZ:TypeId:=3
abbrev K9:TypeId:=4
abbrev fw:TypeId:=5
abbrev dH:TypeId:=9
abbrev dZ:TypeId:=22
abbrev K7:TypeId:=24
abbrev dS:TypeId:=30
abbrev gd:TypeId:=34
abbrev gR:TypeId:=44
abbrev DO:TypeId:=46
abbrev Dd:TypeId:=61
abbrev vQ:TypeId:=72
abbrev LX:TypeId:=75
abbrev L5:TypeId:=83
abbrev LB:TypeId:=85
abbrev Mm:TypeId:=86
abbrev jS:TypeId:=89
abbrev Cy:TypeId:=102
abbrev rv:TypeId:=104
abbrev yJ:TypeId:=106
abbrev CX:TypeId:=107
abbrev wL:TypeId:=109
abbrev dP:TypeId:=112
abbrev Ld:TypeId:=115
abbrev LZ:TypeId:=116
abbrev K2:TypeId:=122
abbrev Ip:TypeId:=126
abbrev yI:TypeId:=127
abbrev MB:TypeId:=129
abbrev xi:TypeId:=131
abbrev xK:TypeId:=132
abbrev LF:TypeId:=133
abbrev Ct:TypeId:=135
abbrev qU:TypeId:=140
abbrev GD:TypeId:=147
abbrev ME:TypeId:=149
abbrev L7:TypeId:=152
abbrev wK:TypeId:=169
abbrev tv:TypeId:=170
abbrev KA:TypeId:=172
abbrev tL:TypeId:=175
abbrev Il:TypeId:=176
abbrev Lj:TypeId:=177
abbrev CI:TypeId:=179
abbrev La:TypeId:=180
abbrev uy:TypeId:=181
abbrev qP:TypeId:=183
abbrev LW:TypeId:=189
abbrev tZ:TypeId:=191
abbrev yL:TypeId:=193
abbrev Lp:TypeId:=202
abbrev Fe:TypeId:=211
abbrev Cc:TypeId:=218
abbrev Mw:TypeId:=292
abbrev NM:TypeId:=311
@[reducible] def JM:ByteArray:=O6 #[48,48,48,49,48,50,48,51,48,52,48,53,48,54,48,55,48,56,48,57,49,48,49,49,49,50,49,51,49,52,49,53,49,54,49,55,49,56,49,57,50,48,50,49,50,50,50,51,50,52,50,53,50,54,50,55,50,56,50,57,51,48,51,49,51,50,51,51,51,52,51,53,51,54,51,55,51,56,51,57,52,48,52,49,52,50,52,51,52,52,52,53,52,54,52,55,52,56,52,57,53,48,53,49,53,50,53,51,53,52,53,53,53,54,53,55,53,56,53,57,54,48,54,49,54,50,54,51,54,52,54,53,54,54,54,55,54,56,54,57,55,48,55,49,55,50,55,51,55,52,55,53,55,54,55,55,55,56,55,57,56,48,56,49,56,50,56,51,56,52,56,53,56,54,56,55,56,56,56,57,57,48,57,49,57,50,57,51,57,52,57,53,57,54,57,55,57,56,57,57]
@[reducible] def MJ:ByteArray:=O6 #[115,116,114,99,111,110,118,58,32,105,108,108,101,103,97,108,32,65,112,112,101,110,100,73,110,116,47,70,111,114,109,97,116,73,110,116,32,98,97,115,101]
abbrev wN.no:FuncId:=17
abbrev DD.no:FuncId:=37
abbrev Gy.no:FuncId:=50
abbrev ES.no:FuncId:=96
abbrev EX.no:FuncId:=157
abbrev Fb.no:FuncId:=179
abbrev DB.no:FuncId:=186
abbrev Dy.no:FuncId:=188
abbrev Dx.no:FuncId:=201
abbrev I0.no:FuncId:=219
abbrev He.no:FuncId:=222
abbrev Hk.no:FuncId:=223
abbrev GU.no:FuncId:=226
abbrev Fk.no:FuncId:=228
abbrev KE.sp (f a b c d e:Int)(rows:Sl)(p:Int)(H:aa)(R:Kp Bool):=ai ay NX 5 #[(.agg #[(.int .i64 f),(.int .i64 a),(.int .i64 b),(.int .i64 c),(.int .i64 d),(.int .u64 e)]),rows.v,(.int .i64 p)] H R
abbrev CH.sp (s:Option Addr)(H:aa)(R:Kp (Int×Int)):=ai (aR [(ab .i64),(ab .i64)]) NX 8 #[(.pointer s)] H R
abbrev IG.sp (p:Option Addr)(name:ByteArray)(width frames:Int)(H:aa)(R:Kp (Option Addr×Int)):=ai (aR [av,(ab .i64)]) NX 9 #[(.pointer p),(.string name),(.int .i64 width),(.int .i64 frames)] H R
abbrev JP.sp (p:Option Addr)(names:Sl)(to:ByteArray)(width:Int)(H:aa)(R:Kp (Int×Int)):=ai (aR [(ab .i64),(ab .i64)]) NX 10 #[(.pointer p),names.v,(.string to),(.int .i64 width)] H R
abbrev xA.sp (s:Option Addr)(l:Sl)(H:aa)(R:Kp Int):=ai (ab .i64) NX 11 #[(.pointer s),l.v] H R
abbrev GG.sp (H:aa)(R:Kp Bool):=ai ay NX 12 #[] H R
abbrev Kl.sp (i n:Int)(H:aa)(R:Kp Int):=ai (ab .i64) NX 13 #[(.int .i64 i),(.int .i64 n)] H R
abbrev wN.sp (a b:Sl)(H:aa)(R:Kp Int):=ai (ab .i64) NX 17 #[a.v,b.v] H R
abbrev JA.sp (a b:Sl)(H:aa)(R:Kp Bool):=ai ay NX 19 #[a.v,b.v] H R
abbrev I7.sp (f a b c d e:Int)(H:aa)(R:Kp (Option Addr×Option Addr×Option Addr×Option Addr)):=ai (aR [av,av,av,av]) NX 20 #[(.agg #[(.int .i64 f),(.int .i64 a),(.int .i64 b),(.int .i64 c),(.int .i64 d),(.int .u64 e)])] H R
abbrev Kf.sp (p:Option Addr)(name:ByteArray)(width frames:Int)(H:aa)(R:Kp (Option Addr×Int)):=ai (aR [av,(ab .i64)]) NX 21 #[(.pointer p),(.string name),(.int .i64 width),(.int .i64 frames)] H R
abbrev GA.sp (d n p m:Option Addr)(H:aa)(R:Kp Bool):=ai ay NX 22 #[(.pointer d),(.pointer n),(.pointer p),(.pointer m)] H R
abbrev Hm.sp (l:Sl)(H:aa)(R:Kp Sl):=ai ak NX 23 #[l.v] H R
abbrev C7.sp (s:Option Addr)(l:Sl)(H:aa)(R:Kp Int):=ai (ab .i64) NX 24 #[(.pointer s),l.v] H R
abbrev GF.sp (a l:Sl)(H:aa)(R:Kp Bool):=ai ay NX 25 #[a.v,l.v] H R
abbrev Gz.sp (l:Sl)(H:aa)(R:Kp Unit):=ai (aR []) NX 26 #[l.v] H R
abbrev GX.sp (s t:Option Addr)(H:aa)(R:Kp Bool):=ai ay NX 27 #[(.pointer s),(.pointer t)] H R
abbrev G7.sp (p:Option Addr)(names:Sl)(to:ByteArray)(width:Int)(H:aa)(R:Kp (Int×Int)):=ai (aR [(ab .i64),(ab .i64)]) NX 28 #[(.pointer p),names.v,(.string to),(.int .i64 width)] H R
abbrev Hf.sp (quota:Int)(H:aa)(R:Kp (Option Addr)):=ai av NX 29 #[(.int .i64 quota)] H R
abbrev HS.sp (d:Option Addr)(frames:Int)(H:aa)(R:Kp (Option Addr×Int)):=ai (aR [av,(ab .i64)]) NX 30 #[(.pointer d),(.int .i64 frames)] H R
abbrev HE.sp (s:Option Addr)(H:aa)(R:Kp Int):=ai (ab .i64) NX 31 #[(.pointer s)] H R
abbrev JI.sp (s:Option Addr)(H:aa)(R:Kp (Int×Int)):=ai (aR [(ab .i64),(ab .i64)]) NX 32 #[(.pointer s)] H R
abbrev GL.sp (width:Int)(H:aa)(R:Kp Int):=ai (ab .i64) NX 33 #[(.int .i64 width)] H R
abbrev I9.sp (p:Option Addr)(H:aa)(R:Kp Int):=ai (ab .i64) NX 34 #[(.pointer p)] H R
abbrev Kg.sp (p:Option Addr)(names:Sl)(width:Int)(H:aa)(R:Kp (Sl×Int)):=ai (aR [ak,(ab .i64)]) NX 35 #[(.pointer p),names.v,(.int .i64 width)] H R
abbrev GN.sp (p:Option Addr)(name:ByteArray)(width:Int)(H:aa)(R:Kp (Option Addr×Int)):=ai (aR [av,(ab .i64)]) NX 36 #[(.pointer p),(.string name),(.int .i64 width)] H R
abbrev DD.sp (e:Int)(a:Sl)(b:Option Addr)(f:Int)(c:Sl)(d:Option Addr)(H:aa)(R:Kp Bool):=ai ay NX 37 #[(.agg #[(.int .i64 e),a.v,(.pointer b)]),(.agg #[(.int .i64 f),c.v,(.pointer d)])] H R
abbrev Gx.sp (h:Option Addr)(c:Int)(a:Sl)(b:Option Addr)(H:aa)(R:Kp Int):=ai (ab .i64) NX 38 #[(.pointer h),(.agg #[(.int .i64 c),a.v,(.pointer b)])] H R
abbrev IQ.sp (h:Option Addr)(H:aa)(R:Kp (Int×Sl×Option Addr)):=ai (bQ [(ab .i64),ak,av]) NX 39 #[(.pointer h)] H R
abbrev yM.sp (w:Option Addr)(l:Sl)(H:aa)(R:Kp Int):=ai (ab .i64) NX 40 #[(.pointer w),l.v] H R
abbrev Hv.sp (r:Option Addr)(H:aa)(R:Kp Unit):=ai (aR []) NX 41 #[(.pointer r)] H R
abbrev Fu.sp (w:Option Addr)(H:aa)(R:Kp (Int×Int)):=ai (aR [(ab .i64),(ab .i64)]) NX 42 #[(.pointer w)] H R
abbrev GY.sp (s:Sl)(H:aa)(R:Kp Sl):=ai ak NX 43 #[s.v] H R
abbrev E6.sp (s:Option Addr)(H:aa)(R:Kp Int):=ai (ab .i64) NX 44 #[(.pointer s)] H R
abbrev Iv.sp (p:Option Addr)(name:ByteArray)(width:Int)(H:aa)(R:Kp (Option Addr×Int)):=ai (aR [av,(ab .i64)]) NX 45 #[(.pointer p),(.string name),(.int .i64 width)] H R
abbrev E0.sp (r:Option Addr)(H:aa)(R:Kp (Sl×Bool×Int)):=ai (aR [ak,ay,(ab .i64)]) NX 46 #[(.pointer r)] H R
abbrev ID.sp (d:Option Addr)(H:aa)(R:Kp Sl):=ai ak NX 47 #[(.pointer d)] H R
abbrev I3.sp (p:Option Addr)(H:aa)(R:Kp Int):=ai (ab .i64) NX 48 #[(.pointer p)] H R
abbrev KZ.sp (s1 s2:Sl)(H:aa)(R:Kp Int):=ai (ab .i64) NX 49 #[s1.v,s2.v,(.func (.func Gy.no) #[] #[])] H R
abbrev Gy.sp (x y:Int)(H:aa)(R:Kp Int):=ai (ab .i64) NX 50 #[(.int .u64 x),(.int .u64 y)] H R
abbrev J3.sp (quota:Int)(H:aa)(R:Kp (Option Addr)):=ai av NX 51 #[(.int .i64 quota)] H R
abbrev JE.sp (d:Option Addr)(p keep:Int)(H:aa)(R:Kp Unit):=ai (aR []) NX 52 #[(.pointer d),(.int .i64 p),(.int .u64 keep)] H R
abbrev Jk.sp (d:Option Addr)(p keep:Int)(H:aa)(R:Kp Unit):=ai (aR []) NX 53 #[(.pointer d),(.int .i64 p),(.int .u64 keep)] H R
abbrev JW.sp (d:Option Addr)(frames:Int)(H:aa)(R:Kp (Option Addr×Int)):=ai (aR [av,(ab .i64)]) NX 54 #[(.pointer d),(.int .i64 frames)] H R
abbrev A9.sp (width:Int)(H:aa)(R:Kp Int):=ai (ab .i64) NX 55 #[(.int .i64 width)] H R
abbrev JS.sp (d:Option Addr)(H:aa)(R:Kp Int):=ai (ab .i64) NX 56 #[(.pointer d)] H R
abbrev JR.sp (d:Option Addr)(H:aa)(R:Kp Bool):=ai ay NX 57 #[(.pointer d)] H R
abbrev JY.sp (d:Option Addr)(H:aa)(R:Kp Int):=ai (ab .i64) NX 58 #[(.pointer d)] H R
abbrev Kd.sp (p:Option Addr)(H:aa)(R:Kp Int):=ai (ab .i64) NX 59 #[(.pointer p)] H R
abbrev Jd.sp (p:Option Addr)(H:aa)(R:Kp Int):=ai (ab .i64) NX 60 #[(.pointer p)] H R
abbrev Ji.sp (d:Option Addr)(H:aa)(R:Kp Unit):=ai (aR []) NX 61 #[(.pointer d)] H R
abbrev Ke.sp (d:Option Addr)(H:aa)(R:Kp Unit):=ai (aR []) NX 62 #[(.pointer d)] H R
abbrev Jf.sp (a b:Sl)(H:aa)(R:Kp Bool):=ai ay NX 63 #[a.v,b.v] H R
abbrev J9.sp (d:Option Addr)(H:aa)(R:Kp Sl):=ai ak NX 64 #[(.pointer d)] H R
abbrev BW.sp (d:Option Addr)(name:ByteArray)(H:aa)(R:Kp (Int×Int)):=ai (aR [(ab .i64),(ab .i64)]) NX 65 #[(.pointer d),(.string name)] H R
abbrev G4.sp (d:Option Addr)(name:ByteArray)(page:Int)(H:aa)(R:Kp (Sl×Int)):=ai (aR [ak,(ab .i64)]) NX 66 #[(.pointer d),(.string name),(.int .i64 page)] H R
abbrev Cf.sp (d:Option Addr)(name:ByteArray)(page:Int)(H:aa)(R:Kp (Sl×Int)):=ai (aR [ak,(ab .i64)]) NX 67 #[(.pointer d),(.string name),(.int .i64 page)] H R
abbrev Iu.sp (s:Option Addr)(H:aa)(R:Kp Int):=ai (ab .i64) NX 68 #[(.pointer s)] H R
abbrev Gq.sp (s:Option Addr)(H:aa)(R:Kp Int):=ai (ab .i64) NX 69 #[(.pointer s)] H R
abbrev Du.sp (s:Option Addr)(H:aa)(R:Kp (Int×Int)):=ai (aR [(ab .i64),(ab .i64)]) NX 70 #[(.pointer s)] H R
abbrev Hy.sp (p:Option Addr)(name:ByteArray)(width:Int)(H:aa)(R:Kp (Option Addr×Int)):=ai (aR [av,(ab .i64)]) NX 71 #[(.pointer p),(.string name),(.int .i64 width)] H R
abbrev IY.sp (p:Option Addr)(name:ByteArray)(width:Int)(H:aa)(R:Kp (Option Addr×Int)):=ai (aR [av,(ab .i64)]) NX 72 #[(.pointer p),(.string name),(.int .i64 width)] H R
abbrev Ck.sp (r:Option Addr)(H:aa)(R:Kp (Sl×Bool×Int)):=ai (aR [ak,ay,(ab .i64)]) NX 73 #[(.pointer r)] H R
abbrev zp.sp (a b:Sl)(H:aa)(R:Kp Int):=ai (ab .i64) NX 74 #[a.v,b.v] H R
abbrev Gw.sp (w:Option Addr)(H:aa)(R:Kp (Int×Int)):=ai (aR [(ab .i64),(ab .i64)]) NX 75 #[(.pointer w)] H R
abbrev Be.sp (w:Option Addr)(l:Sl)(H:aa)(R:Kp Int):=ai (ab .i64) NX 76 #[(.pointer w),l.v] H R
abbrev I2.sp (s:Option Addr)(H:aa)(R:Kp ByteArray):=ai aK NX 77 #[(.pointer s)] H R
abbrev IU.sp (s:Option Addr)(k:Int)(to:ByteArray)(H:aa)(R:Kp (Int×Int)):=ai (aR [(ab .i64),(ab .i64)]) NX 78 #[(.pointer s),(.int .i64 k),(.string to)] H R
abbrev Jz.sp (s:Sl)(H:aa)(R:Kp Sl):=ai ak NX 79 #[s.v] H R
abbrev HQ.sp (width:Int)(H:aa)(R:Kp Int):=ai (ab .i64) NX 80 #[(.int .i64 width)] H R
abbrev Ha.sp (p:Option Addr)(name:ByteArray)(width:Int)(H:aa)(R:Kp ((Option Addr×ByteArray×Int×Int×Int×Bool)×Int)):=ai (aR [(bQ [av,aK,(ab .i64),(ab .i64),(ab .i64),ay]),(ab .i64)]) NX 81 #[(.pointer p),(.string name),(.int .i64 width)] H R
abbrev Hu.sp (p:Option Addr)(H:aa)(R:Kp (Option Addr)):=ai av NX 82 #[(.pointer p)] H R
abbrev Jg.sp (d:Option Addr)(name:ByteArray)(H:aa)(R:Kp Int):=ai (ab .i64) NX 83 #[(.pointer d),(.string name)] H R
abbrev GR.sp (b:Option Addr)(kind:Int)(p:Sl)(H:aa)(R:Kp Int):=ai (ab .i64) NX 84 #[(.pointer b),(.int .u8 kind),p.v] H R
abbrev Ju.sp (h:Option Addr)(c:Int)(a:Sl)(b:Option Addr)(H:aa)(R:Kp Unit):=ai (aR []) NX 85 #[(.pointer h),(.agg #[(.int .i64 c),a.v,(.pointer b)])] H R
abbrev Gv.sp (b:Option Addr)(H:aa)(R:Kp Int):=ai (ab .i64) NX 86 #[(.pointer b)] H R
abbrev zk.sp (l:Sl)(H:aa)(R:Kp Sl):=ai ak NX 87 #[l.v] H R
abbrev HU.sp (w:Option Addr)(H:aa)(R:Kp Int):=ai (ab .i64) NX 88 #[(.pointer w)] H R
abbrev GK.sp (p:Option Addr)(name:ByteArray)(page:Int)(H:aa)(R:Kp (Int×Int)):=ai (aR [(ab .i64),(ab .i64)]) NX 89 #[(.pointer p),(.string name),(.int .i64 page)] H R
abbrev Ae.sp (p:Option Addr)(h kind:Int)(b:Sl)(H:aa)(R:Kp Int):=ai (ab .i64) NX 90 #[(.pointer p),(.int .i64 h),(.int .u8 kind),b.v] H R
abbrev Ds.sp (p:Option Addr)(h:Int)(H:aa)(R:Kp Int):=ai (ab .i64) NX 91 #[(.pointer p),(.int .i64 h)] H R
abbrev II.sp (p:Option Addr)(name:ByteArray)(H:aa)(R:Kp Int):=ai (ab .i64) NX 92 #[(.pointer p),(.string name)] H R
abbrev By.sp (b:Option Addr)(e:Int)(H:aa)(R:Kp Int):=ai (ab .i64) NX 93 #[(.pointer b),(.int .i64 e)] H R
abbrev MC.sp (x:Sl)(cmp:Value)(H:aa)(R:Kp Unit):=ai (aR []) NX 94 #[x.v,cmp] H R
abbrev Jv.sp (s:Sl)(H:aa)(R:Kp Sl):=ai ak NX 95 #[s.v,(.func (.func ES.no) #[] #[])] H R
abbrev ES.sp (a b:Sl)(H:aa)(R:Kp Bool):=ai ay NX 96 #[a.v,b.v] H R
abbrev Hh.sp (b:Option Addr)(page:Int)(H:aa)(R:Kp (Int×Sl×Int)):=ai (aR [(ab .u8),ak,(ab .i64)]) NX 97 #[(.pointer b),(.int .i64 page)] H R
abbrev DA.sp (d:Option Addr)(name:ByteArray)(H:aa)(R:Kp (Int×Int)):=ai (aR [(ab .i64),(ab .i64)]) NX 98 #[(.pointer d),(.string name)] H R
abbrev GQ.sp (b:Sl)(width:Int)(H:aa)(R:Kp (Sl×Int)):=ai (aR [ak,(ab .i64)]) NX 99 #[b.v,(.int .i64 width)] H R
abbrev Jp.sp (b:Option Addr)(n:Int)(H:aa)(R:Kp Int):=ai (ab .i64) NX 100 #[(.pointer b),(.int .i64 n)] H R
abbrev J4.sp (r:Option Addr)(k:Int)(H:aa)(R:Kp Int):=ai (ab .i64) NX 101 #[(.pointer r),(.int .i64 k)] H R
abbrev Dn.sp (d:Option Addr)(H:aa)(R:Kp Int):=ai (ab .i64) NX 102 #[(.pointer d)] H R
abbrev Kw.sp (seq:Value)(H:aa)(R:Kp Sl):=ai ak NX 103 #[seq] H R
abbrev K8.sp (m:Option Nat)(H:aa)(R:Kp Value):=ai gh NX 104 #[(.map m)] H R
abbrev Ht.sp (x:Int)(H:aa)(R:Kp Bool):=ai ay NX 105 #[(.int .u64 x)] H R
abbrev HT.sp (width:Int)(H:aa)(R:Kp Int):=ai (ab .i64) NX 106 #[(.int .i64 width)] H R
abbrev MA.sp (x:Sl)(H:aa)(R:Kp Unit):=ai (aR []) NX 107 #[x.v] H R
abbrev Dp.sp (s:Sl)(H:aa)(R:Kp Sl):=ai ak NX 108 #[s.v] H R
abbrev IB.sp (x:Sl)(target:Int)(H:aa)(R:Kp (Int×Bool)):=ai (aR [(ab .i64),ay]) NX 109 #[x.v,(.int .i64 target)] H R
abbrev GC.sp (l:Sl)(page:Int)(b:Array Value)(H:aa)(R:Kp Sl):=ai ak NX 110 #[l.v,(.int .i64 page),(.agg b)] H R
abbrev JX.sp (d:Option Addr)(no:Int)(H:aa)(R:Kp Int):=ai (ab .i64) NX 111 #[(.pointer d),(.int .i64 no)] H R
abbrev IT.sp (l:Sl)(c a:Int)(b:ByteArray)(H:aa)(R:Kp Sl):=ai ak NX 112 #[l.v,(.agg #[(.int .i64 c),(.int .i64 a),(.string b)])] H R
abbrev Bp.sp (d:Option Addr)(name:ByteArray)(H:aa)(R:Kp Int):=ai (ab .i64) NX 113 #[(.pointer d),(.string name)] H R
abbrev Dw.sp (c:ByteArray)(a b:Sl)(H:aa)(R:Kp Sl):=ai ak NX 114 #[(.agg #[(.string c),a.v,b.v])] H R
abbrev Dq.sp (d:Option Addr)(name:ByteArray)(H:aa)(R:Kp (Option Addr×Int)):=ai (aR [av,(ab .i64)]) NX 115 #[(.pointer d),(.string name)] H R
abbrev Dz.sp (s:Sl)(H:aa)(R:Kp Sl):=ai ak NX 116 #[s.v] H R
abbrev Iy.sp (s:Option Addr)(H:aa)(R:Kp ByteArray):=ai aK NX 117 #[(.pointer s)] H R
abbrev Jc.sp (p:Option Addr)(name:ByteArray)(width:Int)(rows:Sl)(H:aa)(R:Kp Int):=ai (ab .i64) NX 118 #[(.pointer p),(.string name),(.int .i64 width),rows.v] H R
abbrev JL.sp (rows:Sl)(H:aa)(R:Kp Sl):=ai ak NX 119 #[rows.v] H R
abbrev JF.sp (s:Option Addr)(H:aa)(R:Kp (Int×Int)):=ai (aR [(ab .i64),(ab .i64)]) NX 120 #[(.pointer s)] H R
abbrev HG.sp (b:Option Addr)(page:Int)(H:aa)(R:Kp (Int×Sl×Int)):=ai (aR [(ab .u8),ak,(ab .i64)]) NX 121 #[(.pointer b),(.int .i64 page)] H R
abbrev Ig.sp (b:Sl)(width:Int)(H:aa)(R:Kp (Sl×Int)):=ai (aR [ak,(ab .i64)]) NX 122 #[b.v,(.int .i64 width)] H R
abbrev JT.sp (n room:Int)(H:aa)(R:Kp Int):=ai (ab .i64) NX 123 #[(.int .i64 n),(.int .i64 room)] H R
abbrev Jn.sp (d:Option Addr)(name:ByteArray)(H:aa)(R:Kp Int):=ai (ab .i64) NX 124 #[(.pointer d),(.string name)] H R
abbrev Hr.sp (b:Option Addr)(kind:Int)(p:Sl)(H:aa)(R:Kp Int):=ai (ab .i64) NX 125 #[(.pointer b),(.int .u8 kind),p.v] H R
abbrev Gu.sp (b:Option Addr)(H:aa)(R:Kp Int):=ai (ab .i64) NX 126 #[(.pointer b)] H R
abbrev JN.sp (r:Option Addr)(k:Int)(H:aa)(R:Kp Int):=ai (ab .i64) NX 127 #[(.pointer r),(.int .i64 k)] H R
abbrev IH.sp (w:Option Addr)(H:aa)(R:Kp Int):=ai (ab .i64) NX 128 #[(.pointer w)] H R
abbrev IZ.sp (p:Option Addr)(name:ByteArray)(page:Int)(H:aa)(R:Kp (Int×Int)):=ai (aR [(ab .i64),(ab .i64)]) NX 129 #[(.pointer p),(.string name),(.int .i64 page)] H R
abbrev G5.sp (p:Option Addr)(h kind:Int)(b:Sl)(H:aa)(R:Kp Int):=ai (ab .i64) NX 130 #[(.pointer p),(.int .i64 h),(.int .u8 kind),b.v] H R
abbrev I5.sp (width rows:Int)(H:aa)(R:Kp Sl):=ai ak NX 131 #[(.int .i64 width),(.int .i64 rows)] H R
abbrev Fm.sp (p:Option Addr)(h:Int)(H:aa)(R:Kp Int):=ai (ab .i64) NX 132 #[(.pointer p),(.int .i64 h)] H R
abbrev JK.sp (p:Option Addr)(name:ByteArray)(H:aa)(R:Kp Int):=ai (ab .i64) NX 133 #[(.pointer p),(.string name)] H R
abbrev Co.sp (b:Option Addr)(e:Int)(H:aa)(R:Kp Int):=ai (ab .i64) NX 134 #[(.pointer b),(.int .i64 e)] H R
abbrev Ix.sp (l:Sl)(H:aa)(R:Kp Sl):=ai ak NX 135 #[l.v] H R
abbrev J0.sp (i:Int)(H:aa)(R:Kp ByteArray):=ai aK NX 136 #[(.int .i64 i)] H R
abbrev Jr.sp (p:Option Addr)(name:ByteArray)(H:aa)(R:Kp Int):=ai (ab .i64) NX 137 #[(.pointer p),(.string name)] H R
abbrev Ij.sp (s:ByteArray)(H:aa)(R:Kp Bool):=ai ay NX 138 #[(.string s)] H R
abbrev DC.sp (d:Option Addr)(H:aa)(R:Kp Int):=ai (ab .i64) NX 139 #[(.pointer d)] H R
abbrev Jb.sp (p:Option Addr)(name:ByteArray)(H:aa)(R:Kp (Int×Int×Int)):=ai (aR [(ab .i64),(ab .i64),(ab .i64)]) NX 140 #[(.pointer p),(.string name)] H R
abbrev JZ.sp (b:Array Value)(n:Int)(H:aa)(R:Kp (Array Value)):=ai jO NX 141 #[(.agg b),(.int .u64 n)] H R
abbrev DE.sp (p:Option Addr)(H:aa)(R:Kp Int):=ai (ab .i64) NX 142 #[(.pointer p)] H R
abbrev ED.sp (p f:Option Addr)(H:aa)(R:Kp Int):=ai (ab .i64) NX 143 #[(.pointer p),(.pointer f)] H R
abbrev I6.sp (p:Option Addr)(at_:ByteArray)(a:Int)(H:aa)(R:Kp (Option Addr×Int)):=ai (aR [av,(ab .i64)]) NX 144 #[(.pointer p),(.agg #[(.string at_),(.int .i64 a)])] H R
abbrev uk.sp (p:Option Addr)(e:Int)(H:aa)(R:Kp Int):=ai (ab .i64) NX 145 #[(.pointer p),(.int .i64 e)] H R
abbrev BN.sp (p f:Option Addr)(H:aa)(R:Kp Int):=ai (ab .i64) NX 146 #[(.pointer p),(.pointer f)] H R
abbrev GM.sp (p:Option Addr)(h:Int)(H:aa)(R:Kp (Option Addr×Int)):=ai (aR [av,(ab .i64)]) NX 147 #[(.pointer p),(.int .i64 h)] H R
abbrev HD.sp (p:Option Addr)(name:ByteArray)(H:aa)(R:Kp Sl):=ai ak NX 148 #[(.pointer p),(.string name)] H R
abbrev Dt.sp (p f:Option Addr)(H:aa)(R:Kp Int):=ai (ab .i64) NX 149 #[(.pointer p),(.pointer f)] H R
abbrev Jy.sp (d:Option Addr)(name:ByteArray)(H:aa)(R:Kp Int):=ai (ab .i64) NX 150 #[(.pointer d),(.string name)] H R
abbrev NO.sp (data:Sl)(a b c:Int)(cmp:Value)(H:aa)(R:Kp Unit):=ai (aR []) NX 151 #[data.v,(.int .i64 a),(.int .i64 b),(.int .i64 c),cmp] H R
abbrev NP.sp (x:Int)(H:aa)(R:Kp Int):=ai (ab .i64) NX 152 #[(.int .u64 x)] H R
abbrev JO.sp (p:Option Addr)(h:Int)(H:aa)(R:Kp (Int×Sl×Int)):=ai (aR [(ab .u8),ak,(ab .i64)]) NX 153 #[(.pointer p),(.int .i64 h)] H R
abbrev Jq.sp (s:Sl)(n:Int)(H:aa)(R:Kp Value):=ai gh NX 154 #[s.v,(.int .i64 n)] H R
abbrev Ko.sp (seq:Value)(H:aa)(R:Kp Sl):=ai ak NX 155 #[seq] H R
abbrev Mx.sp (x:Sl)(H:aa)(R:Kp Unit):=ai (aR []) NX 156 #[x.v] H R
abbrev EX.sp (l:Nat)(cap:Addr)(H:aa)(R:Kp Unit):=ai (aR []) NX 157 #[(.func (.yield l) #[] #[]),(.pointer (some cap))] H R
abbrev NH.sp (data:Sl)(a b c:Int)(H:aa)(R:Kp Unit):=ai (aR []) NX 158 #[data.v,(.int .i64 a),(.int .i64 b),(.int .i64 c)] H R
abbrev Kj.sp (x y:Int)(H:aa)(R:Kp Bool):=ai ay NX 159 #[(.int .i64 x),(.int .i64 y)] H R
abbrev HH.sp (x:Int)(H:aa)(R:Kp Bool):=ai ay NX 160 #[(.int .i64 x)] H R
abbrev DP.sp (n:Int)(H:aa)(R:Kp ByteArray):=ai aK NX 161 #[(.int .i64 n)] H R
abbrev Kh.sp (l x:Sl)(H:aa)(R:Kp Sl):=ai ak NX 162 #[l.v,x.v] H R
abbrev Hg.sp (s:Option Addr)(names:Sl)(H:aa)(R:Kp Int):=ai (ab .i64) NX 163 #[(.pointer s),names.v] H R
abbrev J2.sp (p:Option Addr)(h:Int)(H:aa)(R:Kp (Int×Sl×Int)):=ai (aR [(ab .u8),ak,(ab .i64)]) NX 164 #[(.pointer p),(.int .i64 h)] H R
abbrev Jw.sp (s:ByteArray)(H:aa)(R:Kp Bool):=ai ay NX 165 #[(.string s)] H R
abbrev Fa.sp (d:Option Addr)(H:aa)(R:Kp Int):=ai (ab .i64) NX 166 #[(.pointer d)] H R
abbrev I4.sp (p:Option Addr)(name:ByteArray)(H:aa)(R:Kp (Int×Int×Int)):=ai (aR [(ab .i64),(ab .i64),(ab .i64)]) NX 167 #[(.pointer p),(.string name)] H R
abbrev Ic.sp (p:Option Addr)(name:ByteArray)(page:Int)(H:aa)(R:Kp Int):=ai (ab .i64) NX 168 #[(.pointer p),(.string name),(.int .i64 page)] H R
abbrev GJ.sp (p:Option Addr)(i:Int)(H:aa)(R:Kp Int):=ai (ab .i64) NX 169 #[(.pointer p),(.int .i64 i)] H R
abbrev GV.sp (p:Option Addr)(H:aa)(R:Kp Int):=ai (ab .i64) NX 170 #[(.pointer p)] H R
abbrev nt.sp (p:Option Addr)(e:Int)(H:aa)(R:Kp Int):=ai (ab .i64) NX 171 #[(.pointer p),(.int .i64 e)] H R
abbrev Ej.sp (b:Sl)(H:aa)(R:Kp (Int×Sl×Int)):=ai (aR [(ab .u8),ak,(ab .i64)]) NX 172 #[b.v] H R
abbrev BQ.sp (p:Option Addr)(g:ByteArray)(a b:Int)(c:ByteArray)(d:Bool)(e:Sl)(f:Int)(H:aa)(R:Kp Int):=ai (ab .i64) NX 173 #[(.pointer p),(.agg #[(.string g),(.int .i64 a),(.int .u8 b),(.string c),(.bool d),e.v,(.int .i64 f)])] H R
abbrev GI.sp (p:Option Addr)(h:Int)(H:aa)(R:Kp Int):=ai (ab .i64) NX 174 #[(.pointer p),(.int .i64 h)] H R
abbrev Ii.sp (p:Option Addr)(i:Int)(H:aa)(R:Kp Int):=ai (ab .i64) NX 175 #[(.pointer p),(.int .i64 i)] H R
abbrev JB.sp (d:Option Addr)(name:ByteArray)(H:aa)(R:Kp Int):=ai (ab .i64) NX 176 #[(.pointer d),(.string name)] H R
abbrev Ku.sp (i:Int)(H:aa)(R:Kp ByteArray):=ai aK NX 177 #[(.int .i64 i)] H R
abbrev J5.sp (s:Sl)(H:aa)(R:Kp Bool):=ai ay NX 178 #[s.v,(.func (.func Fb.no) #[] #[])] H R
abbrev Fb.sp (f:Option Addr)(H:aa)(R:Kp Bool):=ai ay NX 179 #[(.pointer f)] H R
abbrev JD.sp (d:Option Addr)(name:ByteArray)(H:aa)(R:Kp Int):=ai (ab .i64) NX 180 #[(.pointer d),(.string name)] H R
abbrev Hd.sp (p:Option Addr)(H:aa)(R:Kp Int):=ai (ab .i64) NX 181 #[(.pointer p)] H R
abbrev JQ.sp (b:Sl)(H:aa)(R:Kp (Int×Sl×Int)):=ai (aR [(ab .u8),ak,(ab .i64)]) NX 182 #[b.v] H R
abbrev JC.sp (s:Sl)(cap:Addr)(H:aa)(R:Kp Sl):=ai ak NX 183 #[s.v,(.func (.func DB.no) #[] #[(.pointer (some cap))])] H R
abbrev KW.sp (seq:Value)(H:aa)(R:Kp Sl):=ai ak NX 184 #[seq] H R
abbrev Kq.sp (m:Option Nat)(H:aa)(R:Kp Value):=ai gh NX 185 #[(.map m)] H R
abbrev DB.sp (f:Option Addr)(cap:Addr)(H:aa)(R:Kp Bool):=ai ay NX 186 #[(.pointer f),(.pointer (some cap))] H R
abbrev MN.sp (x:Sl)(cmp:Value)(H:aa)(R:Kp Unit):=ai (aR []) NX 187 #[x.v,cmp] H R
abbrev Dy.sp (a b:Option Addr)(H:aa)(R:Kp Int):=ai (ab .i64) NX 188 #[(.pointer a),(.pointer b)] H R
abbrev J1.sp (kind:Int)(b:Sl)(H:aa)(R:Kp (Sl×Int)):=ai (aR [ak,(ab .i64)]) NX 189 #[(.int .u8 kind),b.v] H R
abbrev JU.sp (d:Option Addr)(name:ByteArray)(page:Int)(b:Sl)(H:aa)(R:Kp Int):=ai (ab .i64) NX 190 #[(.pointer d),(.string name),(.int .i64 page),b.v] H R
abbrev M5.sp (data:Sl)(a b:Int)(cmp:Value)(H:aa)(R:Kp Unit):=ai (aR []) NX 191 #[data.v,(.int .i64 a),(.int .i64 b),cmp] H R
abbrev NJ.sp (data:Sl)(a b:Int)(cmp:Value)(H:aa)(R:Kp Unit):=ai (aR []) NX 192 #[data.v,(.int .i64 a),(.int .i64 b),cmp] H R
abbrev MU.sp (data:Sl)(a b:Int)(cmp:Value)(H:aa)(R:Kp Unit):=ai (aR []) NX 193 #[data.v,(.int .i64 a),(.int .i64 b),cmp] H R
abbrev MZ.sp (data:Sl)(a b:Int)(cmp:Value)(H:aa)(R:Kp (Int×Int)):=ai (aR [(ab .i64),(ab .i64)]) NX 194 #[data.v,(.int .i64 a),(.int .i64 b),cmp] H R
abbrev NU.sp (data:Sl)(a b:Int)(cmp:Value)(H:aa)(R:Kp Unit):=ai (aR []) NX 195 #[data.v,(.int .i64 a),(.int .i64 b),cmp] H R
abbrev M0.sp (data:Sl)(a b:Int)(cmp:Value)(H:aa)(R:Kp Bool):=ai ay NX 196 #[data.v,(.int .i64 a),(.int .i64 b),cmp] H R
abbrev Np.sp (data:Sl)(a b pivot:Int)(cmp:Value)(H:aa)(R:Kp Int):=ai (ab .i64) NX 197 #[data.v,(.int .i64 a),(.int .i64 b),(.int .i64 pivot),cmp] H R
abbrev NS.sp (data:Sl)(a b pivot:Int)(cmp:Value)(H:aa)(R:Kp (Int×Bool)):=ai (aR [(ab .i64),ay]) NX 198 #[data.v,(.int .i64 a),(.int .i64 b),(.int .i64 pivot),cmp] H R
abbrev Nr.sp (x:Int)(H:aa)(R:Kp Int):=ai (ab .i64) NX 199 #[(.int .u32 x)] H R
abbrev Ny.sp (x:Int)(H:aa)(R:Kp Int):=ai (ab .i64) NX 200 #[(.int .u64 x)] H R
abbrev Dx.sp (l:Nat)(cap a:Addr)(H:aa)(R:Kp Unit):=ai (aR []) NX 201 #[(.func (.yield l) #[] #[]),(.pointer (some cap)),(.pointer (some a))] H R
abbrev Js.sp (s:Sl)(seq:Value)(H:aa)(R:Kp Sl):=ai ak NX 202 #[s.v,seq] H R
abbrev Nz.sp (data:Sl)(a b c:Int)(H:aa)(R:Kp Unit):=ai (aR []) NX 203 #[data.v,(.int .i64 a),(.int .i64 b),(.int .i64 c)] H R
abbrev NC.sp (data:Sl)(a b:Int)(H:aa)(R:Kp Unit):=ai (aR []) NX 204 #[data.v,(.int .i64 a),(.int .i64 b)] H R
abbrev Nv.sp (data:Sl)(a b:Int)(H:aa)(R:Kp Unit):=ai (aR []) NX 205 #[data.v,(.int .i64 a),(.int .i64 b)] H R
abbrev MP.sp (data:Sl)(a b:Int)(H:aa)(R:Kp Unit):=ai (aR []) NX 206 #[data.v,(.int .i64 a),(.int .i64 b)] H R
abbrev NB.sp (data:Sl)(a b:Int)(H:aa)(R:Kp (Int×Int)):=ai (aR [(ab .i64),(ab .i64)]) NX 207 #[data.v,(.int .i64 a),(.int .i64 b)] H R
abbrev Nf.sp (data:Sl)(a b:Int)(H:aa)(R:Kp Unit):=ai (aR []) NX 208 #[data.v,(.int .i64 a),(.int .i64 b)] H R
abbrev MT.sp (data:Sl)(a b:Int)(H:aa)(R:Kp Bool):=ai ay NX 209 #[data.v,(.int .i64 a),(.int .i64 b)] H R
abbrev M8.sp (data:Sl)(a b pivot:Int)(H:aa)(R:Kp Int):=ai (ab .i64) NX 210 #[data.v,(.int .i64 a),(.int .i64 b),(.int .i64 pivot)] H R
abbrev NI.sp (data:Sl)(a b pivot:Int)(H:aa)(R:Kp (Int×Bool)):=ai (aR [(ab .i64),ay]) NX 211 #[data.v,(.int .i64 a),(.int .i64 b),(.int .i64 pivot)] H R
abbrev J6.sp (x:Int)(H:aa)(R:Kp Bool):=ai ay NX 212 #[(.int .i64 x)] H R
abbrev I8.sp (l x:Sl)(H:aa)(R:Kp Int):=ai (ab .i64) NX 213 #[l.v,x.v] H R
abbrev Hn.sp (p:Option Addr)(name:ByteArray)(H:aa)(R:Kp Int):=ai (ab .i64) NX 214 #[(.pointer p),(.string name)] H R
abbrev D9.sp (kind:Int)(b:Sl)(H:aa)(R:Kp (Sl×Int)):=ai (aR [ak,(ab .i64)]) NX 215 #[(.int .u8 kind),b.v] H R
abbrev GS.sp (d:Option Addr)(name:ByteArray)(page:Int)(b:Sl)(H:aa)(R:Kp Int):=ai (ab .i64) NX 216 #[(.pointer d),(.string name),(.int .i64 page),b.v] H R
abbrev HY.sp (p:Option Addr)(i:Int)(H:aa)(R:Kp Unit):=ai (aR []) NX 217 #[(.pointer p),(.int .i64 i)] H R
abbrev K0.sp (i base:Int)(H:aa)(R:Kp ByteArray):=ai aK NX 218 #[(.int .i64 i),(.int .i64 base)] H R
abbrev I0.sp (s:Sl)(H:aa)(R:Kp Int):=ai (ab .i64) NX 219 #[s.v,(.func (.func Fb.no) #[] #[])] H R
abbrev Jx.sp (s:Sl)(cap:Addr)(H:aa)(R:Kp Int):=ai (ab .i64) NX 219 #[s.v,(.func (.func DB.no) #[] #[(.pointer (some cap))])] H R
abbrev Km.sp (d:Option Addr)(name:ByteArray)(H:aa)(R:Kp Unit):=ai (aR []) NX 220 #[(.pointer d),(.string name)] H R
abbrev Ki.sp (p:Option Addr)(H:aa)(R:Kp (Option Addr)):=ai av NX 221 #[(.pointer p),(.func (.func He.no) #[] #[]),(.func (.func Hk.no) #[] #[])] H R
abbrev He.sp (f:Option Addr)(H:aa)(R:Kp Bool):=ai ay NX 222 #[(.pointer f)] H R
abbrev Hk.sp (a b:Option Addr)(H:aa)(R:Kp Bool):=ai ay NX 223 #[(.pointer a),(.pointer b)] H R
abbrev Hw.sp (b:Sl)(H:aa)(R:Kp Int):=ai (ab .u32) NX 224 #[b.v] H R
abbrev Jt.sp (s:Sl)(H:aa)(R:Kp Bool):=ai ay NX 225 #[s.v,(.func (.func GU.no) #[] #[])] H R
abbrev GU.sp (c:Int)(H:aa)(R:Kp Bool):=ai ay NX 226 #[(.int .u8 c)] H R
abbrev J8.sp (s:Sl)(seq:Value)(H:aa)(R:Kp Sl):=ai ak NX 227 #[s.v,seq] H R
abbrev Fk.sp (l:Nat)(cap:Addr)(H:aa)(R:Kp Unit):=ai (aR []) NX 228 #[(.func (.yield l) #[] #[]),(.pointer (some cap))] H R
abbrev NG.sp (data:Sl)(a b c:Int)(cmp:Value)(H:aa)(R:Kp Unit):=ai (aR []) NX 229 #[data.v,(.int .i64 a),(.int .i64 b),(.int .i64 c),cmp] H R
abbrev MQ.sp (data:Sl)(lo hi first:Int)(cmp:Value)(H:aa)(R:Kp Unit):=ai (aR []) NX 230 #[data.v,(.int .i64 lo),(.int .i64 hi),(.int .i64 first),cmp] H R
abbrev Ns.sp (length:Int)(H:aa)(R:Kp Int):=ai (ab .u64) NX 231 #[(.int .i64 length)] H R
abbrev Nh.sp (r:Option Addr)(H:aa)(R:Kp Int):=ai (ab .u64) NX 232 #[(.pointer r)] H R
abbrev Nu.sp (data:Sl)(a:Int)(b:Option Addr)(cmp:Value)(H:aa)(R:Kp Int):=ai (ab .i64) NX 233 #[data.v,(.int .i64 a),(.pointer b),cmp] H R
abbrev Nw.sp (data:Sl)(a b c:Int)(d:Option Addr)(cmp:Value)(H:aa)(R:Kp Int):=ai (ab .i64) NX 234 #[data.v,(.int .i64 a),(.int .i64 b),(.int .i64 c),(.pointer d),cmp] H R
abbrev MX.sp (data:Sl)(a b:Int)(H:aa)(R:Kp Unit):=ai (aR []) NX 235 #[data.v,(.int .i64 a),(.int .i64 b)] H R
abbrev Nq.sp (data:Sl)(a b:Int)(H:aa)(R:Kp Unit):=ai (aR []) NX 236 #[data.v,(.int .i64 a),(.int .i64 b)] H R
abbrev M9.sp (data:Sl)(a b:Int)(H:aa)(R:Kp Unit):=ai (aR []) NX 237 #[data.v,(.int .i64 a),(.int .i64 b)] H R
abbrev Ni.sp (data:Sl)(a b:Int)(H:aa)(R:Kp (Int×Int)):=ai (aR [(ab .i64),(ab .i64)]) NX 238 #[data.v,(.int .i64 a),(.int .i64 b)] H R
abbrev M1.sp (data:Sl)(a b:Int)(H:aa)(R:Kp Unit):=ai (aR []) NX 239 #[data.v,(.int .i64 a),(.int .i64 b)] H R
abbrev NR.sp (data:Sl)(a b:Int)(H:aa)(R:Kp Bool):=ai ay NX 240 #[data.v,(.int .i64 a),(.int .i64 b)] H R
abbrev M4.sp (x y:ByteArray)(H:aa)(R:Kp Bool):=ai ay NX 241 #[(.string x),(.string y)] H R
abbrev NN.sp (data:Sl)(a b pivot:Int)(H:aa)(R:Kp Int):=ai (ab .i64) NX 242 #[data.v,(.int .i64 a),(.int .i64 b),(.int .i64 pivot)] H R
abbrev Nt.sp (data:Sl)(a b pivot:Int)(H:aa)(R:Kp (Int×Bool)):=ai (aR [(ab .i64),ay]) NX 243 #[data.v,(.int .i64 a),(.int .i64 b),(.int .i64 pivot)] H R
abbrev M3.sp (data:Sl)(lo hi first:Int)(H:aa)(R:Kp Unit):=ai (aR []) NX 244 #[data.v,(.int .i64 lo),(.int .i64 hi),(.int .i64 first)] H R
abbrev Ng.sp (data:Sl)(a:Int)(b:Option Addr)(H:aa)(R:Kp Int):=ai (ab .i64) NX 245 #[data.v,(.int .i64 a),(.pointer b)] H R
abbrev NW.sp (data:Sl)(a b c:Int)(d:Option Addr)(H:aa)(R:Kp Int):=ai (ab .i64) NX 246 #[data.v,(.int .i64 a),(.int .i64 b),(.int .i64 c),(.pointer d)] H R
abbrev Kc.sp (d:Option Addr)(name:ByteArray)(H:aa)(R:Kp Int):=ai (ab .i64) NX 247 #[(.pointer d),(.string name)] H R
abbrev JV.sp (b:Sl)(H:aa)(R:Kp Int):=ai (ab .u32) NX 248 #[b.v] H R
abbrev GZ.sp (d:Option Addr)(H:aa)(R:Kp Int):=ai (ab .i64) NX 249 #[(.pointer d)] H R
abbrev KI.sp (i:Int)(H:aa)(R:Kp ByteArray):=ai aK NX 250 #[(.int .i64 i)] H R
abbrev Mu.sp (d:Int)(H:aa)(R:Kp Int):=ai (ab .i64) NX 251 #[(.int .u64 d)] H R
abbrev MG.sp (a:Sl)(u:Int)(H:aa)(R:Kp Unit):=ai (aR []) NX 252 #[a.v,(.int .u64 u)] H R
abbrev ML.sp (dst:Sl)(u base:Int)(neg append_:Bool)(H:aa)(R:Kp (Sl×ByteArray)):=ai (aR [ak,aK]) NX 253 #[dst.v,(.int .u64 u),(.int .i64 base),(.bool neg),(.bool append_)] H R
abbrev Kk.sp (s:Sl)(H:aa)(R:Kp Int):=ai (ab .i64) NX 254 #[s.v,(.func (.func GU.no) #[] #[])] H R
abbrev MW.sp (data:Sl)(a b:Int)(cmp:Value)(H:aa)(R:Kp Unit):=ai (aR []) NX 255 #[data.v,(.int .i64 a),(.int .i64 b),cmp] H R
abbrev Nn.sp (data:Sl)(a b:Int)(cmp:Value)(H:aa)(R:Kp Unit):=ai (aR []) NX 256 #[data.v,(.int .i64 a),(.int .i64 b),cmp] H R
abbrev Nb.sp (data:Sl)(a b:Int)(cmp:Value)(H:aa)(R:Kp Unit):=ai (aR []) NX 257 #[data.v,(.int .i64 a),(.int .i64 b),cmp] H R
abbrev NA.sp (data:Sl)(a b:Int)(cmp:Value)(H:aa)(R:Kp (Int×Int)):=ai (aR [(ab .i64),(ab .i64)]) NX 258 #[data.v,(.int .i64 a),(.int .i64 b),cmp] H R
abbrev MY.sp (data:Sl)(a b:Int)(cmp:Value)(H:aa)(R:Kp Unit):=ai (aR []) NX 259 #[data.v,(.int .i64 a),(.int .i64 b),cmp] H R
abbrev NQ.sp (data:Sl)(a b:Int)(cmp:Value)(H:aa)(R:Kp Bool):=ai ay NX 260 #[data.v,(.int .i64 a),(.int .i64 b),cmp] H R
abbrev MR.sp (data:Sl)(a b pivot:Int)(cmp:Value)(H:aa)(R:Kp Int):=ai (ab .i64) NX 261 #[data.v,(.int .i64 a),(.int .i64 b),(.int .i64 pivot),cmp] H R
abbrev NK.sp (data:Sl)(a b pivot:Int)(cmp:Value)(H:aa)(R:Kp (Int×Bool)):=ai (aR [(ab .i64),ay]) NX 262 #[data.v,(.int .i64 a),(.int .i64 b),(.int .i64 pivot),cmp] H R
abbrev M7.sp (data:Sl)(a b:Int)(c:Option Addr)(cmp:Value)(H:aa)(R:Kp (Int×Int)):=ai (aR [(ab .i64),(ab .i64)]) NX 263 #[data.v,(.int .i64 a),(.int .i64 b),(.pointer c),cmp] H R
abbrev MV.sp (data:Sl)(lo hi first:Int)(H:aa)(R:Kp Unit):=ai (aR []) NX 264 #[data.v,(.int .i64 lo),(.int .i64 hi),(.int .i64 first)] H R
abbrev NL.sp (data:Sl)(a:Int)(b:Option Addr)(H:aa)(R:Kp Int):=ai (ab .i64) NX 265 #[data.v,(.int .i64 a),(.pointer b)] H R
abbrev ND.sp (data:Sl)(a b c:Int)(d:Option Addr)(H:aa)(R:Kp Int):=ai (ab .i64) NX 266 #[data.v,(.int .i64 a),(.int .i64 b),(.int .i64 c),(.pointer d)] H R
abbrev NV.sp (x:ByteArray)(H:aa)(R:Kp Bool):=ai ay NX 267 #[(.string x)] H R
abbrev NT.sp (data:Sl)(a b:Int)(c:Option Addr)(H:aa)(R:Kp (Int×Int)):=ai (aR [(ab .i64),(ab .i64)]) NX 268 #[data.v,(.int .i64 a),(.int .i64 b),(.pointer c)] H R
abbrev J7.sp (d:Option Addr)(i:Int)(H:aa)(R:Kp Unit):=ai (aR []) NX 269 #[(.pointer d),(.int .i64 i)] H R
abbrev Nk.sp (x:Int)(H:aa)(R:Kp Int):=ai (ab .i64) NX 270 #[(.int .i64 x)] H R
abbrev Nj.sp (b:Bool)(H:aa)(R:Kp Int):=ai (ab .i64) NX 271 #[(.bool b)] H R
abbrev Nx.sp (x:Int)(H:aa)(R:Kp Bool):=ai ay NX 272 #[(.int .i64 x)] H R
abbrev Nd.sp (x:Int)(H:aa)(R:Kp Int):=ai (ab .i64) NX 273 #[(.int .u64 x)] H R
abbrev Nl.sp (data:Sl)(lo hi first:Int)(cmp:Value)(H:aa)(R:Kp Unit):=ai (aR []) NX 274 #[data.v,(.int .i64 lo),(.int .i64 hi),(.int .i64 first),cmp] H R
abbrev Nc.sp (data:Sl)(a:Int)(b:Option Addr)(cmp:Value)(H:aa)(R:Kp Int):=ai (ab .i64) NX 275 #[data.v,(.int .i64 a),(.pointer b),cmp] H R
abbrev No.sp (data:Sl)(a b c:Int)(d:Option Addr)(cmp:Value)(H:aa)(R:Kp Int):=ai (ab .i64) NX 276 #[data.v,(.int .i64 a),(.int .i64 b),(.int .i64 c),(.pointer d),cmp] H R
abbrev MS.sp (data:Sl)(a b:Int)(c:Option Addr)(H:aa)(R:Kp (Int×Int)):=ai (aR [(ab .i64),(ab .i64)]) NX 277 #[data.v,(.int .i64 a),(.int .i64 b),(.pointer c)] H R
abbrev M6.sp (x:Int)(H:aa)(R:Kp Int):=ai (ab .i64) NX 278 #[(.int .u32 x)] H R
abbrev Na.sp (x:Int)(H:aa)(R:Kp Int):=ai (ab .i64) NX 279 #[(.int .u64 x)] H R
abbrev NF.sp (data:Sl)(a b:Int)(c:Option Addr)(cmp:Value)(H:aa)(R:Kp (Int×Int)):=ai (aR [(ab .i64),(ab .i64)]) NX 280 #[data.v,(.int .i64 a),(.int .i64 b),(.pointer c),cmp] H R
def KE.vc (X w y z A B:Int)(rows:Sl)(p:Int)(H:aa)(R:Kp Bool):Prop:=
 aI H #[(.int .i64 X),(.int .i64 w),(.int .i64 y),(.int .i64 z),(.int .i64 A),(.int .u64 B)] DO λd H1=>br (decide ((rows.n:Int)>400)) (R true H1) (c6 (bQ [(ab .i64),(ab .i64),(ab .i64),(ab .i64),(ab .i64),(ab .u64)]) 6 H1 d λ(x:(Int×Int×Int×Int×Int×Int))=>I7.sp x.1 x.2.1 x.2.2.1 x.2.2.2.1 x.2.2.2.2.1 x.2.2.2.2.2 H1 λ(r:(Option Addr×Option Addr×Option Addr×Option Addr)) C=>ld (ab .i64) C (d.add 3) λ(D:Int)=>ld (ab .i64) C (d.add 2) λ(E:Int)=>IG.sp r.2.2.1 (O6 #[102]) D E C λ(b:(Option Addr×Int)) F=>ld (ab .i64) F (d.add 3) λ(G:Int)=>ld (ab .i64) F (d.add 2) λ(I:Int)=>Kf.sp r.2.2.2 (O6 #[102]) G I F λ(c:(Option Addr×Int)) v=>br (b.2!=c.2) (R false v) (br (!(b.1.isNone==c.1.isNone)) (R false v) (br (b.2!=0) (GA.sp r.1 r.2.1 r.2.2.1 r.2.2.2 v λ(J:Bool) V=>br J (GG.sp V λ(K:Bool) Y=>R K Y) (R false V)) (aw Int 0 v λnext i L=>br (decide (i<(rows.n:Int))) (ae rows.a λa=>(0<=i/\i<(rows.n:Int))/\ld ak L (a.add (i.toNat*1)) λ(f:Sl)=>Hm.sp f L λ(l:Sl) Z=>xA.sp b.1 l Z λ(M:Int) W=>ae rows.a λN=>(0<=i/\i<(rows.n:Int))/\ld ak W (N.add (i.toNat*1)) λ(g:Sl)=>C7.sp c.1 g W λ(O:Int) e=>br (M !=O) (R false e) (ae rows.a λP=>(0<=i/\i<(rows.n:Int))/\ld ak e (P.add (i.toNat*1)) λ(h:Sl)=>GF.sp l h e λ(Q:Bool) j=>br (!Q) (R false j) (Gz.sp l j λ(_:Unit) k=>br (i==p) (GX.sp b.1 c.1 k λ(S:Bool) m=>br (!S) (R false m) (next (NY.wrap (i+1)) m)) (next (NY.wrap (i+1)) k)))) (GX.sp b.1 c.1 L λ(T:Bool) n=>br T (GX.sp b.1 c.1 n λ(o:Bool) q=>br o (GA.sp r.1 r.2.1 r.2.2.1 r.2.2.2 q λ(s:Bool) t=>br s (GG.sp t λ(u:Bool) U=>R u U) (R false t)) (R false q)) (R false n))))))
theorem KE.of:∀{f a b c d e rows p H R},KE.vc f a b c d e rows p H R->KE.sp f a b c d e rows p H R:=aU [(11,[(15,(ab .i64))])] (by kernel_rfl)
def CH.vc (s:Option Addr)(H:aa)(R:Kp (Int×Int)):Prop:=
 HE.sp s H λ(e:Int) H1=>br (e !=0) (R ((0:Int),e) H1) (JI.sp s H1 λ(r:(Int×Int)) c=>br (r.2!=0) (ae s λa=>st c (a.add 7) (.int .i64 r.2) λd=>R ((0:Int),r.2) d) (ae s λb=>st c (b.add 8) (.bool true) λf=>R (r.1,(0:Int)) f))
theorem CH.of:∀{s H R},CH.vc s H R->CH.sp s H R:=aU [] (by kernel_rfl)
def IG.vc (p:Option Addr)(name:ByteArray)(width frames:Int)(H:aa)(R:Kp (Option Addr×Int)):Prop:=
 br p.isNone (R (none,(1:Int)) H) (GL.sp width H λ(r:Int) H1=>br (r==0) (R (none,(60:Int)) H1) (br (decide (frames<3)) (br (decide (frames<3)) (R (none,(30:Int)) H1) (aI H1 #[(.pointer p),(.string name),(.int .i64 width),(.int .i64 frames),(.slice none 0 0),(.slice none 0 0),(.int .i64 0),(.int .i64 0),(.bool false)] vQ λa e=>R (some a,(0:Int)) e)) (I9.sp p H1 λ(b:Int) d=>br (decide (frames>b)) (R (none,(30:Int)) d) (aI d #[(.pointer p),(.string name),(.int .i64 width),(.int .i64 frames),(.slice none 0 0),(.slice none 0 0),(.int .i64 0),(.int .i64 0),(.bool false)] vQ λc f=>R (some c,(0:Int)) f))))
theorem IG.of:∀{p name width frames H R},IG.vc p name width frames H R->IG.sp p name width frames H R:=aU [] (by kernel_rfl)
def JP.vc (p:Option Addr)(names:Sl)(to:ByteArray)(width:Int)(H:aa)(R:Kp (Int×Int)):Prop:=
 br p.isNone (R ((0:Int),(1:Int)) H) (br ((names.n:Int)==0) (R ((0:Int),(2:Int)) H) (Kg.sp p names width H λ(r:(Sl×Int)) H1=>br (r.2!=0) (R ((0:Int),r.2) H1) (GN.sp p to width H1 λ(c:(Option Addr×Int)) P=>br (c.2!=0) (R ((0:Int),c.2) P) (aI P #[(.slice none 0 0),(.func (.func DD.no) #[] #[])] LB λf S=>aw Int 0 S λnext z C=>br (decide (z<(r.1.n:Int))) (ae r.1.a λa=>(0<=z/\z<(r.1.n:Int))/\ld av C (a.add (z.toNat*1)) λ(D:Option Addr)=>Gx.sp (some f) z (Sl.mk none 0 0) D C λ(e:Int) Q=>br (e !=0) (R ((0:Int),e) Q) (next (NY.wrap (z+1)) Q)) (aw (Sl×Bool) ((Sl.mk none 0 0),true) C λg o E=>ld ak E (f.add 0) λ(x:Sl)=>br (decide ((x.n:Int)>0)) (IQ.sp (some f) E λ(i:(Int×Sl×Option Addr)) T=>aI T (zc NX jS) jS λb U=>ji NX (Og jS (.pointer (some b)) (.agg #[(.int .i64 i.1),i.2.1.v,(.pointer i.2.2)])) U λB=>cut Unit (λJ=>br o.2 (ld ak B (b.add 1) λ(F:Sl)=>yM.sp c.1 F B λ(q:Int) s=>br (q !=0) (R ((0:Int),q) s) (J () s)) (ld ak B (b.add 1) λ(G:Sl)=>wN.sp G o.1 B λ(I:Int) j=>br (I !=0) (ld ak j (b.add 1) λ(K:Sl)=>yM.sp c.1 K j λ(t:Int) u=>br (t !=0) (R ((0:Int),t) u) (J () u)) (J () j))) λ(_:Unit) k=>ld ak k (b.add 1) λ(last:Sl)=>c6 (bQ [(ab .i64),ak,av]) 3 k b λ(l:(Int×Sl×Option Addr))=>Gx.sp (some f) l.1 l.2.1 l.2.2 k λ(w:Int) y=>br (w !=0) (R ((0:Int),w) y) (g (last,false) y)) (aw Int 0 E λh d m=>br (decide (d<(r.1.n:Int))) (ae r.1.a λL=>(0<=d/\d<(r.1.n:Int))/\ld av m (L.add (d.toNat*1)) λ(M:Option Addr)=>Hv.sp M m λ(_:Unit) N=>h (NY.wrap (d+1)) N) (Fu.sp c.1 m λ(A:(Int×Int)) O=>R (A.1,A.2) O)))))))
theorem JP.of:∀{p names to width H R},JP.vc p names to width H R->JP.sp p names to width H R:=aU [(13,[(52,(ab .i64))]),(21,[(16,ak),(17,ay)]),(100028,[]),(33,[(99,(ab .i64))])] (by kernel_rfl)
def xA.vc (s:Option Addr)(l:Sl)(H:aa)(R:Kp Int):Prop:=
 HE.sp s H λ(e:Int) H1=>br (e !=0) (R e H1) (ae s λa=>ld (ab .i64) H1 (a.add 2) λ(x:Int)=>br ((l.n:Int)!=x) (R (60:Int) H1) (∃G:aa->Prop,G H1/\ae s λc=>dv ak G (c.add 4) λ(d:Sl)=>GY.sp l H1 λ(r:Sl) z=>G z/\aI z #[r.v] dZ λp A=>G A/\ba ak NX (N2 #[gd,gd] gd #[d.v,(.slice (some p) 1 1)]) A λ(f:Sl) C=>ae s λg=>st C (g.add 4) f.v λh=>∃b:aa->Prop,b h/\ae s λi=>dv ak b (i.add 4) λ(j:Sl)=>ae s λk=>dv (ab .i64) b (k.add 3) λ(m:Int)=>ae s λn=>ld (ab .i64) h (n.add 2) λ(o:Int)=>GL.sp o h λ(q:Int) t=>b t/\br (decide ((j.n:Int)<(NY.wrap (m*q)))) (R (0:Int) t) (E6.sp s t λ(u:Int) D=>ae s λv=>st D (v.add 7) (.int .i64 u) λB=>ae s λw=>ld (ab .i64) B (w.add 7) λ(y:Int)=>R y B)))
theorem xA.of:∀{s l H R},xA.vc s l H R->xA.sp s l H R:=aU [] (by kernel_rfl)
def GG.vc (H:aa)(R:Kp Bool):Prop:=
 Hf.sp (20:Int) H λ(d:Option Addr) H1=>HS.sp d (8:Int) H1 λ(r:(Option Addr×Int)) y=>IG.sp r.1 (O6 #[102]) (1:Int) (3:Int) y λ(b:(Option Addr×Int)) i=>br (b.2!=0) (R false i) (br b.1.isNone (R false i) (aI i #[(.int .u64 5)] gR λp z=>xA.sp b.1 (Sl.mk (some p) 1 1) z λ(j:Int) u=>br (j !=0) (R false u) (aI u #[(.int .u64 1)] gR λk A=>xA.sp b.1 (Sl.mk (some k) 1 1) A λ(l:Int) v=>br (l !=0) (R false v) (aI v #[(.int .u64 5)] gR λm B=>xA.sp b.1 (Sl.mk (some m) 1 1) B λ(o:Int) w=>br (o !=0) (R false w) (CH.sp b.1 w λ(h:(Int×Int)) q=>Iv.sp r.1 (O6 #[102]) (1:Int) q λ(f:(Option Addr×Int)) g=>br (((h.2!=0)||(f.2!=0))||(h.1!=2)) (R false g) (br f.1.isNone (R false g) (E0.sp f.1 g λ(c:(Sl×Bool×Int)) e=>br (((c.2.2==0)&&c.2.1)&&((c.1.n:Int)==1)) (ae c.1.a λa=>(0<=(0:Int)/\(0:Int)<(c.1.n:Int))/\ld (ab .u64) e (a.add ((0:Int).toNat*1)) λ(x:Int)=>br (x==1) (ID.sp d e λ(s:Sl) t=>R ((s.n:Int)==1) t) (R false e)) (R false e))))))))
theorem GG.of:∀{H R},GG.vc H R->GG.sp H R:=aU [] (by kernel_rfl)
def Kl.vc (i n:Int)(H:aa)(R:Kp Int):Prop:=
 br (decide (n<1)) (R (0:Int) H) (n≠0/\br (decide ((Pf i n)<0)) (R (NY.wrap ((Pf i n)+n)) H) (R (Pf i n) H))
theorem Kl.of:∀{i n H R},Kl.vc i n H R->Kl.sp i n H R:=aU [] (by kernel_rfl)
def wN.vc (a b:Sl)(H:aa)(R:Kp Int):Prop:=
 KZ.sp a b H λ(r:Int) H1=>R r H1
theorem wN.of:∀{a b H R},wN.vc a b H R->wN.sp a b H R:=aU [] (by kernel_rfl)
def JA.vc (a b:Sl)(H:aa)(R:Kp Bool):Prop:=
 br ((a.n:Int)!=(b.n:Int)) (R false H) (aw Int 0 H λnext i H1=>br (decide (i<(a.n:Int))) (ae a.a λc=>(0<=i/\i<(a.n:Int))/\ld (ab .u64) H1 (c.add (i.toNat*1)) λ(x:Int)=>ae b.a λd=>(0<=i/\i<(b.n:Int))/\ld (ab .u64) H1 (d.add (i.toNat*1)) λ(e:Int)=>br (x !=e) (R false H1) (next (NY.wrap (i+1)) H1)) (R true H1))
theorem JA.of:∀{a b H R},JA.vc a b H R->JA.sp a b H R:=aU [(4,[(5,(ab .i64))])] (by kernel_rfl)
def I7.vc (w f g h i j:Int)(H:aa)(R:Kp (Option Addr×Option Addr×Option Addr×Option Addr)):Prop:=
 aI H #[(.int .i64 w),(.int .i64 f),(.int .i64 g),(.int .i64 h),(.int .i64 i),(.int .u64 j)] DO λp H1=>∃G:aa->Prop,G H1/\ld (ab .i64) H1 (p.add 0) λ(x:Int)=>Hf.sp x H1 λ(r:Option Addr) u=>G u/\dv (ab .i64) G (p.add 0) λ(k:Int)=>J3.sp k u λ(n:Option Addr) a=>cut Unit (λJ=>ld (ab .i64) a (p.add 4) λ(l:Int)=>br (decide (l>=0)) (ld (ab .i64) a (p.add 4) λ(m:Int)=>ld (ab .u64) a (p.add 5) λ(o:Int)=>JE.sp r m o a λ(_:Unit) q=>ld (ab .i64) q (p.add 4) λ(b:Int)=>ld (ab .u64) q (p.add 5) λ(c:Int)=>Jk.sp n b c q λ(_:Unit) y=>J () y) (J () a)) λ(_:Unit) v=>ld (ab .i64) v (p.add 1) λ(d:Int)=>Kl.sp d (12:Int) v λ(e:Int) z=>HS.sp r (NY.wrap ((8:Int)+e)) z λ(s:(Option Addr×Int)) A=>JW.sp n (NY.wrap ((8:Int)+e)) A λ(t:(Option Addr×Int)) B=>R (r,n,s.1,t.1) B
theorem I7.of:∀{f a b c d e H R},I7.vc f a b c d e H R->I7.sp f a b c d e H R:=aU [(100005,[])] (by kernel_rfl)
def Kf.vc (p:Option Addr)(name:ByteArray)(width frames:Int)(H:aa)(R:Kp (Option Addr×Int)):Prop:=
 br p.isNone (R (none,(1:Int)) H) (A9.sp width H λ(r:Int) H1=>br (r==0) (R (none,(60:Int)) H1) (br (decide (frames<3)) (R (none,(30:Int)) H1) (ae p λa=>ld (ab .i64) H1 (a.add 1) λ(x:Int)=>br (decide (frames>x)) (R (none,(30:Int)) H1) (aI H1 #[(.pointer p),(.string name),(.int .i64 width),(.int .i64 frames),(.slice none 0 0),(.slice none 0 0),(.int .i64 0),(.int .i64 0),(.bool false)] yJ λb c=>R (some b,(0:Int)) c))))
theorem Kf.of:∀{p name width frames H R},Kf.vc p name width frames H R->Kf.sp p name width frames H R:=aU [] (by kernel_rfl)
def GA.vc (d n p m:Option Addr)(H:aa)(R:Kp Bool):Prop:=
 ∃G:aa->Prop,G H/\JS.sp d H λ(r:Int) H1=>G H1/\ae n λa=>dv (ab .i64) G (a.add 3) λ(x:Int)=>br (r !=x) (R false H1) (JR.sp d H1 λ(s:Bool) t=>G t/\ae n λu=>dv ay G (u.add 8) λ(v:Bool)=>br (!(s==v)) (R false t) (JY.sp d t λ(w:Int) y=>G y/\ae n λz=>dv (ab .i64) G (z.add 1) λ(A:Int)=>br (w !=A) (R false y) (Kd.sp p y λ(B:Int) C=>G C/\ae m λD=>dv ak G (D.add 2) λ(E:Sl)=>br (B !=(E.n:Int)) (R false C) (I3.sp p C λ(F:Int) V=>Jd.sp m V λ(I:Int) U=>br (F !=I) (R false U) (Ji.sp d U λ(_:Unit) W=>Ke.sp n W λ(_:Unit) X=>ID.sp d X λ(l:Sl) Y=>J9.sp n Y λ(J:Sl) K=>Jf.sp l J K λ(L:Bool) k=>br (!L) (R false k) (aw Int 0 k λnext i g=>br (decide (i<(l.n:Int))) (ae l.a λM=>(0<=i/\i<(l.n:Int))/\ld aK g (M.add (i.toNat*1)) λ(N:ByteArray)=>BW.sp n N g λ(o:(Int×Int)) O=>aw Int 0 O λf j h=>br (decide (j<=o.1)) (ae l.a λP=>(0<=i/\i<(l.n:Int))/\ld aK h (P.add (i.toNat*1)) λ(Q:ByteArray)=>G4.sp d Q j h λ(b:(Sl×Int)) q=>ae l.a λS=>(0<=i/\i<(l.n:Int))/\ld aK q (S.add (i.toNat*1)) λ(T:ByteArray)=>Cf.sp n T j q λ(c:(Sl×Int)) e=>br (b.2!=c.2) (R false e) (vJ e b.1.a b.1.n λ(str:ByteArray)=>vJ e c.1.a c.1.n λ(str_1:ByteArray)=>br (!(str.toList==str_1.toList)) (R false e) (f (NY.wrap (j+1)) e))) (next (NY.wrap (i+1)) h)) (R true g)))))))
theorem GA.of:∀{d n p m H R},GA.vc d n p m H R->GA.sp d n p m H R:=aU [(9,[(10,(ab .i64))]),(13,[(13,(ab .i64))])] (by kernel_rfl)
def Hm.vc (l:Sl)(H:aa)(R:Kp Sl):Prop:=
 ba ak NX (N2 #[dZ,dZ] dZ #[(.slice none 0 0),l.v]) H λ(out:Sl) H1=>aI H1 #[(.int .u64 30583)] gR λp b=>ba ak NX (N2 #[dZ,dZ] dZ #[out.v,(.slice (some p) 1 1)]) b λ(a:Sl) c=>(0<=(l.n:Int)/\(l.n:Int)<=(a.c:Int))/\R (Sl.mk (cw a.a a.c 0 1) (((l.n:Int).toNat) - 0) (a.c - 0)) c
theorem Hm.of:∀{l H R},Hm.vc l H R->Hm.sp l H R:=aU [] (by kernel_rfl)
def C7.vc (s:Option Addr)(l:Sl)(H:aa)(R:Kp Int):Prop:=
 Iu.sp s H λ(e:Int) H1=>br (e !=0) (R e H1) (ae s λa=>ld (ab .i64) H1 (a.add 2) λ(x:Int)=>br ((l.n:Int)!=x) (R (60:Int) H1) (ba ak NX (N2 #[dZ,dZ] dZ #[(.slice none 0 0),l.v]) H1 λ(own:Sl) t=>ae s λb=>ld ak t (b.add 4) λ(c:Sl)=>aI t #[own.v] dZ λp u=>ba ak NX (N2 #[gd,gd] gd #[c.v,(.slice (some p) 1 1)]) u λ(d:Sl) v=>ae s λf=>st v (f.add 4) d.v λg=>∃G:aa->Prop,G g/\ae s λh=>dv ak G (h.add 4) λ(i:Sl)=>ae s λj=>dv (ab .i64) G (j.add 3) λ(k:Int)=>ae s λm=>ld (ab .i64) g (m.add 2) λ(n:Int)=>A9.sp n g λ(r:Int) o=>G o/\br (decide ((i.n:Int)<(NY.wrap (k*r)))) (R (0:Int) o) (Gq.sp s o λ(q:Int) w=>R q w)))
theorem C7.of:∀{s l H R},C7.vc s l H R->C7.sp s l H R:=aU [] (by kernel_rfl)
def GF.vc (a l:Sl)(H:aa)(R:Kp Bool):Prop:=
 JA.sp a l H λ(r:Bool) H1=>br r ((0<=(NY.wrap ((l.n:Int)+1))/\(NY.wrap ((l.n:Int)+1))<=(a.c:Int))/\ae (cw a.a a.c 0 1) λb=>(0<=(l.n:Int)/\(l.n:Int)<((((NY.wrap ((l.n:Int)+1)).toNat) - 0:Nat):Int))/\ld (ab .u64) H1 (b.add ((l.n:Int).toNat*1)) λ(x:Int)=>R (x==30583) H1) (R false H1)
theorem GF.of:∀{a l H R},GF.vc a l H R->GF.sp a l H R:=aU [] (by kernel_rfl)
def Gz.vc (l:Sl)(H:aa)(R:Kp Unit):Prop:=
 aw Int 0 H λnext i H1=>br (decide (i<(l.n:Int))) (ae l.a λa=>(0<=i/\i<(l.n:Int))/\st H1 (a.add (i.toNat*1)) (.int .u64 57005) λd=>next (NY.wrap (i+1)) d) (aw (Sl×Int) (l,(0:Int)) H1 λb z c=>br (decide (z.2<3)) (aI c #[(.int .u64 57006)] gR λp e=>ba ak NX (N2 #[dZ,dZ] dZ #[z.1.v,(.slice (some p) 1 1)]) e λ(m:Sl) f=>b (m,NY.wrap (z.2+1)) f) (R () c))
theorem Gz.of:∀{l H R},Gz.vc l H R->Gz.sp l H R:=aU [(1,[(2,(ab .i64))]),(6,[(3,ak),(4,(ab .i64))])] (by kernel_rfl)
def GX.vc (s t:Option Addr)(H:aa)(R:Kp Bool):Prop:=
 CH.sp s H λ(r:(Int×Int)) H1=>Du.sp t H1 λ(a:(Int×Int)) b=>R ((r.1==a.1)&&(r.2==a.2)) b
theorem GX.of:∀{s t H R},GX.vc s t H R->GX.sp s t H R:=aU [] (by kernel_rfl)
def G7.vc (p:Option Addr)(names:Sl)(to:ByteArray)(width:Int)(H:aa)(R:Kp (Int×Int)):Prop:=
 br p.isNone (R ((0:Int),(1:Int)) H) (br ((names.n:Int)==0) (R ((0:Int),(2:Int)) H) (aw (Sl×Int) ((Sl.mk none 0 0),(0:Int)) H λnext z H1=>br (decide (z.2<(names.n:Int))) (ae names.a λa=>(0<=z.2/\z.2<(names.n:Int))/\ld aK H1 (a.add (z.2.toNat*1)) λ(x:ByteArray)=>Hy.sp p x width H1 λ(r:(Option Addr×Int)) H2=>br (r.2!=0) (R ((0:Int),r.2) H2) (aI H2 #[(.pointer r.1)] LZ λE H3=>ba ak NX (N2 #[Ld,Ld] Ld #[z.1.v,(.slice (some E) 1 1)]) H3 λ(l:Sl) H4=>next (l,NY.wrap (z.2+1)) H4)) (IY.sp p to width H1 λ(g:(Option Addr×Int)) H5=>br (g.2!=0) (R ((0:Int),g.2) H5) (aw (Sl×Sl×Int) ((Sl.mk none 0 0),(Sl.mk none 0 0),(0:Int)) H5 λh c F=>br (decide (c.2.2<(z.1.n:Int))) (ae z.1.a λG=>(0<=c.2.2/\c.2.2<(z.1.n:Int))/\ld av F (G.add (c.2.2.toNat*1)) λ(I:Option Addr)=>Ck.sp I F λ(i:(Sl×Bool×Int)) H7=>br (i.2.2!=0) (R ((0:Int),i.2.2) H7) (aI H7 #[i.1.v] dZ λK H8=>ba ak NX (N2 #[gd,gd] gd #[c.1.v,(.slice (some K) 1 1)]) H8 λ(kJ:Sl) H9=>aI H9 #[(.bool i.2.1)] K9 λL M=>ba ak NX (N2 #[K2,K2] K2 #[c.2.1.v,(.slice (some L) 1 1)]) M λ(is:Sl) N=>h (kJ,is,NY.wrap (c.2.2+1)) N)) (aw Unit () F λj _ O=>aw (Int×Int) ((-1:Int),(0:Int)) O λf b d=>br (decide (b.2<(z.1.n:Int))) (ae c.2.1.a λP=>(0<=b.2/\b.2<(c.2.1.n:Int))/\ld ay d (P.add (b.2.toNat*1)) λ(Q:Bool)=>br (Q==true) (br (decide (b.1<0)) (f (b.2,NY.wrap (b.2+1)) d) (ae c.1.a λS=>(0<=b.2/\b.2<(c.1.n:Int))/\ld ak d (S.add (b.2.toNat*1)) λ(T:Sl)=>ae c.1.a λU=>(0<=b.1/\b.1<(c.1.n:Int))/\ld ak d (U.add (b.1.toNat*1)) λ(V:Sl)=>zp.sp T V d λ(W:Int) o=>br (decide (W<0)) (f (b.2,NY.wrap (b.2+1)) o) (f (b.1,NY.wrap (b.2+1)) o))) (f (b.1,NY.wrap (b.2+1)) d)) (br (decide (b.1<0)) (Gw.sp g.1 d λ(q:(Int×Int)) X=>R (q.1,q.2) X) (cut Unit (λJ=>ae g.1 λY=>ld (ab .i64) d (Y.add 8) λ(Z:Int)=>br (Z==0) (ae c.1.a λaf=>(0<=b.1/\b.1<(c.1.n:Int))/\ld ak d (af.add (b.1.toNat*1)) λ(an:Sl)=>Be.sp g.1 an d λ(e:Int) s=>br (e !=0) (R ((0:Int),e) s) (J () s)) (ae c.1.a λa1=>(0<=b.1/\b.1<(c.1.n:Int))/\ld ak d (a1.add (b.1.toNat*1)) λ(a6:Sl)=>ae g.1 λa7=>ld ak d (a7.add 7) λ(a8:Sl)=>zp.sp a6 a8 d λ(bb:Int) m=>br (bb !=0) (ae c.1.a λbd=>(0<=b.1/\b.1<(c.1.n:Int))/\ld ak m (bd.add (b.1.toNat*1)) λ(bl:Sl)=>Be.sp g.1 bl m λ(t:Int) u=>br (t !=0) (R ((0:Int),t) u) (J () u)) (J () m))) λ(_:Unit) w=>ae z.1.a λy=>(0<=b.1/\b.1<(z.1.n:Int))/\ld av w (y.add (b.1.toNat*1)) λ(A:Option Addr)=>Ck.sp A w λ(k:(Sl×Bool×Int)) B=>br (k.2.2!=0) (R ((0:Int),k.2.2) B) (ae c.1.a λC=>(0<=b.1/\b.1<(c.1.n:Int))/\st B (C.add (b.1.toNat*1)) k.1.v λbn=>ae c.2.1.a λD=>(0<=b.1/\b.1<(c.2.1.n:Int))/\st bn (D.add (b.1.toNat*1)) (.bool k.2.1) λbs=>j () bs))))))))
theorem G7.of:∀{p names to width H R},G7.vc p names to width H R->G7.sp p names to width H R:=aU [(7,[(10,ak),(11,(ab .i64))]),(19,[(16,ak),(17,ak),(18,(ab .i64))]),(26,[]),(28,[(22,(ab .i64)),(23,(ab .i64))]),(100038,[])] (by kernel_rfl)
def Hf.vc (quota:Int)(H:aa)(R:Kp (Option Addr)):Prop:=
 Fc H λm H1=>aI H1 #[(.map (some m)),(.int .i64 0),(.int .i64 0),(.int .i64 (if (1048576:Int)<(if (0:Int)>quota then (0:Int) else quota) then (1048576:Int) else (if (0:Int)>quota then (0:Int) else quota))),(.int .i64 0),(.int .i64 0),(.bool false),(.int .i64 0),(.int .u64 0),(.bool false)] xi λp a=>R (some p) a
theorem Hf.of:∀{quota H R},Hf.vc quota H R->Hf.sp quota H R:=aU [] (by kernel_rfl)
def HS.vc (d:Option Addr)(frames:Int)(H:aa)(R:Kp (Option Addr×Int)):Prop:=
 br d.isNone (R (none,(1:Int)) H) (br (decide (frames<8)) (R (none,(30:Int)) H) (br (decide (frames>4096)) (R (none,(3:Int)) H) (Fc H λm H1=>Fc H1 λa b=>aI b #[(.pointer d),(.int .i64 frames),(.map (some m)),(.map (some a)),(.int .i64 1),(.int .i64 0),(.int .i64 0),(.int .i64 0)] Ct λp c=>R (some p,(0:Int)) c)))
theorem HS.of:∀{d frames H R},HS.vc d frames H R->HS.sp d frames H R:=aU [] (by kernel_rfl)
def HE.vc (s:Option Addr)(H:aa)(R:Kp Int):Prop:=
 br s.isNone (R (1:Int) H) (ae s λa=>ld (ab .i64) H (a.add 7) λ(x:Int)=>br (x !=0) (ae s λb=>ld (ab .i64) H (b.add 7) λ(c:Int)=>R c H) (ae s λd=>ld ay H (d.add 8) λ(e:Bool)=>br e (R (2:Int) H) (R (0:Int) H)))
theorem HE.of:∀{s H R},HE.vc s H R->HE.sp s H R:=aU [] (by kernel_rfl)
def JI.vc (s:Option Addr)(H:aa)(R:Kp (Int×Int)):Prop:=
 cut Unit (λJ=>ae s λa=>ld ak H (a.add 4) λ(x:Sl)=>br (decide ((x.n:Int)>0)) (E6.sp s H λ(e:Int) D=>br (e !=0) (R ((0:Int),e) D) (J () D)) (ae s λf=>ld ak H (f.add 5) λ(g:Sl)=>br ((g.n:Int)==0) (E6.sp s H λ(c:Int) E=>br (c !=0) (R ((0:Int),c) E) (J () E)) (J () H))) λ(_:Unit) H1=>aw Unit () H1 λnext _ b=>ae s λh=>ld ak b (h.add 5) λ(i:Sl)=>ae s λj=>ld (ab .i64) b (j.add 3) λ(k:Int)=>br (decide ((i.n:Int)>=k)) (I2.sp s b λ(to:ByteArray) F=>ae s λl=>ld (ab .i64) F (l.add 3) λ(m:Int)=>IU.sp s (NY.wrap (m - 1)) to F λ(r:(Int×Int)) n=>br (r.2!=0) (R ((0:Int),r.2) n) (ae s λo=>ld ak n (o.add 5) λ(q:Sl)=>Jz.sp q n λ(t:Sl) G=>aI G #[(.string to)] dH λp I=>ba ak NX (N2 #[dS,dS] dS #[t.v,(.slice (some p) 1 1)]) I λ(u:Sl) K=>ae s λv=>st K (v.add 5) u.v λw=>next () w)) (ae s λy=>ld ak b (y.add 5) λ(z:Sl)=>ae s λA=>ld aK b (A.add 1) λ(B:ByteArray)=>IU.sp s (z.n:Int) B b λ(d:(Int×Int)) C=>R (d.1,d.2) C)
theorem JI.of:∀{s H R},JI.vc s H R->JI.sp s H R:=aU [(100005,[]),(5,[])] (by kernel_rfl)
def GL.vc (width:Int)(H:aa)(R:Kp Int):Prop:=
 HQ.sp width H λ(n:Int) H1=>br (decide (n>0)) (n≠0/\R (NY.wrap (OP (504:Int) n)) H1) (R (0:Int) H1)
theorem GL.of:∀{width H R},GL.vc width H R->GL.sp width H R:=aU [] (by kernel_rfl)
def I9.vc (p:Option Addr)(H:aa)(R:Kp Int):Prop:=
 br p.isNone (R (0:Int) H) (ae p λa=>ld (ab .i64) H (a.add 1) λ(x:Int)=>R x H)
theorem I9.of:∀{p H R},I9.vc p H R->I9.sp p H R:=aU [] (by kernel_rfl)
def Kg.vc (p:Option Addr)(names:Sl)(width:Int)(H:aa)(R:Kp (Sl×Int)):Prop:=
 aw (Sl×Int) ((Sl.mk none 0 0),(0:Int)) H λnext z H1=>br (decide (z.2<(names.n:Int))) (ae names.a λa=>(0<=z.2/\z.2<(names.n:Int))/\ld aK H1 (a.add (z.2.toNat*1)) λ(s:ByteArray)=>Iv.sp p s width H1 λ(r:(Option Addr×Int)) c=>br (r.2!=0) (R ((Sl.mk none 0 0),r.2) c) (aI c #[(.pointer r.1)] Mm λb d=>ba ak NX (N2 #[LX,LX] LX #[z.1.v,(.slice (some b) 1 1)]) d λ(l:Sl) e=>next (l,NY.wrap (z.2+1)) e)) (R (z.1,(0:Int)) H1)
theorem Kg.of:∀{p names width H R},Kg.vc p names width H R->Kg.sp p names width H R:=aU [(3,[(8,ak),(15,(ab .i64))])] (by kernel_rfl)
def GN.vc (p:Option Addr)(name:ByteArray)(width:Int)(H:aa)(R:Kp (Option Addr×Int)):Prop:=
 Ha.sp p name width H λ(r:((Option Addr×ByteArray×Int×Int×Int×Bool)×Int)) H1=>aI H1 (zc NX qU) qU λb s=>ji NX (Og qU (.pointer (some b)) (.agg #[(.pointer r.1.1),(.string r.1.2.1),(.int .i64 r.1.2.2.1),(.int .i64 r.1.2.2.2.1),(.int .i64 r.1.2.2.2.2.1),(.bool r.1.2.2.2.2.2)])) s λf=>br (r.2==0) (Hu.sp p f λ(g:Option Addr) t=>Jg.sp g name t λ(e:Int) q=>cut Int (λJ=>br (e==0) (GR.sp (some b) (0:Int) (Sl.mk none 0 0) q λ(h:Int) u=>J h u) (J e q)) λ(z:Int) i=>br (z !=0) (R (none,z) i) (c6 (bQ [av,aK,(ab .i64),(ab .i64),(ab .i64),ay]) 6 i b λ(x:(Option Addr×ByteArray×Int×Int×Int×Bool))=>aI i #[(.pointer x.1),(.string x.2.1),(.int .i64 x.2.2.1),(.int .i64 x.2.2.2.1),(.int .i64 x.2.2.2.2.1),(.bool x.2.2.2.2.2),(.slice none 0 0),(.int .i64 0),(.slice none 0 0),(.int .i64 0)] GD λj v=>R (some j,(0:Int)) v)) (cut Int (λc=>br (r.2==0) (GR.sp (some b) (0:Int) (Sl.mk none 0 0) f λ(k:Int) l=>c k l) (c r.2 f)) λ(d:Int) m=>br (d !=0) (R (none,d) m) (c6 (bQ [av,aK,(ab .i64),(ab .i64),(ab .i64),ay]) 6 m b λ(a:(Option Addr×ByteArray×Int×Int×Int×Bool))=>aI m #[(.pointer a.1),(.string a.2.1),(.int .i64 a.2.2.1),(.int .i64 a.2.2.2.1),(.int .i64 a.2.2.2.2.1),(.bool a.2.2.2.2.2),(.slice none 0 0),(.int .i64 0),(.slice none 0 0),(.int .i64 0)] GD λn o=>R (some n,(0:Int)) o))
theorem GN.of:∀{p name width H R},GN.vc p name width H R->GN.sp p name width H R:=aU [(100006,[(9,(ab .i64))]),(100006,[(9,(ab .i64))])] (by kernel_rfl)
def DD.vc (l:Int)(d:Sl)(e:Option Addr)(m:Int)(f:Sl)(g:Option Addr)(H:aa)(R:Kp Bool):Prop:=
 aI H #[(.int .i64 l),d.v,(.pointer e)] jS λp H1=>aI H1 #[(.int .i64 m),f.v,(.pointer g)] jS λa h=>ld ak h (p.add 1) λ(x:Sl)=>ld ak h (a.add 1) λ(i:Sl)=>wN.sp x i h λ(c:Int) b=>br ((decide (c<0))==false) (br (c==0) (ld (ab .i64) b (p.add 0) λ(j:Int)=>ld (ab .i64) b (a.add 0) λ(k:Int)=>R (decide (j<k)) b) (R false b)) (R true b)
theorem DD.of:∀{e a b f c d H R},DD.vc e a b f c d H R->DD.sp e a b f c d H R:=aU [] (by kernel_rfl)
def Gx.vc (h:Option Addr)(f:Int)(b:Sl)(c:Option Addr)(H:aa)(R:Kp Int):Prop:=
 aI H #[(.int .i64 f),b.v,(.pointer c)] jS λp H1=>ld av H1 (p.add 2) λ(x:Option Addr)=>E0.sp x H1 λ(r:(Sl×Bool×Int)) a=>br ((r.2.2==0)&&r.2.1) (ld (ab .i64) a (p.add 0) λ(d:Int)=>ld av a (p.add 2) λ(e:Option Addr)=>Ju.sp h d r.1 e a λ(_:Unit) g=>R r.2.2 g) (R r.2.2 a)
theorem Gx.of:∀{h c a b H R},Gx.vc h c a b H R->Gx.sp h c a b H R:=aU [] (by kernel_rfl)
def IQ.vc (h:Option Addr)(H:aa)(R:Kp (Int×Sl×Option Addr)):Prop:=
 aI H (zc NX jS) jS λp H1=>∃G:aa->Prop,G H1/\ae h λa=>dv ak G (a.add 0) λ(x:Sl)=>ae x.a λT=>(0<=(0:Int)/\(0:Int)<(x.n:Int))/\K6 (bQ [(ab .i64),ak,av]) 3 G (T.add ((0:Int).toNat*3)) λ(s:(Int×Sl×Option Addr))=>ae h λU=>dv ak G (U.add 0) λ(d:Sl)=>aI H1 (zc NX jS) jS λw H2=>G H2/\ji NX (Og jS (.pointer (some w)) (.agg #[(.int .i64 s.1),s.2.1.v,(.pointer s.2.2)])) H2 λA=>G A/\ae h λV=>ld ak A (V.add 0) λ(B:Sl)=>ae h λW=>ld ak A (W.add 0) λ(C:Sl)=>ae C.a λX=>(0<=(NY.wrap ((d.n:Int) - 1))/\(NY.wrap ((d.n:Int) - 1))<(C.n:Int))/\c6 (bQ [(ab .i64),ak,av]) 3 A (X.add ((NY.wrap ((d.n:Int) - 1)).toNat*3)) λ(t:(Int×Sl×Option Addr))=>ae B.a λY=>(0<=(0:Int)/\(0:Int)<(B.n:Int))/\ji NX (Og jS (.pointer (some (Y.add ((0:Int).toNat*3)))) (.agg #[(.int .i64 t.1),t.2.1.v,(.pointer t.2.2)])) A λH4=>ae h λZ=>ld ak H4 (Z.add 0) λ(k:Sl)=>(0<=(NY.wrap ((d.n:Int) - 1))/\(NY.wrap ((d.n:Int) - 1))<=(k.c:Int))/\ae h λaf=>st H4 (af.add 0) (.slice (cw k.a k.c 0 3) (((NY.wrap ((d.n:Int) - 1)).toNat) - 0) (k.c - 0)) λH5=>aw Int 0 H5 λnext i H6=>aw (Int×Int) (i,(0:Int)) H6 λb z c=>br (decide (z.2<2)) (rL (ab .i64) NX (Instr.index ME (.agg #[(.int .i64 (NY.wrap ((NY.wrap ((2:Int)*i))+1))),(.int .i64 (NY.wrap ((NY.wrap ((2:Int)*i))+2)))]) (.int .i64 z.2)) λ(y:Int)=>br (decide (y<(NY.wrap ((d.n:Int) - 1)))) (ae h λan=>ld gh c (an.add 1) λ(a1:Value)=>ae h λD=>ld ak c (D.add 0) λ(E:Sl)=>ae E.a λF=>(0<=y/\y<(E.n:Int))/\c6 (bQ [(ab .i64),ak,av]) 3 c (F.add (y.toNat*3)) λ(u:(Int×Sl×Option Addr))=>ae h λI=>ld ak c (I.add 0) λ(l:Sl)=>ae l.a λJ=>(0<=z.1/\z.1<(l.n:Int))/\c6 (bQ [(ab .i64),ak,av]) 3 c (J.add (z.1.toNat*3)) λ(e:(Int×Sl×Option Addr))=>yp NX a1 [(.agg #[(.int .i64 u.1),u.2.1.v,(.pointer u.2.2)]),(.agg #[(.int .i64 e.1),e.2.1.v,(.pointer e.2.2)])] c λ(r:Bool) H8=>br r (b (y,NY.wrap (z.2+1)) H8) (b (z.1,NY.wrap (z.2+1)) H8)) (b (z.1,NY.wrap (z.2+1)) c)) (br (z.1==i) (c6 (bQ [(ab .i64),ak,av]) 3 c w λ(f:(Int×Sl×Option Addr))=>ji NX (Og jS (.pointer (some p)) (.agg #[(.int .i64 f.1),f.2.1.v,(.pointer f.2.2)])) c λH9=>c6 (bQ [(ab .i64),ak,av]) 3 H9 p λ(res:(Int×Sl×Option Addr))=>R (res.1,res.2.1,res.2.2) H9) (ae h λK=>ld ak c (K.add 0) λ(m:Sl)=>ae h λL=>ld ak c (L.add 0) λ(n:Sl)=>ae h λM=>ld ak c (M.add 0) λ(o:Sl)=>ae o.a λN=>(0<=z.1/\z.1<(o.n:Int))/\c6 (bQ [(ab .i64),ak,av]) 3 c (N.add (z.1.toNat*3)) λ(g:(Int×Sl×Option Addr))=>ae h λO=>ld ak c (O.add 0) λ(q:Sl)=>ae q.a λP=>(0<=i/\i<(q.n:Int))/\c6 (bQ [(ab .i64),ak,av]) 3 c (P.add (i.toNat*3)) λ(j:(Int×Sl×Option Addr))=>ae m.a λQ=>(0<=i/\i<(m.n:Int))/\ji NX (Og jS (.pointer (some (Q.add (i.toNat*3)))) (.agg #[(.int .i64 g.1),g.2.1.v,(.pointer g.2.2)])) c λa6=>ae n.a λS=>(0<=z.1/\z.1<(n.n:Int))/\ji NX (Og jS (.pointer (some (S.add (z.1.toNat*3)))) (.agg #[(.int .i64 j.1),j.2.1.v,(.pointer j.2.2)])) a6 λa7=>next z.1 a7))
theorem IQ.of:∀{h H R},IQ.vc h H R->IQ.sp h H R:=aU [(5,[(5,(ab .i64))]),(7,[(6,(ab .i64)),(50,(ab .i64))])] (by kernel_rfl)
def yM.vc (w:Option Addr)(l:Sl)(H:aa)(R:Kp Int):Prop:=
 br w.isNone (R (1:Int) H) (ae w λa=>Gv.sp (some (a.add 0)) H λ(e:Int) H1=>br (e !=0) (R e H1) (cut Unit (λJ=>ae w λg=>ld (ab .i64) H1 ((g.add 0).add 2) λ(x:Int)=>br ((l.n:Int)!=x) (R (60:Int) H1) (ae w λh=>ld (ab .i64) H1 (h.add 9) λ(i:Int)=>br (decide (i>0)) (ae w λj=>ld ak H1 (j.add 8) λ(k:Sl)=>wN.sp l k H1 λ(r:Int) F=>br (decide (r<=0)) (R (70:Int) F) (J () F)) (J () H1))) λ(_:Unit) I=>∃G:aa->Prop,G I/\ae w λm=>dv ak G (m.add 6) λ(n:Sl)=>zk.sp l I λ(o:Sl) K=>G K/\ba ak NX (N2 #[dP,dP] dP #[n.v,o.v]) K λ(s:Sl) N=>ae w λp=>st N (p.add 6) s.v λO=>GY.sp l O λ(q:Sl) P=>ae w λt=>st P (t.add 8) q.v λL=>ae w λu=>ld (ab .i64) L (u.add 9) λ(v:Int)=>ae w λy=>st L (y.add 9) (.int .i64 (NY.wrap (v+1))) λM=>ae w λz=>ld (ab .i64) M (z.add 7) λ(A:Int)=>ae w λc=>st M (c.add 7) (.int .i64 (NY.wrap (A+1))) λb=>ae w λd=>ld (ab .i64) b (d.add 7) λ(B:Int)=>ae w λf=>ld (ab .i64) b ((f.add 0).add 3) λ(C:Int)=>br (decide (B<C)) (R (0:Int) b) (HU.sp w b λ(D:Int) E=>R D E)))
theorem yM.of:∀{w l H R},yM.vc w l H R->yM.sp w l H R:=aU [(100010,[])] (by kernel_rfl)
def Hv.vc (r:Option Addr)(H:aa)(R:Kp Unit):Prop:=
 br (!r.isNone) (ae r λa=>st H ((a.add 0).add 5) (.bool true) λH1=>R () H1) (R () H)
theorem Hv.of:∀{r H R},Hv.vc r H R->Hv.sp r H R:=aU [] (by kernel_rfl)
def Fu.vc (w:Option Addr)(H:aa)(R:Kp (Int×Int)):Prop:=
 br w.isNone (R ((0:Int),(1:Int)) H) (ae w λa=>Gv.sp (some (a.add 0)) H λ(e:Int) H1=>br (e==0) (HU.sp w H1 λ(t:Int) H2=>br (t !=0) (R ((0:Int),t) H2) (ae w λcB=>ld av H2 ((cB.add 0).add 0) λ(x:Option Addr)=>ae w λc0=>ld aK H2 ((c0.add 0).add 1) λ(c3:ByteArray)=>GK.sp x c3 (0:Int) H2 λ(r:(Int×Int)) H3=>cut Int (λJ=>br (r.2==0) (∃G:aa->Prop,G H3/\ae w λc4=>dv av G ((c4.add 0).add 0) λ(l:Option Addr)=>ae w λc5=>dv (ab .i64) G ((c5.add 0).add 2) λ(m:Int)=>ae w λdc=>dv (ab .i64) G (dc.add 9) λ(u:Int)=>(aI H3 #[(.int .u8 (OW.wrap m))] fw λp H5=>G H5/\aI H5 #[(.int .u64 (OA.wrap u))] gR λdk H6=>G H6/\zk.sp (Sl.mk (some dk) 1 1) H6 λ(dm:Sl) H7=>G H7/\ba ak NX (N2 #[dP,dP] dP #[(.slice (some p) 1 1),dm.v]) H7 λ(s:Sl) H8=>G H8/\Ae.sp l r.1 (2:Int) s H8 λ(dn:Int) H9=>G H9/\J dn H9)/\(aI H3 #[(.int .u64 (OA.wrap u))] gR λv n=>G n/\(aI n #[(.int .u8 (OW.wrap m))] fw λdA y=>G y/\zk.sp (Sl.mk (some v) 1 1) y λ(dB:Sl) A=>G A/\ba ak NX (N2 #[dP,dP] dP #[(.slice (some dA) 1 1),dB.v]) A λ(dD:Sl) B=>G B/\Ae.sp l r.1 (2:Int) dD B λ(dT:Int) C=>G C/\J dT C)/\(zk.sp (Sl.mk (some v) 1 1) n λ(ea:Sl) D=>G D/\aI D #[(.int .u8 (OW.wrap m))] fw λeb E=>G E/\ba ak NX (N2 #[dP,dP] dP #[(.slice (some eb) 1 1),ea.v]) E λ(ec:Sl) F=>G F/\Ae.sp l r.1 (2:Int) ec F λ(ed:Int) I=>G I/\J ed I))) (J r.2 H3)) λ(z:Int) H4=>cut Int (λK=>br (z==0) (ae w λee=>ld av H4 ((ee.add 0).add 0) λ(eg:Option Addr)=>Ds.sp eg r.1 H4 λ(ei:Int) ej=>K ei ej) (K z H4)) λ(L:Int) g=>cut Int (λM=>br (L==0) (ae w λek=>ld av g ((ek.add 0).add 0) λ(en:Option Addr)=>ae w λeo=>ld aK g ((eo.add 0).add 1) λ(ep:ByteArray)=>II.sp en ep g λ(er:Int) et=>M er et) (M L g)) λ(N:Int) eu=>ae w λev=>By.sp (some (ev.add 0)) N eu λ(ew:Int) O=>br (ew !=0) (R ((0:Int),N) O) (ae w λP=>st O ((P.add 0).add 5) (.bool true) λQ=>ae w λS=>ld (ab .i64) Q (S.add 9) λ(ey:Int)=>R (ey,(0:Int)) Q))) (br (e !=0) (R ((0:Int),e) H1) (ae w λT=>ld av H1 ((T.add 0).add 0) λ(eA:Option Addr)=>ae w λU=>ld aK H1 ((U.add 0).add 1) λ(V:ByteArray)=>GK.sp eA V (0:Int) H1 λ(c:(Int×Int)) h=>cut Int (λi=>br (c.2==0) (∃b:aa->Prop,b h/\ae w λW=>dv av b ((W.add 0).add 0) λ(d:Option Addr)=>ae w λX=>dv (ab .i64) b ((X.add 0).add 2) λ(f:Int)=>ae w λY=>dv (ab .i64) b (Y.add 9) λ(k:Int)=>(aI h #[(.int .u8 (OW.wrap f))] fw λeB Z=>b Z/\aI Z #[(.int .u64 (OA.wrap k))] gR λeC af=>b af/\zk.sp (Sl.mk (some eC) 1 1) af λ(eD:Sl) an=>b an/\ba ak NX (N2 #[dP,dP] dP #[(.slice (some eB) 1 1),eD.v]) an λ(eE:Sl) a1=>b a1/\Ae.sp d c.1 (2:Int) eE a1 λ(eI:Int) a6=>b a6/\i eI a6)/\(aI h #[(.int .u64 (OA.wrap k))] gR λa7 o=>b o/\(aI o #[(.int .u8 (OW.wrap f))] fw λe0 a8=>b a8/\zk.sp (Sl.mk (some a7) 1 1) a8 λ(e1:Sl) bb=>b bb/\ba ak NX (N2 #[dP,dP] dP #[(.slice (some e0) 1 1),e1.v]) bb λ(e3:Sl) bd=>b bd/\Ae.sp d c.1 (2:Int) e3 bd λ(e4:Int) bl=>b bl/\i e4 bl)/\(zk.sp (Sl.mk (some a7) 1 1) o λ(e5:Sl) bn=>b bn/\aI bn #[(.int .u8 (OW.wrap f))] fw λe6 bs=>b bs/\ba ak NX (N2 #[dP,dP] dP #[(.slice (some e6) 1 1),e5.v]) bs λ(e7:Sl) bx=>b bx/\Ae.sp d c.1 (2:Int) e7 bx λ(e8:Int) bA=>b bA/\i e8 bA))) (i c.2 h)) λ(bB:Int) q=>cut Int (λbC=>br (bB==0) (ae w λbD=>ld av q ((bD.add 0).add 0) λ(bM:Option Addr)=>Ds.sp bM c.1 q λ(bO:Int) e9=>bC bO e9) (bC bB q)) λ(b0:Int) j=>cut Int (λb1=>br (b0==0) (ae w λb2=>ld av j ((b2.add 0).add 0) λ(b3:Option Addr)=>ae w λb4=>ld aK j ((b4.add 0).add 1) λ(b5:ByteArray)=>II.sp b3 b5 j λ(b6:Int) fa=>b1 b6 fa) (b1 b0 j)) λ(b9:Int) fb=>ae w λcb=>By.sp (some (cb.add 0)) b9 fb λ(ff:Int) ck=>br (ff !=0) (R ((0:Int),b9) ck) (ae w λcm=>st ck ((cm.add 0).add 5) (.bool true) λcx=>ae w λcy=>ld (ab .i64) cx (cy.add 9) λ(cz:Int)=>R (cz,(0:Int)) cx))))
theorem Fu.of:∀{w H R},Fu.vc w H R->Fu.sp w H R:=aU [(100011,[(4,(ab .i64))]),(300010,[(12,ay),(20,ay)]),(100013,[(4,(ab .i64))]),(100015,[(4,(ab .i64))]),(100011,[(4,(ab .i64))]),(100013,[(4,(ab .i64))]),(100015,[(4,(ab .i64))])] (by kernel_rfl)
def GY.vc (s:Sl)(H:aa)(R:Kp Sl):Prop:=
 br s.a.isNone (R (Sl.mk none 0 0) H) (aI H #[] gR λp H1=>ba ak NX (N2 #[dZ,dZ] dZ #[(.slice (some p) 0 0),s.v]) H1 λ(a:Sl) b=>R a b)
theorem GY.of:∀{s H R},GY.vc s H R->GY.sp s H R:=aU [] (by kernel_rfl)
def E6.vc (s:Option Addr)(H:aa)(R:Kp Int):Prop:=
 ae s λa=>ld ak H (a.add 4) λ(x:Sl)=>MC.sp x (.func (.func wN.no) #[] #[]) H λ(_:Unit) H1=>ae s λd=>ld ak H1 (d.add 4) λ(f:Sl)=>Jv.sp f H1 λ(l:Sl) C=>I2.sp s C λ(name:ByteArray) A=>ae s λg=>ld ak A (g.add 5) λ(h:Sl)=>aI A #[(.string name)] dH λp D=>ba ak NX (N2 #[dS,dS] dS #[h.v,(.slice (some p) 1 1)]) D λ(i:Sl) E=>ae s λj=>st E (j.add 4) (.slice none 0 0) λF=>ae s λk=>st F (k.add 5) i.v λm=>ae s λn=>ld av m (n.add 0) λ(o:Option Addr)=>ae s λq=>ld (ab .i64) m (q.add 2) λ(r:Int)=>GN.sp o name r m λ(b:(Option Addr×Int)) B=>br (b.2!=0) (R b.2 B) (aw Int 0 B λnext z t=>br (decide (z<(l.n:Int))) (ae l.a λu=>(0<=z/\z<(l.n:Int))/\ld ak t (u.add (z.toNat*1)) λ(v:Sl)=>yM.sp b.1 v t λ(e:Int) c=>br (e !=0) (R e c) (next (NY.wrap (z+1)) c)) (Fu.sp b.1 t λ(w:(Int×Int)) y=>R w.2 y))
theorem E6.of:∀{s H R},E6.vc s H R->E6.sp s H R:=aU [(9,[(52,(ab .i64))])] (by kernel_rfl)
def Iv.vc (p:Option Addr)(name:ByteArray)(width:Int)(H:aa)(R:Kp (Option Addr×Int)):Prop:=
 Ha.sp p name width H λ(r:((Option Addr×ByteArray×Int×Int×Int×Bool)×Int)) H1=>aI H1 (zc NX qU) qU λe v=>ji NX (Og qU (.pointer (some e)) (.agg #[(.pointer r.1.1),(.string r.1.2.1),(.int .i64 r.1.2.2.1),(.int .i64 r.1.2.2.2.1),(.int .i64 r.1.2.2.2.2.1),(.bool r.1.2.2.2.2.2)])) v λt=>br (r.2!=0) (R (none,r.2) t) (Hh.sp (some e) (0:Int) t λ(b:(Int×Sl×Int)) g=>br (b.2.2!=0) (R (none,b.2.2) g) (br ((b.1!=2)||((b.2.1.n:Int)!=9)) (R (none,(280:Int)) g) (ae b.2.1.a λa=>(0<=(0:Int)/\(0:Int)<(b.2.1.n:Int))/\ld (ab .u8) g (a.add ((0:Int).toNat*1)) λ(x:Int)=>br ((NY.wrap x)!=width) (R (none,(280:Int)) g) (Hu.sp p g λ(k:Option Addr) w=>DA.sp k name w λ(f:(Int×Int)) u=>br (f.2!=0) (R (none,f.2) u) ((0<=(1:Int)/\(1:Int)<=(b.2.1.n:Int))/\GQ.sp (Sl.mk (cw b.2.1.a b.2.1.c ((1:Int).toNat) 1) (b.2.1.n - ((1:Int).toNat)) (b.2.1.c - ((1:Int).toNat))) (1:Int) u λ(h:(Sl×Int)) j=>ae h.1.a λl=>(0<=(0:Int)/\(0:Int)<(h.1.n:Int))/\ld ak j (l.add ((0:Int).toNat*1)) λ(i:Sl)=>ae i.a λm=>(0<=(0:Int)/\(0:Int)<(i.n:Int))/\ld (ab .u64) j (m.add ((0:Int).toNat*1)) λ(rows:Int)=>br (decide (rows<=528482304)) (Jp.sp (some e) (NY.wrap rows) j λ(o:Int) q=>br (f.1==(NY.wrap ((1:Int)+o))) (c6 (bQ [av,aK,(ab .i64),(ab .i64),(ab .i64),ay]) 6 q e λ(d:(Option Addr×ByteArray×Int×Int×Int×Bool))=>aI q #[(.pointer d.1),(.string d.2.1),(.int .i64 d.2.2.1),(.int .i64 d.2.2.2.1),(.int .i64 d.2.2.2.2.1),(.bool d.2.2.2.2.2),(.int .i64 (NY.wrap rows)),(.int .i64 0),(.int .i64 (-1)),(.slice none 0 0)] L7 λs y=>R (some s,(0:Int)) y) (R (none,(280:Int)) q)) (R (none,(280:Int)) j))))))
theorem Iv.of:∀{p name width H R},Iv.vc p name width H R->Iv.sp p name width H R:=aU [] (by kernel_rfl)
def E0.vc (r:Option Addr)(H:aa)(R:Kp (Sl×Bool×Int)):Prop:=
 br r.isNone (R ((Sl.mk none 0 0),false,(1:Int)) H) (ae r λa=>Gv.sp (some (a.add 0)) H λ(e:Int) H1=>br (e !=0) (R ((Sl.mk none 0 0),false,e) H1) (ae r λj=>ld (ab .i64) H1 (j.add 7) λ(x:Int)=>ae r λk=>ld (ab .i64) H1 (k.add 6) λ(m:Int)=>br (x==m) (R ((Sl.mk none 0 0),false,e) H1) (ae r λn=>ld (ab .i64) H1 (n.add 7) λ(o:Int)=>ae r λp=>ld (ab .i64) H1 ((p.add 0).add 3) λ(f:Int)=>f≠0/\J4.sp r (NY.wrap (OP o f)) H1 λ(g:Int) d=>br (g !=0) (R ((Sl.mk none 0 0),false,g) d) (ae r λq=>ld ak d (q.add 9) λ(h:Sl)=>ae r λs=>ld (ab .i64) d (s.add 7) λ(c:Int)=>ae r λt=>ld (ab .i64) d ((t.add 0).add 3) λ(b:Int)=>b≠0/\ae h.a λu=>(0<=(Pf c b)/\(Pf c b)<(h.n:Int))/\ld ak d (u.add ((Pf c b).toNat*1)) λ(v:Sl)=>GY.sp v d λ(l:Sl) z=>ae r λw=>ld (ab .i64) z (w.add 7) λ(y:Int)=>ae r λi=>st z (i.add 7) (.int .i64 (NY.wrap (y+1))) λA=>R (l,true,(0:Int)) A))))
theorem E0.of:∀{r H R},E0.vc r H R->E0.sp r H R:=aU [] (by kernel_rfl)
def ID.vc (d:Option Addr)(H:aa)(R:Kp Sl):Prop:=
 Dn.sp d H λ(r:Int) H1=>br (r !=0) (R (Sl.mk none 0 0) H1) (ae d λa=>ld bT H1 (a.add 0) λ(x:Option Nat)=>K8.sp x H1 λ(b:Value) e=>Kw.sp b e λ(c:Sl) f=>R c f)
theorem ID.of:∀{d H R},ID.vc d H R->ID.sp d H R:=aU [] (by kernel_rfl)
def I3.vc (p:Option Addr)(H:aa)(R:Kp Int):Prop:=
 br (!p.isNone) (ae p λa=>ld bT H (a.add 2) λ(x:Option Nat)=>ba av NX (PY xK (.map x)) H λ(it:Option Addr) H1=>aw Int 0 H1 λnext n g=>ba fV NX (PU (.pointer it) false Aa) g λ(h:Bool×List Value) d=>br h.1 (ba oy NX (PD (.pointer it)) d λ(i:Value×Value) e=>HF av i.2 λ(f:Option Addr)=>ae f λc=>ld (ab .i64) e (c.add 5) λ(b:Int)=>next (NY.wrap (n+(if (1:Int)<b then (1:Int) else b))) e) (R n d)) (R (0:Int) H)
theorem I3.of:∀{p H R},I3.vc p H R->I3.sp p H R:=aU [(4,[(3,(ab .i64))])] (by kernel_rfl)
def KZ.vc (s1 s2:Sl)(H:aa)(R:Kp Int):Prop:=
 aw Int 0 H λnext z H1=>br (decide (z<(s1.n:Int))) (ae s1.a λa=>(0<=z/\z<(s1.n:Int))/\ld (ab .u64) H1 (a.add (z.toNat*1)) λ(v1:Int)=>br (decide (z>=(s2.n:Int))) (R (1:Int) H1) (ae s2.a λb=>(0<=z/\z<(s2.n:Int))/\ld (ab .u64) H1 (b.add (z.toNat*1)) λ(v2:Int)=>Gy.sp v1 v2 H1 λ(c:Int) d=>br (c !=0) (R c d) (next (NY.wrap (z+1)) d))) (br (decide ((s1.n:Int)<(s2.n:Int))) (R (-1:Int) H1) (R (0:Int) H1))
theorem KZ.of:∀{s1 s2 H R},KZ.vc s1 s2 H R->KZ.sp s1 s2 H R:=aU [(2,[(13,(ab .i64))])] (by kernel_rfl)
def Gy.vc (x y:Int)(H:aa)(R:Kp Int):Prop:=
 Ht.sp x H λ(c:Bool) H1=>Ht.sp y H1 λ(a:Bool) b=>br c (br a (R (0:Int) b) (R (-1:Int) b)) (br a (R (1:Int) b) (br (decide (x<y)) (R (-1:Int) b) (br (decide (x>y)) (R (1:Int) b) (R (0:Int) b))))
theorem Gy.of:∀{x y H R},Gy.vc x y H R->Gy.sp x y H R:=aU [] (by kernel_rfl)
def J3.vc (quota:Int)(H:aa)(R:Kp (Option Addr)):Prop:=
 aI H #[(.slice none 0 0),(.int .i64 0),(.int .i64 (if (1048576:Int)<(if (0:Int)>quota then (0:Int) else quota) then (1048576:Int) else (if (0:Int)>quota then (0:Int) else quota))),(.int .i64 0),(.int .i64 0),(.bool false),(.int .i64 0),(.int .u64 0),(.bool false)] wL λp H1=>R (some p) H1
theorem J3.of:∀{quota H R},J3.vc quota H R->J3.sp quota H R:=aU [] (by kernel_rfl)
def JE.vc (d:Option Addr)(p keep:Int)(H:aa)(R:Kp Unit):Prop:=
 Dn.sp d H λ(r:Int) H1=>br (r==0) (ae d λa=>ji NX (Og MB (.pointer (some (a.add 6))) (.agg #[(.bool true),(.int .i64 (if (0:Int)>p then (0:Int) else p)),(.int .u64 keep)])) H1 λb=>R () b) (R () H1)
theorem JE.of:∀{d p keep H R},JE.vc d p keep H R->JE.sp d p keep H R:=aU [] (by kernel_rfl)
def Jk.vc (d:Option Addr)(p keep:Int)(H:aa)(R:Kp Unit):Prop:=
 ae d λa=>ld ay H (a.add 8) λ(x:Bool)=>br x (R () H) (ae d λb=>st H (b.add 5) (.bool true) λH1=>ae d λc=>st H1 (c.add 6) (.int .i64 (if (0:Int)>p then (0:Int) else p)) λf=>ae d λe=>st f (e.add 7) (.int .u64 keep) λg=>R () g)
theorem Jk.of:∀{d p keep H R},Jk.vc d p keep H R->Jk.sp d p keep H R:=aU [] (by kernel_rfl)
def JW.vc (d:Option Addr)(frames:Int)(H:aa)(R:Kp (Option Addr×Int)):Prop:=
 br d.isNone (R (none,(1:Int)) H) (br (decide (frames<8)) (R (none,(30:Int)) H) (br (decide (frames>4096)) (R (none,(3:Int)) H) (aI H #[(.pointer d),(.int .i64 frames),(.slice none 0 0),(.int .i64 1),(.int .i64 0),(.int .i64 0),(.int .i64 0)] rv λp H1=>R (some p,(0:Int)) H1)))
theorem JW.of:∀{d frames H R},JW.vc d frames H R->JW.sp d frames H R:=aU [] (by kernel_rfl)
def A9.vc (width:Int)(H:aa)(R:Kp Int):Prop:=
 HT.sp width H λ(n:Int) H1=>br (n==0) (R (0:Int) H1) (n≠0/\R (NY.wrap (OP (504:Int) n)) H1)
theorem A9.of:∀{width H R},A9.vc width H R->A9.sp width H R:=aU [] (by kernel_rfl)
def JS.vc (d:Option Addr)(H:aa)(R:Kp Int):Prop:=
 br d.isNone (R (0:Int) H) (ae d λa=>ld (ab .i64) H (a.add 4) λ(x:Int)=>R x H)
theorem JS.of:∀{d H R},JS.vc d H R->JS.sp d H R:=aU [] (by kernel_rfl)
def JR.vc (d:Option Addr)(H:aa)(R:Kp Bool):Prop:=
 br (!d.isNone) (ae d λa=>ld ay H (a.add 9) λ(x:Bool)=>R x H) (R false H)
theorem JR.of:∀{d H R},JR.vc d H R->JR.sp d H R:=aU [] (by kernel_rfl)
def JY.vc (d:Option Addr)(H:aa)(R:Kp Int):Prop:=
 br d.isNone (R (0:Int) H) (ae d λa=>ld (ab .i64) H (a.add 2) λ(x:Int)=>R x H)
theorem JY.of:∀{d H R},JY.vc d H R->JY.sp d H R:=aU [] (by kernel_rfl)
def Kd.vc (p:Option Addr)(H:aa)(R:Kp Int):Prop:=
 br p.isNone (R (0:Int) H) (ae p λa=>ld bT H (a.add 2) λ(x:Option Nat)=>AH H x λ(n:Nat)=>R (n:Int) H)
theorem Kd.of:∀{p H R},Kd.vc p H R->Kd.sp p H R:=aU [] (by kernel_rfl)
def Jd.vc (p:Option Addr)(H:aa)(R:Kp Int):Prop:=
 aw (Int×Int) ((0:Int),(0:Int)) H λnext z H1=>ae p λa=>ld ak H1 (a.add 2) λ(x:Sl)=>br (decide (z.2<(x.n:Int))) (ae p λc=>ld ak H1 (c.add 2) λ(b:Sl)=>ae b.a λd=>(0<=z.2/\z.2<(b.n:Int))/\ld ak H1 ((d.add (z.2.toNat*7)).add 5) λ(e:Sl)=>br (decide ((e.n:Int)>0)) (next (NY.wrap (z.1+1),NY.wrap (z.2+1)) H1) (next (z.1,NY.wrap (z.2+1)) H1)) (R z.1 H1)
theorem Jd.of:∀{p H R},Jd.vc p H R->Jd.sp p H R:=aU [(3,[(3,(ab .i64)),(4,(ab .i64))])] (by kernel_rfl)
def Ji.vc (d:Option Addr)(H:aa)(R:Kp Unit):Prop:=
 br d.isNone (R () H) (ae d λa=>ld ay H (a.add 9) λ(x:Bool)=>br (!x) (R () H) (ae d λW=>ld bT H (W.add 0) λ(X:Option Nat)=>ba av NX (PY yI (.map X)) H λ(it:Option Addr) H1=>aw Sl (Sl.mk none 0 0) H1 λnext order H2=>ba fV NX (PU (.pointer it) false Aa) H2 λ(nx:Bool×List Value) H3=>br nx.1 (ba oy NX (PD (.pointer it)) H3 λ(en:Value×Value) H4=>HF av en.2 λ(f:Option Addr)=>ae f λY=>ld ak H4 (Y.add 2) λ(n:Sl)=>aw (Sl×Int) (order,(0:Int)) H4 λi z Z=>br (decide (z.2<(n.n:Int))) (ae n.a λaf=>(0<=z.2/\z.2<(n.n:Int))/\c6 jO 514 Z (af.add (z.2.toNat*514)) λ(an:Array Value)=>aI Z (zc NX qP) qP λp H6=>ji NX (Og qP (.pointer (some p)) (.agg an)) H6 λH7=>ld (ab .i64) H7 (p.add 0) λ(a1:Int)=>aI H7 #[(.int .i64 a1)] hZ λa6 H8=>ba ak NX (N2 #[Dd,Dd] Dd #[z.1.v,(.slice (some a6) 1 1)]) H8 λ(h:Sl) H9=>i (h,NY.wrap (z.2+1)) H9) (next z.1 Z)) (MA.sp order H3 λ(_:Unit) a7=>ae d λa8=>st a7 (a8.add 1) (.int .i64 0) λr=>ae d λbb=>ld bT r (bb.add 0) λ(bd:Option Nat)=>ba av NX (PY yI (.map bd)) r λ(m:Option Addr) bl=>aw Unit () bl λj _ bn=>ba fV NX (PU (.pointer m) false Aa) bn λ(s:Bool×List Value) t=>br s.1 (ba oy NX (PD (.pointer m)) t λ(u:Value×Value) w=>HF av u.2 λ(b:Option Addr)=>ae b λbs=>ld ak w (bs.add 1) λ(bx:Sl)=>Dp.sp bx w λ(bA:Sl) bB=>ae b λbC=>st bB (bC.add 0) bA.v λy=>ae b λbD=>ld ak y (bD.add 2) λ(o:Sl)=>aw Int 0 y λc e k=>br (decide (e<(o.n:Int))) (ae o.a λbM=>(0<=e/\e<(o.n:Int))/\c6 jO 514 k (bM.add (e.toNat*514)) λ(bO:Array Value)=>aI k (zc NX qP) qP λl b0=>ji NX (Og qP (.pointer (some l)) (.agg bO)) b0 λA=>ld (ab .i64) A (l.add 0) λ(b1:Int)=>IB.sp order b1 A λ(B:(Int×Bool)) g=>ae d λC=>ld (ab .u64) g ((C.add 6).add 2) λ(D:Int)=>0<=(Pf B.1 (64:Int))/\br ((lH .u64 (dF .u64 D (Pf B.1 (64:Int))) (1:Int))==1) (ae b λE=>ld ak g (E.add 0) λ(F:Sl)=>ld (ab .i64) g (l.add 1) λ(G:Int)=>c6 jO 512 g (l.add 2) λ(I:Array Value)=>GC.sp F G I g λ(b2:Sl) b3=>ae b λJ=>st b3 (J.add 0) b2.v λb4=>c (NY.wrap (e+1)) b4) (c (NY.wrap (e+1)) g)) (ae b λK=>ld ak k (K.add 0) λ(L:Sl)=>Dp.sp L k λ(b5:Sl) b6=>ae b λM=>st b6 (M.add 1) b5.v λb9=>ae b λN=>st b9 (N.add 2) (.slice none 0 0) λq=>ae d λO=>ld (ab .i64) q (O.add 1) λ(P:Int)=>ae b λQ=>ld ak q (Q.add 0) λ(S:Sl)=>ae d λT=>st q (T.add 1) (.int .i64 (NY.wrap (P+(S.n:Int)))) λcb=>j () cb)) (ae d λU=>st t (U.add 9) (.bool false) λck=>ae d λV=>ji NX (Og MB (.pointer (some (V.add 6))) (.agg #[(.bool false),(.int .i64 0),(.int .u64 0)])) ck λcm=>R () cm))))
theorem Ji.of:∀{d H R},Ji.vc d H R->Ji.sp d H R:=aU [(3,[(2,ak)]),(6,[(2,ak),(36,(ab .i64))]),(13,[]),(17,[(73,(ab .i64))])] (by kernel_rfl)
def Ke.vc (d:Option Addr)(H:aa)(R:Kp Unit):Prop:=
 ae d λa=>ld ay H (a.add 8) λ(x:Bool)=>br (!x) (R () H) (aw (Sl×Int) ((Sl.mk none 0 0),(0:Int)) H λnext z H1=>ae d λD=>ld ak H1 (D.add 0) λ(E:Sl)=>br (decide (z.2<(E.n:Int))) (∃G:aa->Prop,G H1/\ae d λF=>dv ak G (F.add 0) λ(j:Sl)=>ae j.a λI=>(0<=z.2/\z.2<(j.n:Int))/\dv aK G ((I.add (z.2.toNat*3)).add 0) λ(J:ByteArray)=>ae d λK=>dv ak G (K.add 0) λ(l:Sl)=>ae l.a λL=>(0<=z.2/\z.2<(l.n:Int))/\dv ak G ((L.add (z.2.toNat*3)).add 1) λ(M:Sl)=>aI H1 (zc NX tZ) tZ λp H2=>G H2/\ji NX (Og tZ (.pointer (some p)) (.agg #[(.string J),M.v,(.slice none 0 0)])) H2 λH3=>aw Int 0 H3 λb k g=>ae d λN=>ld ak g (N.add 0) λ(m:Sl)=>ae m.a λO=>(0<=z.2/\z.2<(m.n:Int))/\ld ak g ((O.add (z.2.toNat*3)).add 2) λ(P:Sl)=>br (decide (k<(P.n:Int))) (ae d λQ=>ld ak g (Q.add 0) λ(n:Sl)=>ae n.a λS=>(0<=z.2/\z.2<(n.n:Int))/\ld ak g ((S.add (z.2.toNat*3)).add 2) λ(o:Sl)=>ae o.a λq=>(0<=k/\k<(o.n:Int))/\c6 (bQ [(ab .i64),(ab .i64),aK]) 3 g (q.add (k.toNat*3)) λ(c:(Int×Int×ByteArray))=>aI g (zc NX yL) yL λh H5=>ji NX (Og yL (.pointer (some h)) (.agg #[(.int .i64 c.1),(.int .i64 c.2.1),(.string c.2.2)])) H5 λT=>∃i:aa->Prop,i T/\ae d λs=>dv (ab .u64) i (s.add 7) λ(t:Int)=>ld (ab .i64) T (h.add 0) λ(u:Int)=>JX.sp d u T λ(r:Int) w=>i w/\0<=(Pf r (64:Int))/\br ((lH .u64 (dF .u64 t (Pf r (64:Int))) (1:Int))==1) (ld ak w (p.add 1) λ(y:Sl)=>c6 (bQ [(ab .i64),(ab .i64),aK]) 3 w h λ(e:(Int×Int×ByteArray))=>IT.sp y e.1 e.2.1 e.2.2 w λ(U:Sl) H8=>st H8 (p.add 1) U.v λH9=>b (NY.wrap (k+1)) H9) (b (NY.wrap (k+1)) w)) (c6 (bQ [aK,ak,ak]) 3 g p λ(f:(ByteArray×Sl×Sl))=>aI g #[(.string f.1),f.2.1.v,f.2.2.v] tZ λV W=>ba ak NX (N2 #[CX,CX] CX #[z.1.v,(.slice (some V) 1 1)]) W λ(files:Sl) X=>next (files,NY.wrap (z.2+1)) X)) (ae d λA=>st H1 (A.add 0) z.1.v λY=>ae d λB=>st Y (B.add 8) (.bool false) λZ=>ae d λC=>st Z (C.add 5) (.bool false) λaf=>R () af))
theorem Ke.of:∀{d H R},Ke.vc d H R->Ke.sp d H R:=aU [(3,[(2,ak),(3,(ab .i64))]),(7,[(5,(ab .i64))])] (by kernel_rfl)
def Jf.vc (a b:Sl)(H:aa)(R:Kp Bool):Prop:=
 br ((a.n:Int)!=(b.n:Int)) (R false H) (aw Int 0 H λnext i H1=>br (decide (i<(a.n:Int))) (ae a.a λc=>(0<=i/\i<(a.n:Int))/\ld aK H1 (c.add (i.toNat*1)) λ(x:ByteArray)=>ae b.a λd=>(0<=i/\i<(b.n:Int))/\ld aK H1 (d.add (i.toNat*1)) λ(e:ByteArray)=>br (!(x.toList==e.toList)) (R false H1) (next (NY.wrap (i+1)) H1)) (R true H1))
theorem Jf.of:∀{a b H R},Jf.vc a b H R->Jf.sp a b H R:=aU [(4,[(5,(ab .i64))])] (by kernel_rfl)
def J9.vc (d:Option Addr)(H:aa)(R:Kp Sl):Prop:=
 aw (Sl×Int) ((Sl.mk none 0 0),(0:Int)) H λnext z H1=>ae d λa=>ld ak H1 (a.add 0) λ(x:Sl)=>br (decide (z.2<(x.n:Int))) (ae d λq=>ld ay H1 (q.add 8) λ(r:Bool)=>br (!r) (aw Int 0 H1 λe b k=>br (decide (b<(z.1.n:Int))) (ae z.1.a λs=>(0<=b/\b<(z.1.n:Int))/\ld aK k (s.add (b.toNat*1)) λ(t:ByteArray)=>ae d λu=>ld ak k (u.add 0) λ(l:Sl)=>ae l.a λv=>(0<=z.2/\z.2<(l.n:Int))/\ld aK k ((v.add (z.2.toNat*3)).add 0) λ(w:ByteArray)=>br (Op.bytesLess t.toList w.toList) (e (NY.wrap (b+1)) k) ((0<=b/\b<=(z.1.c:Int))/\ba ak NX (N2 #[dS,dS] dS #[(.slice none 0 0),(.slice (cw z.1.a z.1.c 0 1) (b.toNat - 0) (z.1.c - 0))]) k λ(out:Sl) y=>ae d λA=>ld ak y (A.add 0) λ(m:Sl)=>ae m.a λB=>(0<=z.2/\z.2<(m.n:Int))/\ld aK y ((B.add (z.2.toNat*3)).add 0) λ(C:ByteArray)=>aI y #[(.string C)] dH λp K=>ba ak NX (N2 #[dS,dS] dS #[out.v,(.slice (some p) 1 1)]) K λ(f:Sl) L=>(0<=b/\b<=(z.1.n:Int))/\ba ak NX (N2 #[dS,dS] dS #[f.v,(.slice (cw z.1.a z.1.c b.toNat 1) (z.1.n - b.toNat) (z.1.c - b.toNat))]) L λ(g:Sl) M=>next (g,NY.wrap (z.2+1)) M)) ((0<=b/\b<=(z.1.c:Int))/\ba ak NX (N2 #[dS,dS] dS #[(.slice none 0 0),(.slice (cw z.1.a z.1.c 0 1) (b.toNat - 0) (z.1.c - 0))]) k λ(h:Sl) D=>ae d λE=>ld ak D (E.add 0) λ(o:Sl)=>ae o.a λF=>(0<=z.2/\z.2<(o.n:Int))/\ld aK D ((F.add (z.2.toNat*3)).add 0) λ(G:ByteArray)=>aI D #[(.string G)] dH λI N=>ba ak NX (N2 #[dS,dS] dS #[h.v,(.slice (some I) 1 1)]) N λ(i:Sl) O=>(0<=b/\b<=(z.1.n:Int))/\ba ak NX (N2 #[dS,dS] dS #[i.v,(.slice (cw z.1.a z.1.c b.toNat 1) (z.1.n - b.toNat) (z.1.c - b.toNat))]) O λ(j:Sl) J=>next (j,NY.wrap (z.2+1)) J)) (R z.1 H1)) (R z.1 H1)
theorem J9.of:∀{d H R},J9.vc d H R->J9.sp d H R:=aU [(3,[(3,ak),(4,(ab .i64))]),(6,[(5,(ab .i64))])] (by kernel_rfl)
def BW.vc (d:Option Addr)(name:ByteArray)(H:aa)(R:Kp (Int×Int)):Prop:=
 Bp.sp d name H λ(i:Int) H1=>ae d λa=>ld ay H1 (a.add 8) λ(x:Bool)=>br x (R ((0:Int),(4:Int)) H1) (br (decide (i<0)) (R ((0:Int),(11:Int)) H1) (ae d λe=>ld ak H1 (e.add 0) λ(c:Sl)=>ae c.a λf=>(0<=i/\i<(c.n:Int))/\c6 (bQ [aK,ak,ak]) 3 H1 (f.add (i.toNat*3)) λ(b:(ByteArray×Sl×Sl))=>Dw.sp b.1 b.2.1 b.2.2 H1 λ(r:Sl) g=>R ((r.n:Int),(0:Int)) g))
theorem BW.of:∀{d name H R},BW.vc d name H R->BW.sp d name H R:=aU [] (by kernel_rfl)
def G4.vc (d:Option Addr)(name:ByteArray)(page:Int)(H:aa)(R:Kp (Sl×Int)):Prop:=
 Dq.sp d name H λ(r:(Option Addr×Int)) H1=>cut Unit (λJ=>br (r.2!=0) (R ((Sl.mk none 0 0),r.2) H1) (br (decide (page<0)) (br (decide (page<0)) (R ((Sl.mk none 0 0),(12:Int)) H1) (J () H1)) (ae r.1 λa=>ld ak H1 (a.add 0) λ(x:Sl)=>br (decide (page>=(x.n:Int))) (R ((Sl.mk none 0 0),(12:Int)) H1) (J () H1)))) λ(_:Unit) g=>ae r.1 λc=>ld ak g (c.add 0) λ(b:Sl)=>ae b.a λe=>(0<=page/\page<(b.n:Int))/\Dz.sp (Sl.mk (cw (some (e.add (page.toNat*512))) 512 0 1) (512 - 0) (512 - 0)) g λ(f:Sl) h=>R (f,(0:Int)) h
theorem G4.of:∀{d name page H R},G4.vc d name page H R->G4.sp d name page H R:=aU [(100007,[])] (by kernel_rfl)
def Cf.vc (d:Option Addr)(name:ByteArray)(page:Int)(H:aa)(R:Kp (Sl×Int)):Prop:=
 Bp.sp d name H λ(i:Int) H1=>ae d λa=>ld ay H1 (a.add 8) λ(x:Bool)=>br x (R ((Sl.mk none 0 0),(4:Int)) H1) (br (decide (i<0)) (R ((Sl.mk none 0 0),(11:Int)) H1) (ae d λe=>ld ak H1 (e.add 0) λ(c:Sl)=>ae c.a λf=>(0<=i/\i<(c.n:Int))/\c6 (bQ [aK,ak,ak]) 3 H1 (f.add (i.toNat*3)) λ(b:(ByteArray×Sl×Sl))=>Dw.sp b.1 b.2.1 b.2.2 H1 λ(l:Sl) g=>br ((decide (page<0))||(decide (page>=(l.n:Int)))) (R ((Sl.mk none 0 0),(12:Int)) g) (ae l.a λh=>(0<=page/\page<(l.n:Int))/\ld aK g (h.add (page.toNat*1)) λ(j:ByteArray)=>ba ak NX (convert dH dP (.string j)) g λ(k:Sl) m=>R (k,(0:Int)) m)))
theorem Cf.of:∀{d name page H R},Cf.vc d name page H R->Cf.sp d name page H R:=aU [] (by kernel_rfl)
def Iu.vc (s:Option Addr)(H:aa)(R:Kp Int):Prop:=
 ae s λa=>ld (ab .i64) H (a.add 7) λ(x:Int)=>br (x !=0) (ae s λb=>ld (ab .i64) H (b.add 7) λ(c:Int)=>R c H) (ae s λd=>ld ay H (d.add 8) λ(e:Bool)=>br e (R (2:Int) H) (R (0:Int) H))
theorem Iu.of:∀{s H R},Iu.vc s H R->Iu.sp s H R:=aU [] (by kernel_rfl)
def Gq.vc (s:Option Addr)(H:aa)(R:Kp Int):Prop:=
 Iy.sp s H λ(name:ByteArray) H1=>∃G:aa->Prop,G H1/\ae s λa=>dv av G (a.add 0) λ(x:Option Addr)=>ae s λb=>dv (ab .i64) G (b.add 2) λ(c:Int)=>ae s λd=>ld ak H1 (d.add 4) λ(f:Sl)=>JL.sp f H1 λ(r:Sl) m=>G m/\Jc.sp x name c r m λ(e:Int) q=>ae s λg=>st q (g.add 4) (.slice none 0 0) λn=>ae s λh=>ld ak n (h.add 5) λ(i:Sl)=>aI n #[(.string name)] dH λp t=>ba ak NX (N2 #[dS,dS] dS #[i.v,(.slice (some p) 1 1)]) t λ(j:Sl) u=>ae s λk=>st u (k.add 5) j.v λo=>br (e !=0) (ae s λl=>st o (l.add 7) (.int .i64 e) λv=>R e v) (R e o)
theorem Gq.of:∀{s H R},Gq.vc s H R->Gq.sp s H R:=aU [] (by kernel_rfl)
def Du.vc (s:Option Addr)(H:aa)(R:Kp (Int×Int)):Prop:=
 Iu.sp s H λ(e:Int) H1=>br (e !=0) (R ((0:Int),e) H1) (JF.sp s H1 λ(r:(Int×Int)) c=>br (r.2!=0) (ae s λa=>st c (a.add 7) (.int .i64 r.2) λd=>R ((0:Int),r.2) d) (ae s λb=>st c (b.add 8) (.bool true) λf=>R (r.1,(0:Int)) f))
theorem Du.of:∀{s H R},Du.vc s H R->Du.sp s H R:=aU [] (by kernel_rfl)
def Hy.vc (p:Option Addr)(name:ByteArray)(width:Int)(H:aa)(R:Kp (Option Addr×Int)):Prop:=
 br p.isNone (R (none,(1:Int)) H) (A9.sp width H λ(room:Int) H1=>br (room==0) (R (none,(60:Int)) H1) (aI H1 #[(.pointer p),(.string name),(.int .i64 width),(.int .i64 0),(.bool false),(.int .i64 0),(.int .i64 0),(.int .i64 0),(.slice none 0 0)] Lp λd C=>HG.sp (some (d.add 0)) (0:Int) C λ(r:(Int×Sl×Int)) g=>br (r.2.2!=0) (R (none,r.2.2) g) (br ((r.1!=2)||((r.2.1.n:Int)!=9)) (R (none,(280:Int)) g) (ae r.2.1.a λa=>(0<=(0:Int)/\(0:Int)<(r.2.1.n:Int))/\ld (ab .u8) g (a.add ((0:Int).toNat*1)) λ(x:Int)=>br ((NY.wrap x)!=width) (R (none,(280:Int)) g) ((0<=(1:Int)/\(1:Int)<=(r.2.1.n:Int))/\Ig.sp (Sl.mk (cw r.2.1.a r.2.1.c ((1:Int).toNat) 1) (r.2.1.n - ((1:Int).toNat)) (r.2.1.c - ((1:Int).toNat))) (1:Int) g λ(b:(Sl×Int)) B=>ae p λl=>ld av B (l.add 0) λ(m:Option Addr)=>BW.sp m name B λ(e:(Int×Int)) f=>br (e.2!=0) (R (none,e.2) f) (ae b.1.a λo=>(0<=(0:Int)/\(0:Int)<(b.1.n:Int))/\ld ak f (o.add ((0:Int).toNat*1)) λ(h:Sl)=>ae h.a λq=>(0<=(0:Int)/\(0:Int)<(h.n:Int))/\ld (ab .u64) f (q.add ((0:Int).toNat*1)) λ(s:Int)=>br (decide (s>528482304)) (R (none,(280:Int)) f) (ae b.1.a λt=>(0<=(0:Int)/\(0:Int)<(b.1.n:Int))/\ld ak f (t.add ((0:Int).toNat*1)) λ(i:Sl)=>ae i.a λu=>(0<=(0:Int)/\(0:Int)<(i.n:Int))/\ld (ab .u64) f (u.add ((0:Int).toNat*1)) λ(v:Int)=>JT.sp (NY.wrap v) room f λ(w:Int) k=>br (e.1!=(NY.wrap ((1:Int)+w))) (R (none,(280:Int)) k) (ae b.1.a λy=>(0<=(0:Int)/\(0:Int)<(b.1.n:Int))/\ld ak k (y.add ((0:Int).toNat*1)) λ(j:Sl)=>ae j.a λz=>(0<=(0:Int)/\(0:Int)<(j.n:Int))/\ld (ab .u64) k (z.add ((0:Int).toNat*1)) λ(A:Int)=>st k (d.add 5) (.int .i64 (NY.wrap A)) λD=>R (some d,(0:Int)) D))))))))
theorem Hy.of:∀{p name width H R},Hy.vc p name width H R->Hy.sp p name width H R:=aU [] (by kernel_rfl)
def IY.vc (p:Option Addr)(name:ByteArray)(width:Int)(H:aa)(R:Kp (Option Addr×Int)):Prop:=
 br p.isNone (R (none,(1:Int)) H) (A9.sp width H λ(r:Int) H1=>br (r==0) (R (none,(60:Int)) H1) (ae p λa=>ld av H1 (a.add 0) λ(x:Option Addr)=>Jn.sp x name H1 λ(e:Int) d=>br (e !=0) (R (none,e) d) (aI d #[(.pointer p),(.string name),(.int .i64 width),(.int .i64 0),(.bool false),(.slice none 0 0),(.int .i64 0),(.slice none 0 0),(.int .i64 0)] Ip λb g=>Hr.sp (some (b.add 0)) (0:Int) (Sl.mk none 0 0) g λ(c:Int) f=>br (c !=0) (R (none,c) f) (R (some b,(0:Int)) f))))
theorem IY.of:∀{p name width H R},IY.vc p name width H R->IY.sp p name width H R:=aU [] (by kernel_rfl)
def Ck.vc (r:Option Addr)(H:aa)(R:Kp (Sl×Bool×Int)):Prop:=
 ae r λa=>Gu.sp (some (a.add 0)) H λ(e:Int) H1=>br (e !=0) (R ((Sl.mk none 0 0),false,e) H1) (ae r λg=>ld (ab .i64) H1 (g.add 6) λ(x:Int)=>ae r λh=>ld (ab .i64) H1 (h.add 5) λ(i:Int)=>br (decide (x>=i)) (R ((Sl.mk none 0 0),false,(0:Int)) H1) (ae r λj=>ld (ab .i64) H1 ((j.add 0).add 2) λ(k:Int)=>A9.sp k H1 λ(room:Int) v=>ae r λm=>ld (ab .i64) v (m.add 6) λ(n:Int)=>room≠0/\JN.sp r (NY.wrap (OP n room)) v λ(d:Int) c=>br (d !=0) (R ((Sl.mk none 0 0),false,d) c) (ae r λo=>ld ak c (o.add 8) λ(f:Sl)=>ae r λp=>ld (ab .i64) c (p.add 6) λ(b:Int)=>room≠0/\ae f.a λq=>(0<=(Pf b room)/\(Pf b room)<(f.n:Int))/\ld ak c (q.add ((Pf b room).toNat*1)) λ(l:Sl)=>ae r λs=>ld (ab .i64) c (s.add 6) λ(t:Int)=>ae r λu=>st c (u.add 6) (.int .i64 (NY.wrap (t+1))) λw=>R (l,true,(0:Int)) w)))
theorem Ck.of:∀{r H R},Ck.vc r H R->Ck.sp r H R:=aU [] (by kernel_rfl)
def zp.vc (a b:Sl)(H:aa)(R:Kp Int):Prop:=
 aw Int 0 H λnext i H1=>br ((decide (i<(a.n:Int)))&&(decide (i<(b.n:Int)))) (ae a.a λc=>(0<=i/\i<(a.n:Int))/\ld (ab .u64) H1 (c.add (i.toNat*1)) λ(x:Int)=>ae b.a λd=>(0<=i/\i<(b.n:Int))/\ld (ab .u64) H1 (d.add (i.toNat*1)) λ(e:Int)=>br (decide (x<e)) (R (-1:Int) H1) (ae a.a λf=>(0<=i/\i<(a.n:Int))/\ld (ab .u64) H1 (f.add (i.toNat*1)) λ(g:Int)=>ae b.a λh=>(0<=i/\i<(b.n:Int))/\ld (ab .u64) H1 (h.add (i.toNat*1)) λ(j:Int)=>br (decide (g>j)) (R (1:Int) H1) (next (NY.wrap (i+1)) H1))) (br (decide ((a.n:Int)<(b.n:Int))) (R (-1:Int) H1) (br (decide ((a.n:Int)>(b.n:Int))) (R (1:Int) H1) (R (0:Int) H1)))
theorem zp.of:∀{a b H R},zp.vc a b H R->zp.sp a b H R:=aU [(2,[(5,(ab .i64))])] (by kernel_rfl)
def Gw.vc (w:Option Addr)(H:aa)(R:Kp (Int×Int)):Prop:=
 ae w λa=>Gu.sp (some (a.add 0)) H λ(e:Int) H1=>cut Int (λJ=>br (e==0) (IH.sp w H1 λ(p:Int) Y=>J p Y) (J e H1)) λ(z:Int) m=>br (z !=0) (R ((0:Int),z) m) (ae w λq=>ld av m ((q.add 0).add 0) λ(x:Option Addr)=>ae w λs=>ld aK m ((s.add 0).add 1) λ(t:ByteArray)=>IZ.sp x t (0:Int) m λ(r:(Int×Int)) n=>cut Int (λb=>br (r.2==0) (∃G:aa->Prop,G n/\ae w λu=>dv av G ((u.add 0).add 0) λ(v:Option Addr)=>ae w λy=>ld (ab .i64) n ((y.add 0).add 2) λ(A:Int)=>ae w λB=>dv (ab .i64) G (B.add 8) λ(C:Int)=>I5.sp A C n λ(D:Sl) X=>G X/\G5.sp v r.1 (2:Int) D X λ(E:Int) Z=>b E Z) (b r.2 n)) λ(c:Int) F=>cut Int (λd=>br (c==0) (ae w λI=>ld av F ((I.add 0).add 0) λ(K:Option Addr)=>Fm.sp K r.1 F λ(L:Int) H9=>d L H9) (d c F)) λ(f:Int) o=>cut Int (λg=>br (f==0) (ae w λM=>ld av o ((M.add 0).add 0) λ(N:Option Addr)=>ae w λO=>ld aK o ((O.add 0).add 1) λ(P:ByteArray)=>JK.sp N P o λ(Q:Int) S=>g Q S) (g f o)) λ(h:Int) i=>br (h !=0) (ae w λT=>Co.sp (some (T.add 0)) h i λ(U:Int) V=>R ((0:Int),U) V) (ae w λj=>st i ((j.add 0).add 4) (.bool true) λk=>ae w λl=>ld (ab .i64) k (l.add 8) λ(W:Int)=>R (W,(0:Int)) k))
theorem Gw.of:∀{w H R},Gw.vc w H R->Gw.sp w H R:=aU [(100004,[(4,(ab .i64))]),(100009,[(4,(ab .i64))]),(100011,[(4,(ab .i64))]),(100013,[(4,(ab .i64))])] (by kernel_rfl)
def Be.vc (w:Option Addr)(l:Sl)(H:aa)(R:Kp Int):Prop:=
 ae w λa=>Gu.sp (some (a.add 0)) H λ(e:Int) H1=>cut Unit (λJ=>br (e !=0) (R e H1) (ae w λk=>ld (ab .i64) H1 ((k.add 0).add 2) λ(x:Int)=>br ((l.n:Int)!=x) (R (60:Int) H1) (ae w λm=>ld (ab .i64) H1 (m.add 8) λ(n:Int)=>br (decide (n>0)) (ae w λo=>ld ak H1 (o.add 7) λ(p:Sl)=>zp.sp l p H1 λ(r:Int) P=>br (decide (r<=0)) (R (70:Int) P) (J () P)) (J () H1)))) λ(_:Unit) Q=>∃G:aa->Prop,G Q/\ae w λq=>dv ak G (q.add 5) λ(t:Sl)=>Ix.sp l Q λ(u:Sl) S=>G S/\ba ak NX (N2 #[dP,dP] dP #[t.v,u.v]) S λ(s:Sl) W=>ae w λv=>st W (v.add 5) s.v λT=>ae w λy=>ld (ab .i64) T (y.add 6) λ(z:Int)=>ae w λA=>st T (A.add 6) (.int .i64 (NY.wrap (z+1))) λU=>ae w λB=>ld (ab .i64) U (B.add 8) λ(C:Int)=>ae w λD=>st U (D.add 8) (.int .i64 (NY.wrap (C+1))) λX=>ae w λf=>st X (f.add 7) (.slice none 0 0) λV=>ae w λg=>ld ak V (g.add 7) λ(E:Sl)=>ba ak NX (N2 #[dZ,dZ] dZ #[E.v,l.v]) V λ(F:Sl) I=>ae w λh=>st I (h.add 7) F.v λb=>∃c:aa->Prop,c b/\ae w λi=>dv (ab .i64) c (i.add 6) λ(K:Int)=>ae w λj=>ld (ab .i64) b ((j.add 0).add 2) λ(L:Int)=>A9.sp L b λ(M:Int) d=>c d/\br (decide (K<M)) (R (0:Int) d) (IH.sp w d λ(N:Int) O=>R N O)
theorem Be.of:∀{w l H R},Be.vc w l H R->Be.sp w l H R:=aU [(100008,[])] (by kernel_rfl)
def I2.vc (s:Option Addr)(H:aa)(R:Kp ByteArray):Prop:=
 ae s λa=>ld (ab .i64) H (a.add 6) λ(x:Int)=>ae s λc=>st H (c.add 6) (.int .i64 (NY.wrap (x+1))) λH1=>∃G:aa->Prop,G H1/\ae s λd=>dv aK G (d.add 1) λ(b:ByteArray)=>((b.size+(O6 #[126]).size:Nat):Int)<=9223372036854775807/\ae s λe=>ld (ab .i64) H1 (e.add 6) λ(f:Int)=>J0.sp (NY.wrap (f - 1)) H1 λ(r:ByteArray) g=>G g/\(((b++(O6 #[126])).size+r.size:Nat):Int)<=9223372036854775807/\R ((b++(O6 #[126]))++r) g
theorem I2.of:∀{s H R},I2.vc s H R->I2.sp s H R:=aU [] (by kernel_rfl)
def IU.vc (s:Option Addr)(k:Int)(to:ByteArray)(H:aa)(R:Kp (Int×Int)):Prop:=
 ae s λa=>ld ak H (a.add 5) λ(x:Sl)=>(0<=k/\k<=(x.c:Int))/\ae s λd=>ld av H (d.add 0) λ(f:Option Addr)=>ae s λg=>ld (ab .i64) H (g.add 2) λ(h:Int)=>JP.sp f (Sl.mk (cw x.a x.c 0 1) (k.toNat - 0) (x.c - 0)) to h H λ(r:(Int×Int)) H1=>aw (Int×Int) (r.2,(0:Int)) H1 λnext z c=>br (decide (z.2<((k.toNat - 0:Nat):Int))) (ae (cw x.a x.c 0 1) λi=>(0<=z.2/\z.2<((k.toNat - 0:Nat):Int))/\ld aK c (i.add (z.2.toNat*1)) λ(name:ByteArray)=>br (z.1==0) (ae s λj=>ld av c (j.add 0) λ(l:Option Addr)=>Jr.sp l name c λ(e:Int) o=>next (e,NY.wrap (z.2+1)) o) (next (z.1,NY.wrap (z.2+1)) c)) (ae s λm=>ld ak c (m.add 5) λ(b:Sl)=>(0<=k/\k<=(b.n:Int))/\ae s λn=>st c (n.add 5) (.slice (cw b.a b.c k.toNat 1) (b.n - k.toNat) (b.c - k.toNat)) λp=>R (r.1,z.1) p)
theorem IU.of:∀{s k to H R},IU.vc s k to H R->IU.sp s k to H R:=aU [(4,[(10,(ab .i64)),(35,(ab .i64))])] (by kernel_rfl)
def Jz.vc (s:Sl)(H:aa)(R:Kp Sl):Prop:=
 br s.a.isNone (R (Sl.mk none 0 0) H) (aI H #[] dH λp H1=>ba ak NX (N2 #[dS,dS] dS #[(.slice (some p) 0 0),s.v]) H1 λ(a:Sl) b=>R a b)
theorem Jz.of:∀{s H R},Jz.vc s H R->Jz.sp s H R:=aU [] (by kernel_rfl)
def HQ.vc (width:Int)(H:aa)(R:Kp Int):Prop:=
 br (decide (width<0)) (br (decide (width<0)) (R (0:Int) H) (br (width==0) (R (1:Int) H) (R (NY.wrap ((8:Int)*width)) H))) (br (decide (width>16)) (R (0:Int) H) (br (width==0) (R (1:Int) H) (R (NY.wrap ((8:Int)*width)) H)))
theorem HQ.of:∀{width H R},HQ.vc width H R->HQ.sp width H R:=aU [] (by kernel_rfl)
def Ha.vc (p:Option Addr)(name:ByteArray)(width:Int)(H:aa)(R:Kp ((Option Addr×ByteArray×Int×Int×Int×Bool)×Int)):Prop:=
 aI H (zc NX qU) qU λc H1=>GL.sp width H1 λ(r:Int) m=>aI m (zc NX qU) qU λf n=>ji NX (Og qU (.pointer (some f)) (.agg #[(.pointer p),(.string name),(.int .i64 width),(.int .i64 r),(.int .i64 0),(.bool false)])) n λg=>cut Unit (λJ=>br p.isNone (c6 (bQ [av,aK,(ab .i64),(ab .i64),(ab .i64),ay]) 6 g f λ(x:(Option Addr×ByteArray×Int×Int×Int×Bool))=>ji NX (Og qU (.pointer (some c)) (.agg #[(.pointer x.1),(.string x.2.1),(.int .i64 x.2.2.1),(.int .i64 x.2.2.2.1),(.int .i64 x.2.2.2.2.1),(.bool x.2.2.2.2.2)])) g λi=>c6 (bQ [av,aK,(ab .i64),(ab .i64),(ab .i64),ay]) 6 i c λ(res:(Option Addr×ByteArray×Int×Int×Int×Bool))=>R ((res.1,res.2.1,res.2.2.1,res.2.2.2.1,res.2.2.2.2.1,res.2.2.2.2.2),(1:Int)) i) (ld (ab .i64) g (f.add 3) λ(h:Int)=>br (h==0) (c6 (bQ [av,aK,(ab .i64),(ab .i64),(ab .i64),ay]) 6 g f λ(d:(Option Addr×ByteArray×Int×Int×Int×Bool))=>ji NX (Og qU (.pointer (some c)) (.agg #[(.pointer d.1),(.string d.2.1),(.int .i64 d.2.2.1),(.int .i64 d.2.2.2.1),(.int .i64 d.2.2.2.2.1),(.bool d.2.2.2.2.2)])) g λj=>c6 (bQ [av,aK,(ab .i64),(ab .i64),(ab .i64),ay]) 6 j c λ(a:(Option Addr×ByteArray×Int×Int×Int×Bool))=>R ((a.1,a.2.1,a.2.2.1,a.2.2.2.1,a.2.2.2.2.1,a.2.2.2.2.2),(60:Int)) j) (J () g))) λ(_:Unit) k=>c6 (bQ [av,aK,(ab .i64),(ab .i64),(ab .i64),ay]) 6 k f λ(e:(Option Addr×ByteArray×Int×Int×Int×Bool))=>ji NX (Og qU (.pointer (some c)) (.agg #[(.pointer e.1),(.string e.2.1),(.int .i64 e.2.2.1),(.int .i64 e.2.2.2.1),(.int .i64 e.2.2.2.2.1),(.bool e.2.2.2.2.2)])) k λl=>c6 (bQ [av,aK,(ab .i64),(ab .i64),(ab .i64),ay]) 6 l c λ(b:(Option Addr×ByteArray×Int×Int×Int×Bool))=>R ((b.1,b.2.1,b.2.2.1,b.2.2.2.1,b.2.2.2.2.1,b.2.2.2.2.2),(0:Int)) l
theorem Ha.of:∀{p name width H R},Ha.vc p name width H R->Ha.sp p name width H R:=aU [(100006,[])] (by kernel_rfl)
def Hu.vc (p:Option Addr)(H:aa)(R:Kp (Option Addr)):Prop:=
 br p.isNone (R none H) (ae p λa=>ld av H (a.add 0) λ(x:Option Addr)=>R x H)
theorem Hu.of:∀{p H R},Hu.vc p H R->Hu.sp p H R:=aU [] (by kernel_rfl)
def Jg.vc (d:Option Addr)(name:ByteArray)(H:aa)(R:Kp Int):Prop:=
 Dn.sp d H λ(e:Int) H1=>br (e !=0) (R e H1) (ae d λa=>ld bT H1 (a.add 0) λ(x:Option Nat)=>Dr (aR [av,ay]) NX (Pp yI (.map x) (.string name) true) H1 λ(f:(Option Addr×Bool))=>Ij.sp name H1 λ(r:Bool) c=>br (!r) (R (2:Int) c) (br f.2 (R (10:Int) c) (ae d λg=>ld bT c (g.add 0) λ(h:Option Nat)=>AH c h λ(n:Nat)=>br ((n:Int)==4096) (R (3:Int) c) (DC.sp d c λ(b:Int) i=>br (b==0) (ae d λj=>ld bT i (j.add 0) λ(k:Option Nat)=>aI i #[(.slice none 0 0),(.slice none 0 0),(.slice none 0 0)] CI λp l=>ji NX (P5 yI (.map k) (.string name) (.pointer (some p))) l λm=>R b m) (R b i)))))
theorem Jg.of:∀{d name H R},Jg.vc d name H R->Jg.sp d name H R:=aU [] (by kernel_rfl)
def GR.vc (b:Option Addr)(kind:Int)(p:Sl)(H:aa)(R:Kp Int):Prop:=
 ae b λa=>ld av H (a.add 0) λ(x:Option Addr)=>ae b λc=>ld aK H (c.add 1) λ(d:ByteArray)=>Jb.sp x d H λ(r:(Int×Int×Int)) H1=>br ((r.2.2==0)&&(kind !=0)) (ae b λf=>ld av H1 (f.add 0) λ(g:Option Addr)=>Ae.sp g r.1 kind p H1 λ(e:Int) h=>br (e==0) (ae b λi=>ld av h (i.add 0) λ(j:Option Addr)=>Ds.sp j r.1 h λ(k:Int) o=>R k o) (R e h)) (br (r.2.2==0) (ae b λl=>ld av H1 (l.add 0) λ(m:Option Addr)=>Ds.sp m r.1 H1 λ(n:Int) q=>R n q) (R r.2.2 H1))
theorem GR.of:∀{b kind p H R},GR.vc b kind p H R->GR.sp b kind p H R:=aU [] (by kernel_rfl)
def Ju.vc (h:Option Addr)(U:Int)(B:Sl)(C:Option Addr)(H:aa)(R:Kp Unit):Prop:=
 aI H #[(.int .i64 U),B.v,(.pointer C)] jS λp H1=>∃G:aa->Prop,G H1/\ae h λa=>dv ak G (a.add 0) λ(x:Sl)=>c6 (bQ [(ab .i64),ak,av]) 3 H1 p λ(k:(Int×Sl×Option Addr))=>aI H1 #[(.int .i64 k.1),k.2.1.v,(.pointer k.2.2)] jS λD S=>G S/\ba ak NX (N2 #[L5,L5] L5 #[x.v,(.slice (some D) 1 1)]) S λ(s:Sl) V=>ae h λE=>st V (E.add 0) s.v λT=>ae h λF=>ld ak T (F.add 0) λ(I:Sl)=>aw Int (NY.wrap ((I.n:Int) - 1)) T λnext i l=>br (decide (i>0)) (ae h λJ=>ld gh l (J.add 1) λ(K:Value)=>ae h λL=>ld ak l (L.add 0) λ(o:Sl)=>ae o.a λM=>(0<=i/\i<(o.n:Int))/\c6 (bQ [(ab .i64),ak,av]) 3 l (M.add (i.toNat*3)) λ(m:(Int×Sl×Option Addr))=>ae h λN=>ld ak l (N.add 0) λ(q:Sl)=>ae q.a λO=>(0<=(NY.wrap (OP (NY.wrap (i - 1)) (2:Int)))/\(NY.wrap (OP (NY.wrap (i - 1)) (2:Int)))<(q.n:Int))/\c6 (bQ [(ab .i64),ak,av]) 3 l (O.add ((NY.wrap (OP (NY.wrap (i - 1)) (2:Int))).toNat*3)) λ(n:(Int×Sl×Option Addr))=>yp NX K [(.agg #[(.int .i64 m.1),m.2.1.v,(.pointer m.2.2)]),(.agg #[(.int .i64 n.1),n.2.1.v,(.pointer n.2.2)])] l λ(r:Bool) d=>br (!r) (R () d) (ae h λP=>ld ak d (P.add 0) λ(e:Sl)=>ae h λQ=>ld ak d (Q.add 0) λ(f:Sl)=>ae h λt=>ld ak d (t.add 0) λ(g:Sl)=>ae g.a λu=>(0<=(NY.wrap (OP (NY.wrap (i - 1)) (2:Int)))/\(NY.wrap (OP (NY.wrap (i - 1)) (2:Int)))<(g.n:Int))/\c6 (bQ [(ab .i64),ak,av]) 3 d (u.add ((NY.wrap (OP (NY.wrap (i - 1)) (2:Int))).toNat*3)) λ(b:(Int×Sl×Option Addr))=>ae h λw=>ld ak d (w.add 0) λ(j:Sl)=>ae j.a λy=>(0<=i/\i<(j.n:Int))/\c6 (bQ [(ab .i64),ak,av]) 3 d (y.add (i.toNat*3)) λ(c:(Int×Sl×Option Addr))=>ae e.a λz=>(0<=i/\i<(e.n:Int))/\ji NX (Og jS (.pointer (some (z.add (i.toNat*3)))) (.agg #[(.int .i64 b.1),b.2.1.v,(.pointer b.2.2)])) d λW=>ae f.a λA=>(0<=(NY.wrap (OP (NY.wrap (i - 1)) (2:Int)))/\(NY.wrap (OP (NY.wrap (i - 1)) (2:Int)))<(f.n:Int))/\ji NX (Og jS (.pointer (some (A.add ((NY.wrap (OP (NY.wrap (i - 1)) (2:Int))).toNat*3)))) (.agg #[(.int .i64 c.1),c.2.1.v,(.pointer c.2.2)])) W λX=>next (NY.wrap (OP (NY.wrap (i - 1)) (2:Int))) X)) (R () l)
theorem Ju.of:∀{h c a b H R},Ju.vc h c a b H R->Ju.sp h c a b H R:=aU [(3,[(4,(ab .i64))])] (by kernel_rfl)
def Gv.vc (b:Option Addr)(H:aa)(R:Kp Int):Prop:=
 ae b λa=>ld (ab .i64) H (a.add 4) λ(x:Int)=>br (x !=0) (ae b λc=>ld (ab .i64) H (c.add 4) λ(d:Int)=>R d H) (ae b λe=>ld ay H (e.add 5) λ(f:Bool)=>br f (R (2:Int) H) (R (0:Int) H))
theorem Gv.of:∀{b H R},Gv.vc b H R->Gv.sp b H R:=aU [] (by kernel_rfl)
def zk.vc (l:Sl)(H:aa)(R:Kp Sl):Prop:=
 br ((l.n:Int)==0) (aI H #[(.int .u8 0)] fw λp H1=>R (Sl.mk (some p) 1 1) H1) (ba ak NX (QO dP (.int .i64 0) (.int .i64 (NY.wrap ((8:Int)*(l.n:Int))))) H λ(out:Sl) e=>aw (Sl×Int) (out,(0:Int)) e λnext z d=>br (decide (z.2<(l.n:Int))) (ae l.a λa=>(0<=z.2/\z.2<(l.n:Int))/\ld (ab .u64) d (a.add (z.2.toNat*1)) λ(n:Int)=>JZ.sp (zc NX Fe) n d λ(r:Array Value) f=>aI f (zc NX Fe) Fe λc g=>ji NX (Og Fe (.pointer (some c)) (.agg r)) g λh=>ba ak NX (N2 #[dP,dP] dP #[z.1.v,(.slice (cw (some c) 8 0 1) (8 - 0) (8 - 0))]) h λ(b:Sl) i=>next (b,NY.wrap (z.2+1)) i) (R z.1 d))
theorem zk.of:∀{l H R},zk.vc l H R->zk.sp l H R:=aU [(5,[(3,ak),(17,(ab .i64))])] (by kernel_rfl)
def HU.vc (w:Option Addr)(H:aa)(R:Kp Int):Prop:=
 ae w λa=>ld (ab .i64) H (a.add 7) λ(x:Int)=>br (x==0) (R (0:Int) H) (ae w λb=>ae w λc=>ld ak H (c.add 6) λ(d:Sl)=>GR.sp (some (b.add 0)) (1:Int) d H λ(e:Int) H1=>ae w λf=>st H1 (f.add 6) (.slice none 0 0) λi=>ae w λg=>st i (g.add 7) (.int .i64 0) λj=>ae w λh=>By.sp (some (h.add 0)) e j λ(r:Int) k=>R r k)
theorem HU.of:∀{w H R},HU.vc w H R->HU.sp w H R:=aU [] (by kernel_rfl)
def GK.vc (p:Option Addr)(name:ByteArray)(page:Int)(H:aa)(R:Kp (Int×Int)):Prop:=
 DE.sp p H λ(e:Int) H1=>br (e !=0) (R ((0:Int),e) H1) (aI H1 (zc NX wK) wK λb l=>ji NX (Og wK (.pointer (some b)) (.agg #[(.string name),(.int .i64 page)])) l λd=>ae p λa=>ld bT d (a.add 2) λ(x:Option Nat)=>c6 (bQ [aK,(ab .i64)]) 2 d b λ(f:(ByteArray×Int))=>Dr (aR [av,ay]) NX (Pp xK (.map x) (.agg #[(.string f.1),(.int .i64 f.2)]) true) d λ(g:(Option Addr×Bool))=>br g.2 (ED.sp p g.1 d λ(r:Int) m=>R (r,(0:Int)) m) (c6 (bQ [aK,(ab .i64)]) 2 d b λ(h:(ByteArray×Int))=>I6.sp p h.1 h.2 d λ(c:(Option Addr×Int)) k=>br (c.2!=0) (uk.sp p c.2 k λ(i:Int) n=>R ((0:Int),i) n) (BN.sp p c.1 k λ(j:Int) o=>R (j,(0:Int)) o)))
theorem GK.of:∀{p name page H R},GK.vc p name page H R->GK.sp p name page H R:=aU [] (by kernel_rfl)
def Ae.vc (p:Option Addr)(h kind:Int)(b:Sl)(H:aa)(R:Kp Int):Prop:=
 GM.sp p h H λ(r:(Option Addr×Int)) H1=>br (r.2!=0) (R r.2 H1) (br (decide ((b.n:Int)>504)) (R (2:Int) H1) (Dz.sp b H1 λ(c:Sl) f=>ae r.1 λa=>st f (a.add 2) (.int .u8 kind) λg=>ae r.1 λd=>st g (d.add 3) c.v λi=>ae r.1 λe=>st i (e.add 4) (.bool true) λj=>R (0:Int) j))
theorem Ae.of:∀{p h kind b H R},Ae.vc p h kind b H R->Ae.sp p h kind b H R:=aU [] (by kernel_rfl)
def Ds.vc (p:Option Addr)(h:Int)(H:aa)(R:Kp Int):Prop:=
 GM.sp p h H λ(r:(Option Addr×Int)) H1=>br (r.2!=0) (R r.2 H1) (ae p λa=>ld bT H1 (a.add 3) λ(x:Option Nat)=>ba gh NX (Px #[LF,hZ] Aa #[(.map x),(.int .i64 h)]) H1 λ(_:Value) m=>ae p λb=>ld (ab .i64) m (b.add 5) λ(c:Int)=>ae p λd=>st m (d.add 5) (.int .i64 (NY.wrap (c+1))) λe=>ae r.1 λf=>ld (ab .i64) e (f.add 5) λ(g:Int)=>ae p λi=>ld (ab .i64) e (i.add 5) λ(j:Int)=>ae r.1 λk=>st e (k.add 5) (.int .i64 (NY.wrap (g - 1))) λn=>ae r.1 λl=>st n (l.add 6) (.int .i64 j) λo=>R (0:Int) o)
theorem Ds.of:∀{p h H R},Ds.vc p h H R->Ds.sp p h H R:=aU [] (by kernel_rfl)
def II.vc (p:Option Addr)(name:ByteArray)(H:aa)(R:Kp Int):Prop:=
 DE.sp p H λ(e:Int) H1=>br (e !=0) (R e H1) (ae p λa=>ld av H1 (a.add 0) λ(x:Option Addr)=>DA.sp x name H1 λ(r:(Int×Int)) q=>br (r.2!=0) (uk.sp p r.2 q λ(g:Int) t=>R g t) (HD.sp p name q λ(b:Sl) u=>aw Int 0 u λnext z c=>br (decide (z<(b.n:Int))) (ae b.a λh=>(0<=z/\z<(b.n:Int))/\ld av c (h.add (z.toNat*1)) λ(f:Option Addr)=>ae f λi=>ld ay c (i.add 4) λ(j:Bool)=>br (!j) (next (NY.wrap (z+1)) c) (Dt.sp p f c λ(d:Int) s=>br (d !=0) (uk.sp p d s λ(k:Int) v=>R k v) (next (NY.wrap (z+1)) s))) (ae p λl=>ld av c (l.add 0) λ(m:Option Addr)=>Jy.sp m name c λ(n:Int) w=>uk.sp p n w λ(o:Int) y=>R o y)))
theorem II.of:∀{p name H R},II.vc p name H R->II.sp p name H R:=aU [(8,[(34,(ab .i64))])] (by kernel_rfl)
def By.vc (b:Option Addr)(e:Int)(H:aa)(R:Kp Int):Prop:=
 br (e !=0) (ae b λa=>st H (a.add 4) (.int .i64 e) λH1=>R e H1) (R e H)
theorem By.of:∀{b e H R},By.vc b e H R->By.sp b e H R:=aU [] (by kernel_rfl)
def Jv.vc (s:Sl)(H:aa)(R:Kp Sl):Prop:=
 br (decide ((s.n:Int)<2)) (R s H) (aw Int 1 H λnext k H1=>br (decide (k<(s.n:Int))) (ae s.a λa=>(0<=k/\k<(s.n:Int))/\ld ak H1 (a.add (k.toNat*1)) λ(x:Sl)=>ae s.a λd=>(0<=(NY.wrap (k - 1))/\(NY.wrap (k - 1))<(s.n:Int))/\ld ak H1 (d.add ((NY.wrap (k - 1)).toNat*1)) λ(e:Sl)=>ES.sp x e H1 λ(r:Bool) p=>br r ((0<=k/\k<=(s.n:Int))/\aw (Int×Int) (k,(1:Int)) p λb z c=>br (decide (z.2<((s.n - k.toNat:Nat):Int))) (ae (cw s.a s.c k.toNat 1) λf=>(0<=z.2/\z.2<((s.n - k.toNat:Nat):Int))/\ld ak c (f.add (z.2.toNat*1)) λ(g:Sl)=>ae (cw s.a s.c k.toNat 1) λh=>(0<=(NY.wrap (z.2 - 1))/\(NY.wrap (z.2 - 1))<((s.n - k.toNat:Nat):Int))/\ld ak c (h.add ((NY.wrap (z.2 - 1)).toNat*1)) λ(i:Sl)=>ES.sp g i c λ(j:Bool) l=>br (!j) (ae (cw s.a s.c k.toNat 1) λm=>(0<=z.2/\z.2<((s.n - k.toNat:Nat):Int))/\ld ak l (m.add (z.2.toNat*1)) λ(n:Sl)=>ae s.a λo=>(0<=z.1/\z.1<(s.n:Int))/\st l (o.add (z.1.toNat*1)) n.v λq=>b (NY.wrap (z.1+1),NY.wrap (z.2+1)) q) (b (z.1,NY.wrap (z.2+1)) l)) ((0<=z.1/\z.1<=(s.n:Int))/\ba gh NX (Tg #[gd] Aa #[(.slice (cw s.a s.c z.1.toNat 1) (s.n - z.1.toNat) (s.c - z.1.toNat))]) c λ(_:Value) t=>(0<=z.1/\z.1<=(s.c:Int))/\R (Sl.mk (cw s.a s.c 0 1) (z.1.toNat - 0) (s.c - 0)) t)) (next (NY.wrap (k+1)) p)) (R s H1))
theorem Jv.of:∀{s H R},Jv.vc s H R->Jv.sp s H R:=aU [(4,[(5,(ab .i64))]),(9,[(5,(ab .i64)),(7,(ab .i64))])] (by kernel_rfl)
def ES.vc (a b:Sl)(H:aa)(R:Kp Bool):Prop:=
 wN.sp a b H λ(r:Int) H1=>R (r==0) H1
theorem ES.of:∀{a b H R},ES.vc a b H R->ES.sp a b H R:=aU [] (by kernel_rfl)
def Hh.vc (b:Option Addr)(page:Int)(H:aa)(R:Kp (Int×Sl×Int)):Prop:=
 ae b λa=>ld av H (a.add 0) λ(x:Option Addr)=>ae b λd=>ld aK H (d.add 1) λ(f:ByteArray)=>GK.sp x f page H λ(r:(Int×Int)) H1=>br (r.2!=0) (R ((0:Int),(Sl.mk none 0 0),r.2) H1) (ae b λg=>ld av H1 (g.add 0) λ(h:Option Addr)=>JO.sp h r.1 H1 λ(c:(Int×Sl×Int)) i=>br (c.2.2==0) (ae b λj=>ld av i (j.add 0) λ(k:Option Addr)=>Ds.sp k r.1 i λ(e:Int) l=>R (c.1,c.2.1,e) l) (R (c.1,c.2.1,c.2.2) i))
theorem Hh.of:∀{b page H R},Hh.vc b page H R->Hh.sp b page H R:=aU [] (by kernel_rfl)
def DA.vc (d:Option Addr)(name:ByteArray)(H:aa)(R:Kp (Int×Int)):Prop:=
 Dq.sp d name H λ(r:(Option Addr×Int)) H1=>br (r.2!=0) (R ((0:Int),r.2) H1) (ae r.1 λa=>ld ak H1 (a.add 0) λ(x:Sl)=>R ((x.n:Int),(0:Int)) H1)
theorem DA.of:∀{d name H R},DA.vc d name H R->DA.sp d name H R:=aU [] (by kernel_rfl)
def GQ.vc (b:Sl)(width:Int)(H:aa)(R:Kp (Sl×Int)):Prop:=
 aI H #[(.int .i64 width)] hZ λp H1=>aI H1 (zc NX gd) gd λe H2=>aI H2 (zc NX K7) K7 λf H3=>ld (ab .i64) H3 p λ(x:Int)=>HQ.sp x H3 λ(n:Int) L=>br (n==0) (st L e (.slice none 0 0) λH5=>st H5 f (.int .i64 60) λM=>ld ak M e λ(res:Sl)=>ld (ab .i64) M f λ(t:Int)=>R (res,t) M) (n≠0/\br ((Pf (b.n:Int) n)!=0) (st L e (.slice none 0 0) λH7=>st H7 f (.int .i64 60) λN=>ld ak N e λ(u:Sl)=>ld (ab .i64) N f λ(v:Int)=>R (u,v) N) (n≠0/\ba ak NX (QO gd (.int .i64 0) (.int .i64 (NY.wrap (OP (b.n:Int) n)))) L λ(sl:Sl) H9=>aI H9 (zc NX gd) gd λj O=>st O j sl.v λP=>Jq.sp b n P λ(r:Value) Q=>oM NX r Q (λl rec vs h KK=>iL (de.dec [ak] vs) λ(z:Sl)=>h[l]?=some (.loop (rec .ready none))/\cut Unit (λJ=>ld (ab .i64) (h.setIfInBounds l (.loop (rec .busy none))) p λ(S:Int)=>br (S==0) (ae z.a λa=>(0<=(0:Int)/\(0:Int)<(z.n:Int))/\ld (ab .u8) (h.setIfInBounds l (.loop (rec .busy none))) (a.add ((0:Int).toNat*1)) λ(T:Int)=>br (T !=0) (st (h.setIfInBounds l (.loop (rec .busy none))) e (.slice none 0 0) λU=>st U f (.int .i64 60) λE=>E[l]?=some (.loop (rec .busy none))/\KK false (E.setIfInBounds l (.loop (rec .done (some .ret))))) (J () (h.setIfInBounds l (.loop (rec .busy none))))) (J () (h.setIfInBounds l (.loop (rec .busy none))))) λ(_:Unit) F=>ld (ab .i64) F p λ(G:Int)=>ba ak NX (QO dZ (.int .i64 G) (.int .i64 G)) F λ(k:Sl) I=>ld (ab .i64) I p λ(V:Int)=>aw Int 0 I λnext d m=>br (decide (d<(NY.wrap ((8:Int)*V)))) (ae k.a λW=>(0<=(NY.wrap (OP d (8:Int)))/\(NY.wrap (OP d (8:Int)))<(k.n:Int))/\ld (ab .u64) m (W.add ((NY.wrap (OP d (8:Int))).toNat*1)) λ(X:Int)=>ae z.a λY=>(0<=d/\d<(z.n:Int))/\ld (ab .u8) m (Y.add (d.toNat*1)) λ(Z:Int)=>ae k.a λaf=>(0<=(NY.wrap (OP d (8:Int)))/\(NY.wrap (OP d (8:Int)))<(k.n:Int))/\st m (af.add ((NY.wrap (OP d (8:Int))).toNat*1)) (.int .u64 (yK .u64 (kT .u64 X (8:Int)) (OA.wrap Z))) λan=>next (NY.wrap (d+1)) an) (ld ak m j λ(a1:Sl)=>aI m #[k.v] dZ λa6 a7=>ba ak NX (N2 #[gd,gd] gd #[a1.v,(.slice (some a6) 1 1)]) a7 λ(s:Sl) a8=>st a8 j s.v λK=>K[l]?=some (.loop (rec .busy none))/\KK true (K.setIfInBounds l (.loop (rec .ready none))))) (λc g=>ld ak g j λ(bb:Sl)=>st g e bb.v λbd=>st bd f (.int .i64 0) λo=>o[c]?=some (.deferred (some []))/\ld ak (o.setIfInBounds c (.deferred none)) e λ(w:Sl)=>ld (ab .i64) (o.setIfInBounds c (.deferred none)) f λ(y:Int)=>R (w,y) (o.setIfInBounds c (.deferred none))) (λi c g=>bif Ou i 0 then ld ak g j λ(bl:Sl)=>st g e bl.v λbn=>st bn f (.int .i64 0) λq=>q[c]?=some (.deferred (some []))/\ld ak (q.setIfInBounds c (.deferred none)) e λ(A:Sl)=>ld (ab .i64) (q.setIfInBounds c (.deferred none)) f λ(B:Int)=>R (A,B) (q.setIfInBounds c (.deferred none)) else False) (λc g=>g[c]?=some (.deferred (some []))/\ld ak (g.setIfInBounds c (.deferred none)) e λ(C:Sl)=>ld (ab .i64) (g.setIfInBounds c (.deferred none)) f λ(D:Int)=>R (C,D) (g.setIfInBounds c (.deferred none)))))
theorem GQ.of:∀{b width H R},GQ.vc b width H R->GQ.sp b width H R:=aU [(200007,[(30,ak)]),(100009,[]),(11,[(43,(ab .i64))])] (by kernel_rfl)
def Jp.vc (b:Option Addr)(n:Int)(H:aa)(R:Kp Int):Prop:=
 ae b λa=>ld (ab .i64) H (a.add 3) λ(x:Int)=>ae b λd=>ld (ab .i64) H (d.add 3) λ(c:Int)=>c≠0/\R (NY.wrap (OP (NY.wrap ((NY.wrap (n+x)) - 1)) c)) H
theorem Jp.of:∀{b n H R},Jp.vc b n H R->Jp.sp b n H R:=aU [] (by kernel_rfl)
def J4.vc (r:Option Addr)(k:Int)(H:aa)(R:Kp Int):Prop:=
 ae r λa=>ld (ab .i64) H (a.add 8) λ(x:Int)=>br (x==k) (R (0:Int) H) (ae r λi=>Hh.sp (some (i.add 0)) (NY.wrap (k+1)) H λ(b:(Int×Sl×Int)) H1=>br (b.2.2!=0) (ae r λj=>By.sp (some (j.add 0)) b.2.2 H1 λ(l:Int) A=>R l A) (ae r λm=>ld (ab .i64) H1 ((m.add 0).add 2) λ(o:Int)=>GQ.sp b.2.1 o H1 λ(c:(Sl×Int)) d=>br ((b.1!=1)||(c.2!=0)) (ae r λp=>By.sp (some (p.add 0)) (280:Int) d λ(q:Int) B=>R q B) (ae r λs=>ld (ab .i64) d ((s.add 0).add 3) λ(e:Int)=>ae r λt=>ld (ab .i64) d (t.add 6) λ(f:Int)=>ae r λu=>ld (ab .i64) d ((u.add 0).add 3) λ(g:Int)=>br ((c.1.n:Int)!=(if (NY.wrap (f - (NY.wrap (k*g))))<e then (NY.wrap (f - (NY.wrap (k*g)))) else e)) (ae r λw=>By.sp (some (w.add 0)) (280:Int) d λ(y:Int) C=>R y C) (ae r λz=>st d (z.add 8) (.int .i64 k) λD=>ae r λh=>st D (h.add 9) c.1.v λE=>R (0:Int) E))))
theorem J4.of:∀{r k H R},J4.vc r k H R->J4.sp r k H R:=aU [] (by kernel_rfl)
def Dn.vc (d:Option Addr)(H:aa)(R:Kp Int):Prop:=
 br d.isNone (R (1:Int) H) (ae d λa=>ld ay H (a.add 9) λ(x:Bool)=>br x (R (4:Int) H) (R (0:Int) H))
theorem Dn.of:∀{d H R},Dn.vc d H R->Dn.sp d H R:=aU [] (by kernel_rfl)
def Kw.vc (seq:Value)(H:aa)(R:Kp Sl):Prop:=
 Ko.sp seq H λ(s:Sl) H1=>Mx.sp s H1 λ(_:Unit) a=>R s a
theorem Kw.of:∀{seq H R},Kw.vc seq H R->Kw.sp seq H R:=aU [] (by kernel_rfl)
def K8.vc (m:Option Nat)(H:aa)(R:Kp Value):Prop:=
 aI H #[(.map m)] yI λp H1=>R (.func (.func EX.no) #[] #[(.pointer (some p))]) H1
theorem K8.of:∀{m H R},K8.vc m H R->K8.sp m H R:=aU [] (by kernel_rfl)
def Ht.vc (x:Int)(H:aa)(R:Kp Bool):Prop:=
 R (x !=x) H
theorem Ht.of:∀{x H R},Ht.vc x H R->Ht.sp x H R:=aU [] (by kernel_rfl)
def HT.vc (width:Int)(H:aa)(R:Kp Int):Prop:=
 br ((decide (width<0))||(decide (width>16))) (R (0:Int) H) (R (if (NY.wrap ((8:Int)*width))>1 then (NY.wrap ((8:Int)*width)) else (1:Int)) H)
theorem HT.of:∀{width H R},HT.vc width H R->HT.sp width H R:=aU [] (by kernel_rfl)
def Dp.vc (s:Sl)(H:aa)(R:Kp Sl):Prop:=
 br s.a.isNone (R (Sl.mk none 0 0) H) (ba ak NX (Pj Il 0 #[]) H λ(sl:Sl) H1=>ba ak NX (N2 #[Il,Il] Il #[sl.v,s.v]) H1 λ(a:Sl) b=>R a b)
theorem Dp.of:∀{s H R},Dp.vc s H R->Dp.sp s H R:=aU [] (by kernel_rfl)
def IB.vc (x:Sl)(target:Int)(H:aa)(R:Kp (Int×Bool)):Prop:=
 aw (Int×Int) ((0:Int),(x.n:Int)) H λnext z H1=>br (decide (z.1<z.2)) (ae x.a λa=>(0<=(NY.wrap (dF .u64 (OA.wrap (NY.wrap (z.1+z.2))) (1:Int)))/\(NY.wrap (dF .u64 (OA.wrap (NY.wrap (z.1+z.2))) (1:Int)))<(x.n:Int))/\ld (ab .i64) H1 (a.add ((NY.wrap (dF .u64 (OA.wrap (NY.wrap (z.1+z.2))) (1:Int))).toNat*1)) λ(b:Int)=>Kj.sp b target H1 λ(r:Bool) i=>br r (next (NY.wrap ((NY.wrap (dF .u64 (OA.wrap (NY.wrap (z.1+z.2))) (1:Int)))+1),z.2) i) (next (z.1,NY.wrap (dF .u64 (OA.wrap (NY.wrap (z.1+z.2))) (1:Int))) i)) (br (decide (z.1<(x.n:Int))) (ae x.a λc=>(0<=z.1/\z.1<(x.n:Int))/\ld (ab .i64) H1 (c.add (z.1.toNat*1)) λ(d:Int)=>br (d==target) (R (z.1,true) H1) (ae x.a λe=>(0<=z.1/\z.1<(x.n:Int))/\ld (ab .i64) H1 (e.add (z.1.toNat*1)) λ(f:Int)=>HH.sp f H1 λ(g:Bool) j=>br g (HH.sp target j λ(h:Bool) k=>R (z.1,h) k) (R (z.1,false) j))) (R (z.1,false) H1))
theorem IB.of:∀{x target H R},IB.vc x target H R->IB.sp x target H R:=aU [(3,[(7,(ab .i64)),(8,(ab .i64))])] (by kernel_rfl)
def GC.vc (l:Sl)(page:Int)(b:Array Value)(H:aa)(R:Kp Sl):Prop:=
 aI H b uy λp H1=>aw Sl l H1 λnext c d=>br (decide ((c.n:Int)<=page)) (ba ak NX (Pj Il 1 #[(0,(.agg (zc NX uy)))]) d λ(sl:Sl) f=>ba ak NX (N2 #[Il,Il] Il #[c.v,sl.v]) f λ(e:Sl) g=>next e g) (c6 jO 512 d p λ(x:Array Value)=>ae c.a λa=>(0<=page/\page<(c.n:Int))/\ji NX (Og uy (.pointer (some (a.add (page.toNat*512)))) (.agg x)) d λh=>R c h)
theorem GC.of:∀{l page b H R},GC.vc l page b H R->GC.sp l page b H R:=aU [(1,[(0,ak)])] (by kernel_rfl)
def JX.vc (d:Option Addr)(no:Int)(H:aa)(R:Kp Int):Prop:=
 aw (Int×Int) ((0:Int),(0:Int)) H λnext z H1=>ae d λa=>ld ak H1 (a.add 0) λ(x:Sl)=>br (decide (z.2<(x.n:Int))) (aw (Int×Int) (z.1,(0:Int)) H1 λc b e=>ae d λi=>ld ak e (i.add 0) λ(f:Sl)=>ae f.a λj=>(0<=z.2/\z.2<(f.n:Int))/\ld ak e ((j.add (z.2.toNat*3)).add 2) λ(k:Sl)=>br (decide (b.2<(k.n:Int))) (ae d λl=>ld ak e (l.add 0) λ(g:Sl)=>ae g.a λm=>(0<=z.2/\z.2<(g.n:Int))/\ld ak e ((m.add (z.2.toNat*3)).add 2) λ(h:Sl)=>ae h.a λn=>(0<=b.2/\b.2<(h.n:Int))/\ld (ab .i64) e ((n.add (b.2.toNat*3)).add 0) λ(o:Int)=>br (decide (o<no)) (c (NY.wrap (b.1+1),NY.wrap (b.2+1)) e) (c (b.1,NY.wrap (b.2+1)) e)) (next (b.1,NY.wrap (z.2+1)) e)) (R z.1 H1)
theorem JX.of:∀{d no H R},JX.vc d no H R->JX.sp d no H R:=aU [(3,[(5,(ab .i64)),(6,(ab .i64))]),(6,[(5,(ab .i64)),(7,(ab .i64))])] (by kernel_rfl)
def IT.vc (l:Sl)(k f:Int)(g:ByteArray)(H:aa)(R:Kp Sl):Prop:=
 aI H #[(.int .i64 k),(.int .i64 f),(.string g)] yL λp H1=>ba ak NX (N2 #[dS,dS] dS #[(.slice none 0 0),l.v]) H1 λ(out:Sl) m=>aw Sl out m λnext b e=>ld (ab .i64) e (p.add 1) λ(x:Int)=>br (decide ((b.n:Int)<=x)) (ba ak NX (QO dP (.int .i64 512) (.int .i64 512)) e λ(sl:Sl) j=>vJ j sl.a sl.n λ(str:ByteArray)=>aI j #[(.string str)] dH λh n=>ba ak NX (N2 #[dS,dS] dS #[b.v,(.slice (some h) 1 1)]) n λ(c:Sl) o=>next c o) (ld (ab .i64) e (p.add 1) λ(d:Int)=>ld aK e (p.add 2) λ(i:ByteArray)=>ae b.a λa=>(0<=d/\d<(b.n:Int))/\st e (a.add (d.toNat*1)) (.string i) λq=>R b q)
theorem IT.of:∀{l c a b H R},IT.vc l c a b H R->IT.sp l c a b H R:=aU [(3,[(5,ak)])] (by kernel_rfl)
def Bp.vc (d:Option Addr)(name:ByteArray)(H:aa)(R:Kp Int):Prop:=
 aw Int 0 H λnext i H1=>ae d λa=>ld ak H1 (a.add 0) λ(x:Sl)=>br (decide (i<(x.n:Int))) (ae d λc=>ld ak H1 (c.add 0) λ(b:Sl)=>ae b.a λe=>(0<=i/\i<(b.n:Int))/\ld aK H1 ((e.add (i.toNat*3)).add 0) λ(f:ByteArray)=>br (f.toList==name.toList) (R i H1) (next (NY.wrap (i+1)) H1)) (R (-1:Int) H1)
theorem Bp.of:∀{d name H R},Bp.vc d name H R->Bp.sp d name H R:=aU [(2,[(5,(ab .i64))])] (by kernel_rfl)
def Dw.vc (i:ByteArray)(e f:Sl)(H:aa)(R:Kp Sl):Prop:=
 aI H #[(.string i),e.v,f.v] tZ λp H1=>ld ak H1 (p.add 1) λ(x:Sl)=>ba ak NX (N2 #[dS,dS] dS #[(.slice none 0 0),x.v]) H1 λ(l:Sl) j=>aw (Sl×Int) (l,(0:Int)) j λnext z c=>ld ak c (p.add 2) λ(g:Sl)=>br (decide (z.2<(g.n:Int))) (ld ak c (p.add 2) λ(d:Sl)=>ae d.a λa=>(0<=z.2/\z.2<(d.n:Int))/\c6 (bQ [(ab .i64),(ab .i64),aK]) 3 c (a.add (z.2.toNat*3)) λ(b:(Int×Int×ByteArray))=>IT.sp z.1 b.1 b.2.1 b.2.2 c λ(h:Sl) k=>next (h,NY.wrap (z.2+1)) k) (R z.1 c)
theorem Dw.of:∀{c a b H R},Dw.vc c a b H R->Dw.sp c a b H R:=aU [(4,[(3,ak),(4,(ab .i64))])] (by kernel_rfl)
def Dq.vc (d:Option Addr)(name:ByteArray)(H:aa)(R:Kp (Option Addr×Int)):Prop:=
 Dn.sp d H λ(e:Int) H1=>br (e !=0) (R (none,e) H1) (ae d λa=>ld bT H1 (a.add 0) λ(x:Option Nat)=>Dr (aR [av,ay]) NX (Pp yI (.map x) (.string name) true) H1 λ(b:(Option Addr×Bool))=>br b.2 (R (b.1,(0:Int)) H1) (R (none,(11:Int)) H1))
theorem Dq.of:∀{d name H R},Dq.vc d name H R->Dq.sp d name H R:=aU [] (by kernel_rfl)
def Dz.vc (s:Sl)(H:aa)(R:Kp Sl):Prop:=
 br s.a.isNone (R (Sl.mk none 0 0) H) (aI H #[] fw λp H1=>ba ak NX (N2 #[dP,dP] dP #[(.slice (some p) 0 0),s.v]) H1 λ(a:Sl) b=>R a b)
theorem Dz.of:∀{s H R},Dz.vc s H R->Dz.sp s H R:=aU [] (by kernel_rfl)
def Iy.vc (s:Option Addr)(H:aa)(R:Kp ByteArray):Prop:=
 ae s λa=>ld (ab .i64) H (a.add 6) λ(x:Int)=>ae s λc=>st H (c.add 6) (.int .i64 (NY.wrap (x+1))) λH1=>∃G:aa->Prop,G H1/\ae s λd=>dv aK G (d.add 1) λ(b:ByteArray)=>((b.size+(O6 #[126]).size:Nat):Int)<=9223372036854775807/\ae s λe=>ld (ab .i64) H1 (e.add 6) λ(f:Int)=>DP.sp (NY.wrap (f - 1)) H1 λ(r:ByteArray) g=>G g/\(((b++(O6 #[126])).size+r.size:Nat):Int)<=9223372036854775807/\R ((b++(O6 #[126]))++r) g
theorem Iy.of:∀{s H R},Iy.vc s H R->Iy.sp s H R:=aU [] (by kernel_rfl)
def Jc.vc (p:Option Addr)(name:ByteArray)(width:Int)(rows:Sl)(H:aa)(R:Kp Int):Prop:=
 IY.sp p name width H λ(r:(Option Addr×Int)) H1=>aw (Int×Int) (r.2,(0:Int)) H1 λnext z b=>br ((decide (z.2<(rows.n:Int)))&&(z.1==0)) (ae rows.a λa=>(0<=z.2/\z.2<(rows.n:Int))/\ld ak b (a.add (z.2.toNat*1)) λ(x:Sl)=>Be.sp r.1 x b λ(e:Int) d=>next (e,NY.wrap (z.2+1)) d) (br (z.1==0) (Gw.sp r.1 b λ(c:(Int×Int)) f=>R c.2 f) (R z.1 b))
theorem Jc.of:∀{p name width rows H R},Jc.vc p name width rows H R->Jc.sp p name width rows H R:=aU [(3,[(10,(ab .i64)),(11,(ab .i64))])] (by kernel_rfl)
def JL.vc (rows:Sl)(H:aa)(R:Kp Sl):Prop:=
 aw (Sl×Int) ((Sl.mk none 0 0),(0:Int)) H λnext z H1=>br (decide (z.2<(rows.n:Int))) (ae rows.a λa=>(0<=z.2/\z.2<(rows.n:Int))/\ld ak H1 (a.add (z.2.toNat*1)) λ(x:Sl)=>Kh.sp z.1 x H1 λ(out:Sl) b=>next (out,NY.wrap (z.2+1)) b) (R z.1 H1)
theorem JL.of:∀{rows H R},JL.vc rows H R->JL.sp rows H R:=aU [(3,[(3,ak),(4,(ab .i64))])] (by kernel_rfl)
def JF.vc (s:Option Addr)(H:aa)(R:Kp (Int×Int)):Prop:=
 cut Unit (λJ=>ae s λa=>ld ak H (a.add 4) λ(x:Sl)=>br (decide ((x.n:Int)>0)) (Gq.sp s H λ(e:Int) H2=>br (e !=0) (R ((0:Int),e) H2) (J () H2)) (ae s λL=>ld ak H (L.add 5) λ(M:Sl)=>br ((M.n:Int)==0) (Gq.sp s H λ(j:Int) H3=>br (j !=0) (R ((0:Int),j) H3) (J () H3)) (J () H))) λ(_:Unit) H1=>aw Unit () H1 λnext _ d=>ae s λN=>ld ak d (N.add 5) λ(O:Sl)=>ae s λP=>ld (ab .i64) d (P.add 3) λ(Q:Int)=>br (decide ((O.n:Int)>=Q)) (ae s λS=>ld ak d (S.add 5) λ(f:Sl)=>ae s λT=>ld (ab .i64) d (T.add 3) λ(g:Int)=>(0<=(NY.wrap (g - 1))/\(NY.wrap (g - 1))<=(f.c:Int))/\ba ak NX (N2 #[dS,dS] dS #[(.slice none 0 0),(.slice (cw f.a f.c 0 1) (((NY.wrap (g - 1)).toNat) - 0) (f.c - 0))]) d λ(first:Sl) H5=>Iy.sp s H5 λ(name:ByteArray) U=>ae s λV=>ld av U (V.add 0) λ(W:Option Addr)=>ae s λX=>ld (ab .i64) U (X.add 2) λ(Y:Int)=>G7.sp W first name Y U λ(r:(Int×Int)) H7=>cut Int (λk=>br (r.2==0) (Hg.sp s first H7 λ(Z:Int) H9=>k Z H9) (k r.2 H7)) λ(l:Int) K=>br (l !=0) (R ((0:Int),l) K) (ae s λaf=>ld ak K (af.add 5) λ(b:Sl)=>ae s λan=>ld (ab .i64) K (an.add 3) λ(c:Int)=>(0<=(NY.wrap (c - 1))/\(NY.wrap (c - 1))<=(b.n:Int))/\ae s λm=>st K (m.add 5) (.slice (cw b.a b.c ((NY.wrap (c - 1)).toNat) 1) (b.n - ((NY.wrap (c - 1)).toNat)) (b.c - ((NY.wrap (c - 1)).toNat))) λn=>ae s λo=>ld ak n (o.add 5) λ(q:Sl)=>aI n #[(.string name)] dH λp a1=>ba ak NX (N2 #[dS,dS] dS #[q.v,(.slice (some p) 1 1)]) a1 λ(a6:Sl) a7=>ae s λt=>st a7 (t.add 5) a6.v λa8=>next () a8)) (ae s λu=>ld av d (u.add 0) λ(v:Option Addr)=>ae s λw=>ld ak d (w.add 5) λ(y:Sl)=>ae s λz=>ld aK d (z.add 1) λ(A:ByteArray)=>ae s λB=>ld (ab .i64) d (B.add 2) λ(C:Int)=>G7.sp v y A C d λ(h:(Int×Int)) i=>cut Int (λD=>br (h.2==0) (ae s λE=>ld ak i (E.add 5) λ(F:Sl)=>Hg.sp s F i λ(bb:Int) bd=>D bb bd) (D h.2 i)) λ(G:Int) I=>br (G !=0) (R ((0:Int),G) I) (R (h.1,(0:Int)) I))
theorem JF.of:∀{s H R},JF.vc s H R->JF.sp s H R:=aU [(100005,[]),(5,[]),(100012,[(8,(ab .i64))]),(100019,[(10,(ab .i64))])] (by kernel_rfl)
def HG.vc (b:Option Addr)(page:Int)(H:aa)(R:Kp (Int×Sl×Int)):Prop:=
 ae b λa=>ld av H (a.add 0) λ(x:Option Addr)=>ae b λd=>ld aK H (d.add 1) λ(e:ByteArray)=>IZ.sp x e page H λ(r:(Int×Int)) H1=>br (r.2!=0) (R ((0:Int),(Sl.mk none 0 0),r.2) H1) (ae b λf=>ld av H1 (f.add 0) λ(g:Option Addr)=>J2.sp g r.1 H1 λ(c:(Int×Sl×Int)) h=>br (c.2.2!=0) (R ((0:Int),(Sl.mk none 0 0),c.2.2) h) (ae b λi=>ld av h (i.add 0) λ(j:Option Addr)=>Fm.sp j r.1 h λ(k:Int) l=>R (c.1,c.2.1,k) l))
theorem HG.of:∀{b page H R},HG.vc b page H R->HG.sp b page H R:=aU [] (by kernel_rfl)
def Ig.vc (b:Sl)(width:Int)(H:aa)(R:Kp (Sl×Int)):Prop:=
 HT.sp width H λ(n:Int) H1=>br (n==0) (R ((Sl.mk none 0 0),(60:Int)) H1) (n≠0/\br ((Pf (b.n:Int) n)!=0) (R ((Sl.mk none 0 0),(60:Int)) H1) (aw (Sl×Int) ((Sl.mk none 0 0),(0:Int)) H1 λnext z g=>br (decide (z.2<(b.n:Int))) (cut Unit (λJ=>br (width==0) (ae b.a λa=>(0<=z.2/\z.2<(b.n:Int))/\ld (ab .u8) g (a.add (z.2.toNat*1)) λ(x:Int)=>br (x !=0) (R ((Sl.mk none 0 0),(60:Int)) g) (J () g)) (J () g)) λ(_:Unit) o=>aw (Sl×Int) ((Sl.mk none 0 0),(0:Int)) o λe c m=>br (decide (c.2<width)) (aw (Int×Int) ((0:Int),(0:Int)) m λf d h=>br (decide (d.2<8)) (ae b.a λi=>(0<=(NY.wrap ((NY.wrap (z.2+(NY.wrap ((8:Int)*c.2))))+d.2))/\(NY.wrap ((NY.wrap (z.2+(NY.wrap ((8:Int)*c.2))))+d.2))<(b.n:Int))/\ld (ab .u8) h (i.add ((NY.wrap ((NY.wrap (z.2+(NY.wrap ((8:Int)*c.2))))+d.2)).toNat*1)) λ(j:Int)=>f (OA.wrap ((OA.wrap (d.1*256))+(OA.wrap j)),NY.wrap (d.2+1)) h) (aI h #[(.int .u64 d.1)] gR λp q=>ba ak NX (N2 #[dZ,dZ] dZ #[c.1.v,(.slice (some p) 1 1)]) q λ(l:Sl) r=>e (l,NY.wrap (c.2+1)) r)) (aI m #[c.1.v] dZ λk s=>ba ak NX (N2 #[gd,gd] gd #[z.1.v,(.slice (some k) 1 1)]) s λ(out:Sl) t=>next (out,NY.wrap (z.2+n)) t)) (R (z.1,(0:Int)) g)))
theorem Ig.of:∀{b width H R},Ig.vc b width H R->Ig.sp b width H R:=aU [(6,[(7,ak),(8,(ab .i64))]),(100011,[]),(12,[(9,ak),(10,(ab .i64))]),(16,[(11,(ab .u64)),(12,(ab .i64))])] (by kernel_rfl)
def JT.vc (n room:Int)(H:aa)(R:Kp Int):Prop:=
 room≠0/\R (NY.wrap (OP (NY.wrap ((NY.wrap (n+room)) - 1)) room)) H
theorem JT.of:∀{n room H R},JT.vc n room H R->JT.sp n room H R:=aU [] (by kernel_rfl)
def Jn.vc (d:Option Addr)(name:ByteArray)(H:aa)(R:Kp Int):Prop:=
 ae d λa=>ld ay H (a.add 8) λ(x:Bool)=>br x (R (4:Int) H) (Jw.sp name H λ(r:Bool) H1=>br (!r) (R (2:Int) H1) (Bp.sp d name H1 λ(c:Int) b=>br (decide (c>=0)) (R (10:Int) b) (ae d λf=>ld ak b (f.add 0) λ(g:Sl)=>br ((g.n:Int)==4096) (R (3:Int) b) (Fa.sp d b λ(e:Int) h=>br (e==0) (ae d λi=>ld ak h (i.add 0) λ(j:Sl)=>aI h #[(.string name),(.slice none 0 0),(.slice none 0 0)] tZ λp l=>ba ak NX (N2 #[CX,CX] CX #[j.v,(.slice (some p) 1 1)]) l λ(s:Sl) m=>ae d λk=>st m (k.add 0) s.v λn=>R e n) (R e h)))))
theorem Jn.of:∀{d name H R},Jn.vc d name H R->Jn.sp d name H R:=aU [] (by kernel_rfl)
def Hr.vc (b:Option Addr)(kind:Int)(p:Sl)(H:aa)(R:Kp Int):Prop:=
 ae b λa=>ld av H (a.add 0) λ(x:Option Addr)=>ae b λc=>ld aK H (c.add 1) λ(d:ByteArray)=>I4.sp x d H λ(r:(Int×Int×Int)) H1=>br ((r.2.2==0)&&(kind !=0)) (ae b λf=>ld av H1 (f.add 0) λ(g:Option Addr)=>G5.sp g r.1 kind p H1 λ(e:Int) h=>br (e==0) (ae b λi=>ld av h (i.add 0) λ(j:Option Addr)=>Fm.sp j r.1 h λ(k:Int) o=>R k o) (R e h)) (br (r.2.2==0) (ae b λl=>ld av H1 (l.add 0) λ(m:Option Addr)=>Fm.sp m r.1 H1 λ(n:Int) q=>R n q) (R r.2.2 H1))
theorem Hr.of:∀{b kind p H R},Hr.vc b kind p H R->Hr.sp b kind p H R:=aU [] (by kernel_rfl)
def Gu.vc (b:Option Addr)(H:aa)(R:Kp Int):Prop:=
 ae b λa=>ld (ab .i64) H (a.add 3) λ(x:Int)=>br (x !=0) (ae b λc=>ld (ab .i64) H (c.add 3) λ(d:Int)=>R d H) (ae b λe=>ld ay H (e.add 4) λ(f:Bool)=>br f (R (2:Int) H) (R (0:Int) H))
theorem Gu.of:∀{b H R},Gu.vc b H R->Gu.sp b H R:=aU [] (by kernel_rfl)
def JN.vc (r:Option Addr)(k:Int)(H:aa)(R:Kp Int):Prop:=
 ae r λa=>ld (ab .i64) H (a.add 7) λ(x:Int)=>br (x==(NY.wrap (k+1))) (R (0:Int) H) (ae r λf=>ld (ab .i64) H ((f.add 0).add 2) λ(g:Int)=>A9.sp g H λ(room:Int) H1=>ae r λh=>HG.sp (some (h.add 0)) (NY.wrap (k+1)) H1 λ(b:(Int×Sl×Int)) i=>br (b.2.2!=0) (ae r λj=>Co.sp (some (j.add 0)) b.2.2 i λ(l:Int) z=>R l z) (ae r λm=>ld (ab .i64) i ((m.add 0).add 2) λ(o:Int)=>Ig.sp b.2.1 o i λ(c:(Sl×Int)) e=>br ((b.1!=1)||(c.2!=0)) (ae r λp=>Co.sp (some (p.add 0)) (280:Int) e λ(q:Int) A=>R q A) (ae r λs=>ld (ab .i64) e (s.add 5) λ(d:Int)=>br ((c.1.n:Int)!=(if (NY.wrap (d - (NY.wrap (k*room))))<room then (NY.wrap (d - (NY.wrap (k*room)))) else room)) (ae r λt=>Co.sp (some (t.add 0)) (280:Int) e λ(u:Int) B=>R u B) (ae r λw=>st e (w.add 7) (.int .i64 (NY.wrap (k+1))) λC=>ae r λy=>st C (y.add 8) c.1.v λD=>R (0:Int) D))))
theorem JN.of:∀{r k H R},JN.vc r k H R->JN.sp r k H R:=aU [] (by kernel_rfl)
def IH.vc (w:Option Addr)(H:aa)(R:Kp Int):Prop:=
 ae w λa=>ld (ab .i64) H (a.add 6) λ(x:Int)=>br (x==0) (R (0:Int) H) (ae w λb=>ae w λc=>ld ak H (c.add 5) λ(d:Sl)=>Hr.sp (some (b.add 0)) (1:Int) d H λ(e:Int) H1=>ae w λf=>st H1 (f.add 5) (.slice none 0 0) λi=>ae w λg=>st i (g.add 6) (.int .i64 0) λj=>ae w λh=>Co.sp (some (h.add 0)) e j λ(r:Int) k=>R r k)
theorem IH.of:∀{w H R},IH.vc w H R->IH.sp w H R:=aU [] (by kernel_rfl)
def IZ.vc (p:Option Addr)(name:ByteArray)(page:Int)(H:aa)(R:Kp (Int×Int)):Prop:=
 ae p λa=>ld (ab .i64) H (a.add 6) λ(x:Int)=>br (x !=0) (ae p λN=>ld (ab .i64) H (N.add 6) λ(O:Int)=>R ((0:Int),O) H) (Ic.sp p name page H λ(i:Int) H1=>br (decide (i>=0)) (GJ.sp p i H1 λ(r:Int) H2=>R (r,(0:Int)) H2) (ae p λP=>ld av H1 (P.add 0) λ(Q:Option Addr)=>BW.sp Q name H1 λ(f:(Int×Int)) k=>br ((f.2==0)&&((decide (page<0))||(decide (page>=f.1)))) (br ((12:Int)==0) (GV.sp p k λ(e:Int) S=>br (e !=0) (nt.sp p e S λ(T:Int) H5=>R ((0:Int),T) H5) (ae p λU=>ld av S (U.add 0) λ(V:Option Addr)=>Cf.sp V name page S λ(l:(Sl×Int)) H6=>br (l.2!=0) (nt.sp p l.2 H6 λ(W:Int) H7=>R ((0:Int),W) H7) (Ej.sp l.1 H6 λ(g:(Int×Sl×Int)) X=>br (g.2.2!=0) (nt.sp p g.2.2 X λ(Y:Int) H9=>R ((0:Int),Y) H9) (vJ X g.2.1.a g.2.1.n λ(str:ByteArray)=>BQ.sp p name page g.1 str false (Sl.mk none 0 0) (0:Int) X λ(Z:Int) af=>R (Z,(0:Int)) af)))) (br ((12:Int)!=0) (nt.sp p (12:Int) k λ(an:Int) a1=>R ((0:Int),an) a1) (ae p λa6=>ld av k (a6.add 0) λ(a7:Option Addr)=>Cf.sp a7 name page k λ(m:(Sl×Int)) w=>br (m.2!=0) (nt.sp p m.2 w λ(y:Int) a8=>R ((0:Int),y) a8) (Ej.sp m.1 w λ(b:(Int×Sl×Int)) o=>br (b.2.2!=0) (nt.sp p b.2.2 o λ(z:Int) bb=>R ((0:Int),z) bb) (vJ o b.2.1.a b.2.1.n λ(str_1:ByteArray)=>BQ.sp p name page b.1 str_1 false (Sl.mk none 0 0) (0:Int) o λ(A:Int) bd=>R (A,(0:Int)) bd))))) (br (f.2==0) (GV.sp p k λ(B:Int) q=>br (B !=0) (nt.sp p B q λ(C:Int) bl=>R ((0:Int),C) bl) (ae p λbn=>ld av q (bn.add 0) λ(bs:Option Addr)=>Cf.sp bs name page q λ(h:(Sl×Int)) D=>br (h.2!=0) (nt.sp p h.2 D λ(E:Int) bx=>R ((0:Int),E) bx) (Ej.sp h.1 D λ(c:(Int×Sl×Int)) s=>br (c.2.2!=0) (nt.sp p c.2.2 s λ(F:Int) bA=>R ((0:Int),F) bA) (vJ s c.2.1.a c.2.1.n λ(t:ByteArray)=>BQ.sp p name page c.1 t false (Sl.mk none 0 0) (0:Int) s λ(G:Int) bB=>R (G,(0:Int)) bB)))) (br (f.2!=0) (nt.sp p f.2 k λ(I:Int) bC=>R ((0:Int),I) bC) (ae p λbD=>ld av k (bD.add 0) λ(bM:Option Addr)=>Cf.sp bM name page k λ(j:(Sl×Int)) J=>br (j.2!=0) (nt.sp p j.2 J λ(K:Int) bO=>R ((0:Int),K) bO) (Ej.sp j.1 J λ(d:(Int×Sl×Int)) u=>br (d.2.2!=0) (nt.sp p d.2.2 u λ(L:Int) b0=>R ((0:Int),L) b0) (vJ u d.2.1.a d.2.1.n λ(v:ByteArray)=>BQ.sp p name page d.1 v false (Sl.mk none 0 0) (0:Int) u λ(M:Int) b1=>R (M,(0:Int)) b1)))))))
theorem IZ.of:∀{p name page H R},IZ.vc p name page H R->IZ.sp p name page H R:=aU [] (by kernel_rfl)
def G5.vc (p:Option Addr)(h kind:Int)(b:Sl)(H:aa)(R:Kp Int):Prop:=
 GI.sp p h H λ(i:Int) H1=>ae p λa=>ld (ab .i64) H1 (a.add 6) λ(x:Int)=>br (x !=0) (ae p λf=>ld (ab .i64) H1 (f.add 6) λ(g:Int)=>R g H1) (br (decide (i<0)) (R (32:Int) H1) (br (decide ((b.n:Int)>504)) (R (2:Int) H1) (ae p λj=>ld ak H1 (j.add 2) λ(c:Sl)=>ae c.a λk=>(0<=i/\i<(c.n:Int))/\st H1 ((k.add (i.toNat*7)).add 2) (.int .u8 kind) λl=>ae p λm=>ld ak l (m.add 2) λ(d:Sl)=>vJ l b.a b.n λ(str:ByteArray)=>ae d.a λn=>(0<=i/\i<(d.n:Int))/\st l ((n.add (i.toNat*7)).add 3) (.string str) λr=>ae p λo=>ld ak r (o.add 2) λ(e:Sl)=>ae e.a λq=>(0<=i/\i<(e.n:Int))/\st r ((q.add (i.toNat*7)).add 4) (.bool true) λs=>R (0:Int) s)))
theorem G5.of:∀{p h kind b H R},G5.vc p h kind b H R->G5.sp p h kind b H R:=aU [] (by kernel_rfl)
def I5.vc (width rows:Int)(H:aa)(R:Kp Sl):Prop:=
 aI H #[(.int .u8 (OW.wrap width))] fw λa H1=>aI H1 #[(.int .u64 (OA.wrap rows))] gR λp b=>Ix.sp (Sl.mk (some p) 1 1) b λ(r:Sl) c=>ba ak NX (N2 #[dP,dP] dP #[(.slice (some a) 1 1),r.v]) c λ(out:Sl) d=>R out d
theorem I5.of:∀{width rows H R},I5.vc width rows H R->I5.sp width rows H R:=aU [] (by kernel_rfl)
def Fm.vc (p:Option Addr)(h:Int)(H:aa)(R:Kp Int):Prop:=
 GI.sp p h H λ(i:Int) H1=>ae p λa=>ld (ab .i64) H1 (a.add 6) λ(x:Int)=>br (x !=0) (ae p λy=>ld (ab .i64) H1 (y.add 6) λ(A:Int)=>R A H1) (br (decide (i<0)) (R (32:Int) H1) (aw (Sl×Int) ((Sl.mk none 0 0),(0:Int)) H1 λnext z b=>ae p λB=>ld ak b (B.add 2) λ(e:Sl)=>ae e.a λC=>(0<=i/\i<(e.n:Int))/\ld ak b ((C.add (i.toNat*7)).add 5) λ(D:Sl)=>br (decide (z.2<(D.n:Int))) (ae p λE=>ld ak b (E.add 2) λ(f:Sl)=>ae f.a λF=>(0<=i/\i<(f.n:Int))/\ld ak b ((F.add (i.toNat*7)).add 5) λ(g:Sl)=>ae g.a λG=>(0<=z.2/\z.2<(g.n:Int))/\ld (ab .i64) b (G.add (z.2.toNat*1)) λ(I:Int)=>br (I !=h) (ae p λJ=>ld ak b (J.add 2) λ(j:Sl)=>ae j.a λK=>(0<=i/\i<(j.n:Int))/\ld ak b ((K.add (i.toNat*7)).add 5) λ(k:Sl)=>ae k.a λL=>(0<=z.2/\z.2<(k.n:Int))/\ld (ab .i64) b (L.add (z.2.toNat*1)) λ(M:Int)=>aI b #[(.int .i64 M)] hZ λN Q=>ba ak NX (N2 #[Dd,Dd] Dd #[z.1.v,(.slice (some N) 1 1)]) Q λ(l:Sl) S=>next (l,NY.wrap (z.2+1)) S) (next (z.1,NY.wrap (z.2+1)) b)) (ae p λm=>ld ak b (m.add 2) λ(c:Sl)=>ae c.a λn=>(0<=i/\i<(c.n:Int))/\st b ((n.add (i.toNat*7)).add 5) z.1.v λP=>ae p λo=>ld (ab .i64) P (o.add 4) λ(q:Int)=>ae p λr=>st P (r.add 4) (.int .i64 (NY.wrap (q+1))) λO=>ae p λs=>ld ak O (s.add 2) λ(d:Sl)=>ae p λt=>ld (ab .i64) O (t.add 4) λ(u:Int)=>ae d.a λw=>(0<=i/\i<(d.n:Int))/\st O ((w.add (i.toNat*7)).add 6) (.int .i64 u) λT=>R (0:Int) T)))
theorem Fm.of:∀{p h H R},Fm.vc p h H R->Fm.sp p h H R:=aU [(8,[(6,ak),(7,(ab .i64))])] (by kernel_rfl)
def JK.vc (p:Option Addr)(name:ByteArray)(H:aa)(R:Kp Int):Prop:=
 ae p λa=>ld (ab .i64) H (a.add 6) λ(x:Int)=>br (x !=0) (ae p λd=>ld (ab .i64) H (d.add 6) λ(f:Int)=>R f H) (ae p λg=>ld av H (g.add 0) λ(h:Option Addr)=>BW.sp h name H λ(r:(Int×Int)) H1=>br (r.2!=0) (nt.sp p r.2 H1 λ(j:Int) y=>R j y) (aw Int 0 H1 λnext k l=>br (decide (k<r.1)) (Ic.sp p name k l λ(i:Int) b=>br (decide (i>=0)) (ae p λm=>ld ak b (m.add 2) λ(c:Sl)=>ae c.a λn=>(0<=i/\i<(c.n:Int))/\ld ay b ((n.add (i.toNat*7)).add 4) λ(o:Bool)=>br o (Ii.sp p i b λ(e:Int) w=>br (e !=0) (nt.sp p e w λ(q:Int) z=>R q z) (next (NY.wrap (k+1)) w)) (next (NY.wrap (k+1)) b)) (next (NY.wrap (k+1)) b)) (ae p λs=>ld av l (s.add 0) λ(t:Option Addr)=>JB.sp t name l λ(u:Int) A=>nt.sp p u A λ(v:Int) B=>R v B)))
theorem JK.of:∀{p name H R},JK.vc p name H R->JK.sp p name H R:=aU [(7,[(7,(ab .i64))])] (by kernel_rfl)
def Co.vc (b:Option Addr)(e:Int)(H:aa)(R:Kp Int):Prop:=
 br (e !=0) (ae b λa=>ld (ab .i64) H (a.add 3) λ(x:Int)=>br (x==0) (ae b λc=>st H (c.add 3) (.int .i64 e) λH1=>R e H1) (R e H)) (R e H)
theorem Co.of:∀{b e H R},Co.vc b e H R->Co.sp b e H R:=aU [] (by kernel_rfl)
def Ix.vc (l:Sl)(H:aa)(R:Kp Sl):Prop:=
 br ((l.n:Int)==0) (aI H #[(.int .u8 0)] fw λp H1=>R (Sl.mk (some p) 1 1) H1) (aw (Sl×Int) ((Sl.mk none 0 0),(0:Int)) H λnext z f=>br (decide (z.2<(l.n:Int))) (aw (Sl×Int) (z.1,(56:Int)) f λc b d=>br (decide (b.2>=0)) (ae l.a λa=>(0<=z.2/\z.2<(l.n:Int))/\ld (ab .u64) d (a.add (z.2.toNat*1)) λ(x:Int)=>0<=b.2/\aI d #[(.int .u8 (OW.wrap (dF .u64 x b.2)))] fw λe g=>ba ak NX (N2 #[dP,dP] dP #[b.1.v,(.slice (some e) 1 1)]) g λ(out:Sl) h=>c (out,NY.wrap (b.2 - 8)) h) (next (b.1,NY.wrap (z.2+1)) d)) (R z.1 f))
theorem Ix.of:∀{l H R},Ix.vc l H R->Ix.sp l H R:=aU [(5,[(3,ak),(4,(ab .i64))]),(8,[(3,ak),(5,(ab .i64))])] (by kernel_rfl)
def J0.vc (i:Int)(H:aa)(R:Kp ByteArray):Prop:=
 Ku.sp i H λ(r:ByteArray) H1=>R r H1
theorem J0.of:∀{i H R},J0.vc i H R->J0.sp i H R:=aU [] (by kernel_rfl)
def Jr.vc (p:Option Addr)(name:ByteArray)(H:aa)(R:Kp Int):Prop:=
 DE.sp p H λ(e:Int) H1=>br (e !=0) (R e H1) (ae p λa=>ld av H1 (a.add 0) λ(x:Option Addr)=>DA.sp x name H1 λ(r:(Int×Int)) s=>br (r.2!=0) (uk.sp p r.2 s λ(d:Int) u=>R d u) (HD.sp p name s λ(l:Sl) v=>J5.sp l v λ(g:Bool) t=>br g (R (31:Int) t) (aw Int 0 t λnext z b=>br (decide (z<(l.n:Int))) (ae l.a λh=>(0<=z/\z<(l.n:Int))/\ld av b (h.add (z.toNat*1)) λ(f:Option Addr)=>ae p λi=>ld bT b (i.add 2) λ(j:Option Nat)=>ae f λk=>c6 (bQ [aK,(ab .i64)]) 2 b (k.add 0) λ(c:(ByteArray×Int))=>ba gh NX (Px #[xK,wK] Aa #[(.map j),(.agg #[(.string c.1),(.int .i64 c.2)])]) b λ(_:Value) w=>next (NY.wrap (z+1)) w) (ae p λm=>ld av b (m.add 0) λ(n:Option Addr)=>JD.sp n name b λ(o:Int) y=>uk.sp p o y λ(q:Int) A=>R q A))))
theorem Jr.of:∀{p name H R},Jr.vc p name H R->Jr.sp p name H R:=aU [(11,[(37,(ab .i64))])] (by kernel_rfl)
def Ij.vc (s:ByteArray)(H:aa)(R:Kp Bool):Prop:=
 R ((!(s.toList==Qk.toList))&&(decide ((s.size:Int)<=100))) H
theorem Ij.of:∀{s H R},Ij.vc s H R->Ij.sp s H R:=aU [] (by kernel_rfl)
def DC.vc (d:Option Addr)(H:aa)(R:Kp Int):Prop:=
 ae d λa=>ld ay H ((a.add 6).add 0) λ(x:Bool)=>br x (ae d λb=>ld (ab .i64) H ((b.add 6).add 1) λ(c:Int)=>br (c==0) (ae d λe=>st H (e.add 9) (.bool true) λH1=>R (4:Int) H1) (ae d λf=>ld (ab .i64) H ((f.add 6).add 1) λ(g:Int)=>ae d λh=>st H ((h.add 6).add 1) (.int .i64 (NY.wrap (g - 1))) λo=>ae d λi=>ld (ab .i64) o (i.add 4) λ(j:Int)=>ae d λk=>st o (k.add 4) (.int .i64 (NY.wrap (j+1))) λp=>R (0:Int) p)) (ae d λl=>ld (ab .i64) H (l.add 4) λ(m:Int)=>ae d λn=>st H (n.add 4) (.int .i64 (NY.wrap (m+1))) λq=>R (0:Int) q)
theorem DC.of:∀{d H R},DC.vc d H R->DC.sp d H R:=aU [] (by kernel_rfl)
def Jb.vc (p:Option Addr)(name:ByteArray)(H:aa)(R:Kp (Int×Int×Int)):Prop:=
 DE.sp p H λ(e:Int) H1=>br (e !=0) (R ((0:Int),(0:Int),e) H1) (ae p λa=>ld av H1 (a.add 0) λ(x:Option Addr)=>DA.sp x name H1 λ(r:(Int×Int)) z=>br (r.2==0) (Hd.sp p z λ(c:Int) B=>aI B #[(.string name),(.int .i64 r.1),(.int .u8 0),(.slice none 0 0),(.bool false),(.int .i64 0),(.int .i64 0)] KA λd j=>br (c==0) (Dt.sp p (some d) j λ(g:Int) A=>br (g !=0) (uk.sp p g A λ(k:Int) C=>R ((0:Int),(0:Int),k) C) (BN.sp p (some d) A λ(l:Int) D=>R (l,r.1,(0:Int)) D)) (br (c !=0) (uk.sp p c j λ(m:Int) E=>R ((0:Int),(0:Int),m) E) (BN.sp p (some d) j λ(n:Int) F=>R (n,r.1,(0:Int)) F))) (aI z #[(.string name),(.int .i64 r.1),(.int .u8 0),(.slice none 0 0),(.bool false),(.int .i64 0),(.int .i64 0)] KA λb f=>br (r.2==0) (Dt.sp p (some b) f λ(h:Int) i=>br (h !=0) (uk.sp p h i λ(o:Int) q=>R ((0:Int),(0:Int),o) q) (BN.sp p (some b) i λ(s:Int) t=>R (s,r.1,(0:Int)) t)) (br (r.2!=0) (uk.sp p r.2 f λ(u:Int) v=>R ((0:Int),(0:Int),u) v) (BN.sp p (some b) f λ(w:Int) y=>R (w,r.1,(0:Int)) y))))
theorem Jb.of:∀{p name H R},Jb.vc p name H R->Jb.sp p name H R:=aU [] (by kernel_rfl)
def JZ.vc (b:Array Value)(n:Int)(H:aa)(R:Kp (Array Value)):Prop:=
 aI H b Fe λp H1=>aI H1 (zc NX Fe) Fe λa e=>aw Int 0 e λnext z c=>br (decide (z<8)) (0<=(NY.wrap ((56:Int) - (NY.wrap ((8:Int)*z))))/\(0<=z/\z<((8:Nat):Int))/\st c (p.add (z.toNat*1)) (.int .u8 (OW.wrap (dF .u64 n (NY.wrap ((56:Int) - (NY.wrap ((8:Int)*z))))))) λf=>next (NY.wrap (z+1)) f) (c6 jO 8 c p λ(x:Array Value)=>ji NX (Og Fe (.pointer (some a)) (.agg x)) c λd=>c6 jO 8 d a λ(res:Array Value)=>R res d)
theorem JZ.of:∀{b n H R},JZ.vc b n H R->JZ.sp b n H R:=aU [(2,[(6,(ab .i64))])] (by kernel_rfl)
def DE.vc (p:Option Addr)(H:aa)(R:Kp Int):Prop:=
 br p.isNone (R (1:Int) H) (ae p λa=>ld (ab .i64) H (a.add 7) λ(x:Int)=>R x H)
theorem DE.of:∀{p H R},DE.vc p H R->DE.sp p H R:=aU [] (by kernel_rfl)
def ED.vc (p f:Option Addr)(H:aa)(R:Kp Int):Prop:=
 ae f λa=>ld (ab .i64) H (a.add 5) λ(x:Int)=>ae f λb=>st H (b.add 5) (.int .i64 (NY.wrap (x+1))) λH1=>ae p λc=>ld bT H1 (c.add 3) λ(d:Option Nat)=>ae p λe=>ld (ab .i64) H1 (e.add 4) λ(g:Int)=>ji NX (P5 LF (.map d) (.int .i64 g) (.pointer f)) H1 λm=>ae p λh=>ld (ab .i64) m (h.add 4) λ(i:Int)=>ae p λj=>st m (j.add 4) (.int .i64 (NY.wrap (i+1))) λn=>ae p λk=>ld (ab .i64) n (k.add 4) λ(l:Int)=>R (NY.wrap (l - 1)) n
theorem ED.of:∀{p f H R},ED.vc p f H R->ED.sp p f H R:=aU [] (by kernel_rfl)
def I6.vc (p:Option Addr)(at_:ByteArray)(h:Int)(H:aa)(R:Kp (Option Addr×Int)):Prop:=
 aI H #[(.string at_),(.int .i64 h)] wK λb H1=>ae p λa=>ld av H1 (a.add 0) λ(x:Option Addr)=>ld aK H1 (b.add 0) λ(k:ByteArray)=>DA.sp x k H1 λ(r:(Int×Int)) g=>br (r.2!=0) (R (none,r.2) g) (ld (ab .i64) g (b.add 1) λ(l:Int)=>br (decide (l<0)) (R (none,(12:Int)) g) (ld (ab .i64) g (b.add 1) λ(m:Int)=>br (decide (m>=r.1)) (R (none,(12:Int)) g) (Hd.sp p g λ(e:Int) i=>br (e !=0) (R (none,e) i) (ae p λn=>ld av i (n.add 0) λ(o:Option Addr)=>ld aK i (b.add 0) λ(q:ByteArray)=>ld (ab .i64) i (b.add 1) λ(s:Int)=>G4.sp o q s i λ(c:(Sl×Int)) t=>br (c.2!=0) (R (none,c.2) t) (c6 (bQ [aK,(ab .i64)]) 2 t b λ(j:(ByteArray×Int))=>aI t #[(.string j.1),(.int .i64 j.2),(.int .u8 0),(.slice none 0 0),(.bool false),(.int .i64 0),(.int .i64 0)] KA λd u=>JQ.sp c.1 u λ(f:(Int×Sl×Int)) w=>st w (d.add 2) (.int .u8 f.1) λy=>st y (d.add 3) f.2.1.v λz=>R (some d,f.2.2) z)))))
theorem I6.of:∀{p at_ a H R},I6.vc p at_ a H R->I6.sp p at_ a H R:=aU [] (by kernel_rfl)
def uk.vc (p:Option Addr)(e:Int)(H:aa)(R:Kp Int):Prop:=
 br (e==4) (br (e==4) (ae p λa=>st H (a.add 7) (.int .i64 e) λH1=>R e H1) (R e H)) (br (e==5) (br (e==5) (ae p λb=>st H (b.add 7) (.int .i64 e) λd=>R e d) (R e H)) (br (e==20) (ae p λc=>st H (c.add 7) (.int .i64 e) λf=>R e f) (R e H)))
theorem uk.of:∀{p e H R},uk.vc p e H R->uk.sp p e H R:=aU [] (by kernel_rfl)
def BN.vc (p f:Option Addr)(H:aa)(R:Kp Int):Prop:=
 ae p λa=>ld bT H (a.add 2) λ(x:Option Nat)=>ae f λd=>c6 (bQ [aK,(ab .i64)]) 2 H (d.add 0) λ(b:(ByteArray×Int))=>ji NX (P5 xK (.map x) (.agg #[(.string b.1),(.int .i64 b.2)]) (.pointer f)) H λH1=>ae p λe=>ld (ab .i64) H1 (e.add 6) λ(c:Int)=>ae p λg=>ld bT H1 (g.add 2) λ(h:Option Nat)=>AH H1 h λ(n:Nat)=>ae p λi=>st H1 (i.add 6) (.int .i64 (if (n:Int)>c then (n:Int) else c)) λj=>ED.sp p f j λ(r:Int) k=>R r k
theorem BN.of:∀{p f H R},BN.vc p f H R->BN.sp p f H R:=aU [] (by kernel_rfl)
def GM.vc (p:Option Addr)(h:Int)(H:aa)(R:Kp (Option Addr×Int)):Prop:=
 DE.sp p H λ(e:Int) H1=>br (e !=0) (R (none,e) H1) (ae p λa=>ld bT H1 (a.add 3) λ(x:Option Nat)=>Dr (aR [av,ay]) NX (Pp LF (.map x) (.int .i64 h) true) H1 λ(b:(Option Addr×Bool))=>br b.2 (R (b.1,(0:Int)) H1) (R (none,(32:Int)) H1))
theorem GM.of:∀{p h H R},GM.vc p h H R->GM.sp p h H R:=aU [] (by kernel_rfl)
def HD.vc (p:Option Addr)(name:ByteArray)(H:aa)(R:Kp Sl):Prop:=
 aI H #[(.string name)] dH λb H1=>ae p λa=>ld bT H1 (a.add 2) λ(x:Option Nat)=>Kq.sp x H1 λ(r:Value) d=>KW.sp r d λ(c:Sl) e=>JC.sp c b e λ(l:Sl) f=>MN.sp l (.func (.func Dy.no) #[] #[]) f λ(_:Unit) g=>R l g
theorem HD.of:∀{p name H R},HD.vc p name H R->HD.sp p name H R:=aU [] (by kernel_rfl)
def Dt.vc (p f:Option Addr)(H:aa)(R:Kp Int):Prop:=
 ae f λa=>ld (ab .u8) H (a.add 2) λ(x:Int)=>ae f λb=>ld ak H (b.add 3) λ(c:Sl)=>J1.sp x c H λ(r:(Sl×Int)) H1=>br (r.2!=0) (R r.2 H1) (ae p λd=>ld av H1 (d.add 0) λ(g:Option Addr)=>ae f λh=>ld aK H1 ((h.add 0).add 0) λ(i:ByteArray)=>ae f λj=>ld (ab .i64) H1 ((j.add 0).add 1) λ(k:Int)=>JU.sp g i k r.1 H1 λ(e:Int) m=>br (e==0) (ae f λl=>st m (l.add 4) (.bool false) λn=>R e n) (R e m))
theorem Dt.of:∀{p f H R},Dt.vc p f H R->Dt.sp p f H R:=aU [] (by kernel_rfl)
def Jy.vc (d:Option Addr)(name:ByteArray)(H:aa)(R:Kp Int):Prop:=
 Dq.sp d name H λ(r:(Option Addr×Int)) H1=>br (r.2!=0) (R r.2 H1) (DC.sp d H1 λ(e:Int) b=>br (e==0) (ae r.1 λa=>ld ak b (a.add 0) λ(x:Sl)=>Dp.sp x b λ(c:Sl) h=>ae r.1 λf=>st h (f.add 1) c.v λi=>ae r.1 λg=>st i (g.add 2) (.slice none 0 0) λj=>R e j) (R e b))
theorem Jy.of:∀{d name H R},Jy.vc d name H R->Jy.sp d name H R:=aU [] (by kernel_rfl)
def JO.vc (p:Option Addr)(h:Int)(H:aa)(R:Kp (Int×Sl×Int)):Prop:=
 GM.sp p h H λ(r:(Option Addr×Int)) H1=>br (r.2!=0) (R ((0:Int),(Sl.mk none 0 0),r.2) H1) (∃G:aa->Prop,G H1/\ae r.1 λa=>dv (ab .u8) G (a.add 2) λ(x:Int)=>ae r.1 λb=>ld ak H1 (b.add 3) λ(c:Sl)=>Dz.sp c H1 λ(d:Sl) e=>G e/\R (x,d,(0:Int)) e)
theorem JO.of:∀{p h H R},JO.vc p h H R->JO.sp p h H R:=aU [] (by kernel_rfl)
def Jq.vc (s:Sl)(n:Int)(H:aa)(R:Kp Value):Prop:=
 aI H #[s.v] dP λp H1=>aI H1 #[(.int .i64 n)] hZ λa b=>ld (ab .i64) b a λ(x:Int)=>br (decide (x<1)) (False) (R (.func (.func Dx.no) #[] #[(.pointer (some p)),(.pointer (some a))]) b)
theorem Jq.of:∀{s n H R},Jq.vc s n H R->Jq.sp s n H R:=aU [] (by kernel_rfl)
def Ko.vc (seq:Value)(H:aa)(R:Kp Sl):Prop:=
 Js.sp (Sl.mk none 0 0) seq H λ(r:Sl) H1=>R r H1
theorem Ko.of:∀{seq H R},Ko.vc seq H R->Ko.sp seq H R:=aU [] (by kernel_rfl)
def EX.vc (l:Nat)(cap:Addr)(H:aa)(R:Kp Unit):Prop:=
 ld bT H cap λ(x:Option Nat)=>ba av NX (PY yI (.map x)) H λ(it:Option Addr) H1=>aw Unit () H1 λnext _ d=>ba fV NX (PU (.pointer it) false Aa) d λ(e:Bool×List Value) a=>br e.1 (ba oy NX (PD (.pointer it)) a λ(f:Value×Value) g=>HF aK f.1 λ(k:ByteArray)=>bZ NX l #[(.string k)] g λ(b:Bool) c=>br (!b) (R () c) (next () c)) (R () a)
theorem EX.of:∀{l cap H R},EX.vc l cap H R->EX.sp l cap H R:=aU [(1,[])] (by kernel_rfl)
def Kj.vc (x y:Int)(H:aa)(R:Kp Bool):Prop:=
 J6.sp x H λ(r:Bool) H1=>br r (J6.sp y H1 λ(a:Bool) b=>R ((!a)||(decide (x<y))) b) (R (decide (x<y)) H1)
theorem Kj.of:∀{x y H R},Kj.vc x y H R->Kj.sp x y H R:=aU [] (by kernel_rfl)
def HH.vc (x:Int)(H:aa)(R:Kp Bool):Prop:=
 R (x !=x) H
theorem HH.of:∀{x H R},HH.vc x H R->HH.sp x H R:=aU [] (by kernel_rfl)
def DP.vc (n:Int)(H:aa)(R:Kp ByteArray):Prop:=
 aI H #[(.int .u8 (OW.wrap (NY.wrap ((48:Int)+(Pf n (10:Int))))))] fw λp H1=>vJ H1 (some p) 1 λ(s:ByteArray)=>br (decide (n>9)) (DP.sp (NY.wrap (OP n (10:Int))) H1 λ(r:ByteArray) a=>((r.size+s.size:Nat):Int)<=9223372036854775807/\R (r++s) a) (R s H1)
theorem DP.of:∀{n H R},DP.vc n H R->DP.sp n H R:=aU [] (by kernel_rfl)
def Kh.vc (l x:Sl)(H:aa)(R:Kp Sl):Prop:=
 I8.sp l x H λ(r:Int) H1=>br (decide (r<(l.n:Int))) (ae l.a λa=>(0<=r/\r<(l.n:Int))/\ld ak H1 (a.add (r.toNat*1)) λ(h:Sl)=>zp.sp h x H1 λ(j:Int) C=>br (j==0) (R l C) (ba ak NX (N2 #[dZ,dZ] dZ #[(.slice none 0 0),x.v]) C λ(own:Sl) D=>aI D #[own.v] dZ λp E=>ba ak NX (N2 #[gd,gd] gd #[l.v,(.slice (some p) 1 1)]) E λ(b:Sl) F=>aw Int (NY.wrap ((b.n:Int) - 1)) F λnext i k=>br (decide (i>r)) (ae b.a λm=>(0<=(NY.wrap (i - 1))/\(NY.wrap (i - 1))<(b.n:Int))/\ld ak k (m.add ((NY.wrap (i - 1)).toNat*1)) λ(n:Sl)=>ae b.a λo=>(0<=i/\i<(b.n:Int))/\st k (o.add (i.toNat*1)) n.v λG=>next (NY.wrap (i - 1)) G) (ae b.a λq=>(0<=r/\r<(b.n:Int))/\st k (q.add (r.toNat*1)) own.v λI=>R b I))) (ba ak NX (N2 #[dZ,dZ] dZ #[(.slice none 0 0),x.v]) H1 λ(e:Sl) J=>aI J #[e.v] dZ λs t=>ba ak NX (N2 #[gd,gd] gd #[l.v,(.slice (some s) 1 1)]) t λ(c:Sl) u=>aw Int (NY.wrap ((c.n:Int) - 1)) u λf d g=>br (decide (d>r)) (ae c.a λv=>(0<=(NY.wrap (d - 1))/\(NY.wrap (d - 1))<(c.n:Int))/\ld ak g (v.add ((NY.wrap (d - 1)).toNat*1)) λ(w:Sl)=>ae c.a λy=>(0<=d/\d<(c.n:Int))/\st g (y.add (d.toNat*1)) w.v λz=>f (NY.wrap (d - 1)) z) (ae c.a λA=>(0<=r/\r<(c.n:Int))/\st g (A.add (r.toNat*1)) e.v λB=>R c B))
theorem Kh.of:∀{l x H R},Kh.vc l x H R->Kh.sp l x H R:=aU [(8,[(7,(ab .i64))])] (by kernel_rfl)
def Hg.vc (s:Option Addr)(names:Sl)(H:aa)(R:Kp Int):Prop:=
 aw Int 0 H λnext i H1=>br (decide (i<(names.n:Int))) (ae s λa=>ld av H1 (a.add 0) λ(x:Option Addr)=>ae names.a λb=>(0<=i/\i<(names.n:Int))/\ld aK H1 (b.add (i.toNat*1)) λ(c:ByteArray)=>Hn.sp x c H1 λ(e:Int) d=>br (e !=0) (R e d) (next (NY.wrap (i+1)) d)) (R (0:Int) H1)
theorem Hg.of:∀{s names H R},Hg.vc s names H R->Hg.sp s names H R:=aU [(2,[(5,(ab .i64))])] (by kernel_rfl)
def J2.vc (p:Option Addr)(h:Int)(H:aa)(R:Kp (Int×Sl×Int)):Prop:=
 GI.sp p h H λ(i:Int) H1=>ae p λa=>ld (ab .i64) H1 (a.add 6) λ(x:Int)=>br (x !=0) (ae p λd=>ld (ab .i64) H1 (d.add 6) λ(e:Int)=>R ((0:Int),(Sl.mk none 0 0),e) H1) (br (decide (i<0)) (R ((0:Int),(Sl.mk none 0 0),(32:Int)) H1) (∃G:aa->Prop,G H1/\ae p λf=>dv ak G (f.add 2) λ(b:Sl)=>ae b.a λg=>(0<=i/\i<(b.n:Int))/\dv (ab .u8) G ((g.add (i.toNat*7)).add 2) λ(j:Int)=>ae p λk=>ld ak H1 (k.add 2) λ(c:Sl)=>ae c.a λl=>(0<=i/\i<(c.n:Int))/\ld aK H1 ((l.add (i.toNat*7)).add 3) λ(m:ByteArray)=>ba ak NX (convert dH dP (.string m)) H1 λ(n:Sl) o=>G o/\R (j,n,(0:Int)) o))
theorem J2.of:∀{p h H R},J2.vc p h H R->J2.sp p h H R:=aU [] (by kernel_rfl)
def Jw.vc (s:ByteArray)(H:aa)(R:Kp Bool):Prop:=
 R ((decide ((s.size:Int)>=1))&&(decide ((s.size:Int)<=100))) H
theorem Jw.of:∀{s H R},Jw.vc s H R->Jw.sp s H R:=aU [] (by kernel_rfl)
def Fa.vc (d:Option Addr)(H:aa)(R:Kp Int):Prop:=
 ae d λa=>ld ay H (a.add 5) λ(x:Bool)=>br x (ae d λj=>ld (ab .i64) H (j.add 6) λ(k:Int)=>br (k==0) (ae d λl=>st H (l.add 8) (.bool true) λH1=>R (4:Int) H1) (ae d λm=>ld ay H (m.add 5) λ(n:Bool)=>br n (ae d λo=>ld (ab .i64) H (o.add 6) λ(p:Int)=>ae d λq=>st H (q.add 6) (.int .i64 (NY.wrap (p - 1))) λC=>ae d λr=>ld (ab .i64) C (r.add 3) λ(s:Int)=>ae d λt=>st C (t.add 3) (.int .i64 (NY.wrap (s+1))) λE=>R (0:Int) E) (ae d λu=>ld (ab .i64) H (u.add 3) λ(v:Int)=>ae d λw=>st H (w.add 3) (.int .i64 (NY.wrap (v+1))) λF=>R (0:Int) F))) (ae d λb=>ld ay H (b.add 5) λ(y:Bool)=>br y (ae d λc=>ld (ab .i64) H (c.add 6) λ(z:Int)=>ae d λe=>st H (e.add 6) (.int .i64 (NY.wrap (z - 1))) λD=>ae d λf=>ld (ab .i64) D (f.add 3) λ(A:Int)=>ae d λg=>st D (g.add 3) (.int .i64 (NY.wrap (A+1))) λG=>R (0:Int) G) (ae d λh=>ld (ab .i64) H (h.add 3) λ(B:Int)=>ae d λi=>st H (i.add 3) (.int .i64 (NY.wrap (B+1))) λI=>R (0:Int) I))
theorem Fa.of:∀{d H R},Fa.vc d H R->Fa.sp d H R:=aU [] (by kernel_rfl)
def I4.vc (p:Option Addr)(name:ByteArray)(H:aa)(R:Kp (Int×Int×Int)):Prop:=
 ae p λa=>ld (ab .i64) H (a.add 6) λ(x:Int)=>br (x !=0) (ae p λf=>ld (ab .i64) H (f.add 6) λ(g:Int)=>R ((0:Int),(0:Int),g) H) (ae p λh=>ld av H (h.add 0) λ(i:Option Addr)=>BW.sp i name H λ(r:(Int×Int)) H1=>br (r.2==0) (GV.sp p H1 λ(e:Int) A=>br (e !=0) (nt.sp p e A λ(j:Int) E=>R ((0:Int),(0:Int),j) E) (D9.sp (0:Int) (Sl.mk none 0 0) A λ(k:(Sl×Int)) B=>ae p λl=>ld av B (l.add 0) λ(m:Option Addr)=>GS.sp m name r.1 k.1 B λ(b:Int) C=>br (b !=0) (nt.sp p b C λ(n:Int) F=>R ((0:Int),(0:Int),n) F) (BQ.sp p name r.1 (0:Int) Qk false (Sl.mk none 0 0) (0:Int) C λ(o:Int) G=>R (o,r.1,(0:Int)) G))) (br (r.2!=0) (nt.sp p r.2 H1 λ(q:Int) I=>R ((0:Int),(0:Int),q) I) (D9.sp (0:Int) (Sl.mk none 0 0) H1 λ(s:(Sl×Int)) D=>ae p λt=>ld av D (t.add 0) λ(u:Option Addr)=>GS.sp u name r.1 s.1 D λ(c:Int) d=>br (c !=0) (nt.sp p c d λ(v:Int) w=>R ((0:Int),(0:Int),v) w) (BQ.sp p name r.1 (0:Int) Qk false (Sl.mk none 0 0) (0:Int) d λ(y:Int) z=>R (y,r.1,(0:Int)) z))))
theorem I4.of:∀{p name H R},I4.vc p name H R->I4.sp p name H R:=aU [] (by kernel_rfl)
def Ic.vc (p:Option Addr)(name:ByteArray)(page:Int)(H:aa)(R:Kp Int):Prop:=
 aw Int 0 H λnext i H1=>ae p λa=>ld ak H1 (a.add 2) λ(x:Sl)=>br (decide (i<(x.n:Int))) (ae p λd=>ld ak H1 (d.add 2) λ(b:Sl)=>ae b.a λe=>(0<=i/\i<(b.n:Int))/\ld aK H1 ((e.add (i.toNat*7)).add 0) λ(f:ByteArray)=>br (f.toList==name.toList) (ae p λg=>ld ak H1 (g.add 2) λ(c:Sl)=>ae c.a λh=>(0<=i/\i<(c.n:Int))/\ld (ab .i64) H1 ((h.add (i.toNat*7)).add 1) λ(j:Int)=>br (j==page) (R i H1) (next (NY.wrap (i+1)) H1)) (next (NY.wrap (i+1)) H1)) (R (-1:Int) H1)
theorem Ic.of:∀{p name page H R},Ic.vc p name page H R->Ic.sp p name page H R:=aU [(2,[(7,(ab .i64))])] (by kernel_rfl)
def GJ.vc (p:Option Addr)(i:Int)(H:aa)(R:Kp Int):Prop:=
 ∃G:aa->Prop,G H/\ae p λa=>dv ak G (a.add 2) λ(x:Sl)=>ae p λc=>dv ak G (c.add 2) λ(b:Sl)=>ae b.a λd=>(0<=i/\i<(b.n:Int))/\dv ak G ((d.add (i.toNat*7)).add 5) λ(e:Sl)=>ae p λf=>ld (ab .i64) H (f.add 3) λ(g:Int)=>aI H #[(.int .i64 g)] hZ λh H1=>G H1/\ba ak NX (N2 #[Dd,Dd] Dd #[e.v,(.slice (some h) 1 1)]) H1 λ(s:Sl) q=>G q/\ae x.a λj=>(0<=i/\i<(x.n:Int))/\st q ((j.add (i.toNat*7)).add 5) s.v λr=>ae p λk=>ld (ab .i64) r (k.add 3) λ(l:Int)=>ae p λm=>st r (m.add 3) (.int .i64 (NY.wrap (l+1))) λt=>ae p λn=>ld (ab .i64) t (n.add 3) λ(o:Int)=>R (NY.wrap (o - 1)) t
theorem GJ.of:∀{p i H R},GJ.vc p i H R->GJ.sp p i H R:=aU [] (by kernel_rfl)
def GV.vc (p:Option Addr)(H:aa)(R:Kp Int):Prop:=
 ae p λa=>ld ak H (a.add 2) λ(x:Sl)=>ae p λi=>ld (ab .i64) H (i.add 1) λ(j:Int)=>br (decide ((x.n:Int)<j)) (R (0:Int) H) (aw (Int×Int) ((-1:Int),(0:Int)) H λnext z H1=>ae p λk=>ld ak H1 (k.add 2) λ(l:Sl)=>br (decide (z.2<(l.n:Int))) (ae p λm=>ld ak H1 (m.add 2) λ(b:Sl)=>ae b.a λn=>(0<=z.2/\z.2<(b.n:Int))/\ld ak H1 ((n.add (z.2.toNat*7)).add 5) λ(o:Sl)=>br (((o.n:Int)==0)==true) (br (decide (z.1<0)) (next (z.2,NY.wrap (z.2+1)) H1) (ae p λq=>ld ak H1 (q.add 2) λ(c:Sl)=>ae c.a λr=>(0<=z.2/\z.2<(c.n:Int))/\ld (ab .i64) H1 ((r.add (z.2.toNat*7)).add 6) λ(s:Int)=>ae p λt=>ld ak H1 (t.add 2) λ(d:Sl)=>ae d.a λu=>(0<=z.1/\z.1<(d.n:Int))/\ld (ab .i64) H1 ((u.add (z.1.toNat*7)).add 6) λ(v:Int)=>br (decide (s<v)) (next (z.2,NY.wrap (z.2+1)) H1) (next (z.1,NY.wrap (z.2+1)) H1))) (next (z.1,NY.wrap (z.2+1)) H1)) (br (decide (z.1<0)) (R (31:Int) H1) (ae p λw=>ld ak H1 (w.add 2) λ(f:Sl)=>ae f.a λg=>(0<=z.1/\z.1<(f.n:Int))/\ld ay H1 ((g.add (z.1.toNat*7)).add 4) λ(h:Bool)=>br h (Ii.sp p z.1 H1 λ(e:Int) y=>br (e !=0) (R e y) (HY.sp p z.1 y λ(_:Unit) A=>R (0:Int) A)) (HY.sp p z.1 H1 λ(_:Unit) B=>R (0:Int) B))))
theorem GV.of:∀{p H R},GV.vc p H R->GV.sp p H R:=aU [(5,[(3,(ab .i64)),(4,(ab .i64))])] (by kernel_rfl)
def nt.vc (p:Option Addr)(e:Int)(H:aa)(R:Kp Int):Prop:=
 br (((e==4)||(e==5))||(e==20)) (ae p λa=>st H (a.add 6) (.int .i64 e) λH1=>R e H1) (R e H)
theorem nt.of:∀{p e H R},nt.vc p e H R->nt.sp p e H R:=aU [] (by kernel_rfl)
def Ej.vc (b:Sl)(H:aa)(R:Kp (Int×Sl×Int)):Prop:=
 br ((b.n:Int)!=512) (R ((0:Int),(Sl.mk none 0 0),(2:Int)) H) (ae b.a λa=>(0<=(4:Int)/\(4:Int)<(b.n:Int))/\ld (ab .u8) H (a.add ((4:Int).toNat*1)) λ(x:Int)=>ae b.a λe=>(0<=(5:Int)/\(5:Int)<(b.n:Int))/\ld (ab .u8) H (e.add ((5:Int).toNat*1)) λ(c:Int)=>br (decide ((NY.wrap ((NY.wrap x)+(NY.wrap ((256:Int)*(NY.wrap c)))))>504)) (R ((0:Int),(Sl.mk none 0 0),(20:Int)) H) ((0<=(NY.wrap ((8:Int)+(NY.wrap ((NY.wrap x)+(NY.wrap ((256:Int)*(NY.wrap c)))))))/\(NY.wrap ((8:Int)+(NY.wrap ((NY.wrap x)+(NY.wrap ((256:Int)*(NY.wrap c)))))))<=(b.c:Int))/\(0<=(8:Int)/\(8:Int)<=(NY.wrap ((8:Int)+(NY.wrap ((NY.wrap x)+(NY.wrap ((256:Int)*(NY.wrap c))))))))/\ba ak NX (N2 #[dP,dP] dP #[(.slice none 0 0),(.slice (cw b.a b.c ((8:Int).toNat) 1) (((NY.wrap ((8:Int)+(NY.wrap ((NY.wrap x)+(NY.wrap ((256:Int)*(NY.wrap c))))))).toNat) - ((8:Int).toNat)) (b.c - ((8:Int).toNat)))]) H λ(s:Sl) H1=>ae b.a λf=>(0<=(6:Int)/\(6:Int)<(b.n:Int))/\ld (ab .u8) H1 (f.add ((6:Int).toNat*1)) λ(g:Int)=>D9.sp g s H1 λ(r:(Sl×Int)) d=>vJ d r.1.a r.1.n λ(str:ByteArray)=>vJ d b.a b.n λ(str_1:ByteArray)=>br (!(str.toList==str_1.toList)) (R ((0:Int),(Sl.mk none 0 0),(20:Int)) d) (ae b.a λh=>(0<=(6:Int)/\(6:Int)<(b.n:Int))/\ld (ab .u8) d (h.add ((6:Int).toNat*1)) λ(i:Int)=>R (i,s,(0:Int)) d)))
theorem Ej.of:∀{b H R},Ej.vc b H R->Ej.sp b H R:=aU [] (by kernel_rfl)
def BQ.vc (p:Option Addr)(A:ByteArray)(e f:Int)(g:ByteArray)(h:Bool)(i:Sl)(j:Int)(H:aa)(R:Kp Int):Prop:=
 aI H #[(.string A),(.int .i64 e),(.int .u8 f),(.string g),(.bool h),i.v,(.int .i64 j)] tL λk H1=>∃G:aa->Prop,G H1/\ae p λa=>dv ak G (a.add 2) λ(x:Sl)=>c6 (bQ [aK,(ab .i64),(ab .u8),aK,ay,ak,(ab .i64)]) 7 H1 k λ(b:(ByteArray×Int×Int×ByteArray×Bool×Sl×Int))=>aI H1 #[(.string b.1),(.int .i64 b.2.1),(.int .u8 b.2.2.1),(.string b.2.2.2.1),(.bool b.2.2.2.2.1),b.2.2.2.2.2.1.v,(.int .i64 b.2.2.2.2.2.2)] tL λl y=>G y/\ba ak NX (N2 #[Cy,Cy] Cy #[x.v,(.slice (some l) 1 1)]) y λ(s:Sl) B=>ae p λm=>st B (m.add 2) s.v λn=>ae p λo=>ld (ab .i64) n (o.add 5) λ(c:Int)=>ae p λq=>ld ak n (q.add 2) λ(d:Sl)=>ae p λt=>st n (t.add 5) (.int .i64 (if (d.n:Int)>c then (d.n:Int) else c)) λz=>ae p λu=>ld ak z (u.add 2) λ(w:Sl)=>GJ.sp p (NY.wrap ((w.n:Int) - 1)) z λ(r:Int) C=>R r C
theorem BQ.of:∀{p g a b c d e f H R},BQ.vc p g a b c d e f H R->BQ.sp p g a b c d e f H R:=aU [] (by kernel_rfl)
def GI.vc (p:Option Addr)(h:Int)(H:aa)(R:Kp Int):Prop:=
 aw Int 0 H λnext i H1=>ae p λa=>ld ak H1 (a.add 2) λ(x:Sl)=>br (decide (i<(x.n:Int))) (aw Int 0 H1 λb k c=>ae p λg=>ld ak c (g.add 2) λ(d:Sl)=>ae d.a λj=>(0<=i/\i<(d.n:Int))/\ld ak c ((j.add (i.toNat*7)).add 5) λ(l:Sl)=>br (decide (k<(l.n:Int))) (ae p λm=>ld ak c (m.add 2) λ(e:Sl)=>ae e.a λn=>(0<=i/\i<(e.n:Int))/\ld ak c ((n.add (i.toNat*7)).add 5) λ(f:Sl)=>ae f.a λo=>(0<=k/\k<(f.n:Int))/\ld (ab .i64) c (o.add (k.toNat*1)) λ(q:Int)=>br (q==h) (R i c) (b (NY.wrap (k+1)) c)) (next (NY.wrap (i+1)) c)) (R (-1:Int) H1)
theorem GI.of:∀{p h H R},GI.vc p h H R->GI.sp p h H R:=aU [(2,[(5,(ab .i64))]),(5,[(6,(ab .i64))])] (by kernel_rfl)
def Ii.vc (p:Option Addr)(i:Int)(H:aa)(R:Kp Int):Prop:=
 ∃G:aa->Prop,G H/\ae p λa=>dv ak G (a.add 2) λ(x:Sl)=>ae x.a λj=>(0<=i/\i<(x.n:Int))/\dv (ab .u8) G ((j.add (i.toNat*7)).add 2) λ(k:Int)=>ae p λl=>ld ak H (l.add 2) λ(d:Sl)=>ae d.a λm=>(0<=i/\i<(d.n:Int))/\ld aK H ((m.add (i.toNat*7)).add 3) λ(n:ByteArray)=>ba ak NX (convert dH dP (.string n)) H λ(o:Sl) H1=>G H1/\D9.sp k o H1 λ(r:(Sl×Int)) c=>ae p λq=>ld av c (q.add 0) λ(s:Option Addr)=>ae p λt=>ld ak c (t.add 2) λ(f:Sl)=>ae f.a λu=>(0<=i/\i<(f.n:Int))/\ld aK c ((u.add (i.toNat*7)).add 0) λ(v:ByteArray)=>ae p λw=>ld ak c (w.add 2) λ(g:Sl)=>ae g.a λy=>(0<=i/\i<(g.n:Int))/\ld (ab .i64) c ((y.add (i.toNat*7)).add 1) λ(z:Int)=>GS.sp s v z r.1 c λ(e:Int) A=>br (e==0) (ae p λB=>ld ak A (B.add 2) λ(b:Sl)=>ae b.a λh=>(0<=i/\i<(b.n:Int))/\st A ((h.add (i.toNat*7)).add 4) (.bool false) λC=>R e C) (R e A)
theorem Ii.of:∀{p i H R},Ii.vc p i H R->Ii.sp p i H R:=aU [] (by kernel_rfl)
def JB.vc (d:Option Addr)(name:ByteArray)(H:aa)(R:Kp Int):Prop:=
 Bp.sp d name H λ(i:Int) H1=>ae d λa=>ld ay H1 (a.add 8) λ(x:Bool)=>br x (R (4:Int) H1) (br (decide (i<0)) (R (11:Int) H1) (Fa.sp d H1 λ(e:Int) c=>br (e==0) (∃G:aa->Prop,G c/\ae d λj=>dv ak G (j.add 0) λ(f:Sl)=>ae d λk=>ld ak c (k.add 0) λ(g:Sl)=>ae g.a λl=>(0<=i/\i<(g.n:Int))/\c6 (bQ [aK,ak,ak]) 3 c (l.add (i.toNat*3)) λ(b:(ByteArray×Sl×Sl))=>Dw.sp b.1 b.2.1 b.2.2 c λ(r:Sl) p=>G p/\ae f.a λm=>(0<=i/\i<(f.n:Int))/\st p ((m.add (i.toNat*3)).add 1) r.v λq=>ae d λn=>ld ak q (n.add 0) λ(h:Sl)=>ae h.a λo=>(0<=i/\i<(h.n:Int))/\st q ((o.add (i.toNat*3)).add 2) (.slice none 0 0) λs=>R e s) (R e c)))
theorem JB.of:∀{d name H R},JB.vc d name H R->JB.sp d name H R:=aU [] (by kernel_rfl)
def Ku.vc (i:Int)(H:aa)(R:Kp ByteArray):Prop:=
 K0.sp i (10:Int) H λ(r:ByteArray) H1=>R r H1
theorem Ku.of:∀{i H R},Ku.vc i H R->Ku.sp i H R:=aU [] (by kernel_rfl)
def J5.vc (s:Sl)(H:aa)(R:Kp Bool):Prop:=
 I0.sp s H λ(r:Int) H1=>R (decide (r>=0)) H1
theorem J5.of:∀{s H R},J5.vc s H R->J5.sp s H R:=aU [] (by kernel_rfl)
def Fb.vc (f:Option Addr)(H:aa)(R:Kp Bool):Prop:=
 ae f λa=>ld (ab .i64) H (a.add 5) λ(x:Int)=>R (decide (x>0)) H
theorem Fb.of:∀{f H R},Fb.vc f H R->Fb.sp f H R:=aU [] (by kernel_rfl)
def JD.vc (d:Option Addr)(name:ByteArray)(H:aa)(R:Kp Int):Prop:=
 Dq.sp d name H λ(r:(Option Addr×Int)) H1=>br (r.2!=0) (R r.2 H1) (DC.sp d H1 λ(e:Int) a=>br (e==0) (Km.sp d name a λ(_:Unit) b=>R e b) (R e a))
theorem JD.of:∀{d name H R},JD.vc d name H R->JD.sp d name H R:=aU [] (by kernel_rfl)
def Hd.vc (p:Option Addr)(H:aa)(R:Kp Int):Prop:=
 ae p λa=>ld bT H (a.add 2) λ(x:Option Nat)=>AH H x λ(n:Nat)=>ae p λg=>ld (ab .i64) H (g.add 1) λ(h:Int)=>br (decide ((n:Int)<h)) (R (0:Int) H) (Ki.sp p H λ(f:Option Addr) H1=>br f.isNone (R (31:Int) H1) (ae f λi=>ld ay H1 (i.add 4) λ(j:Bool)=>br j (Dt.sp p f H1 λ(e:Int) d=>br (e !=0) (R e d) (ae p λk=>ld bT d (k.add 2) λ(l:Option Nat)=>ae f λm=>c6 (bQ [aK,(ab .i64)]) 2 d (m.add 0) λ(b:(ByteArray×Int))=>ba gh NX (Px #[xK,wK] Aa #[(.map l),(.agg #[(.string b.1),(.int .i64 b.2)])]) d λ(_:Value) s=>R (0:Int) s)) (ae p λo=>ld bT H1 (o.add 2) λ(q:Option Nat)=>ae f λr=>c6 (bQ [aK,(ab .i64)]) 2 H1 (r.add 0) λ(c:(ByteArray×Int))=>ba gh NX (Px #[xK,wK] Aa #[(.map q),(.agg #[(.string c.1),(.int .i64 c.2)])]) H1 λ(_:Value) t=>R (0:Int) t)))
theorem Hd.of:∀{p H R},Hd.vc p H R->Hd.sp p H R:=aU [] (by kernel_rfl)
def JQ.vc (b:Sl)(H:aa)(R:Kp (Int×Sl×Int)):Prop:=
 br ((b.n:Int)!=512) (R ((0:Int),(Sl.mk none 0 0),(2:Int)) H) ((0<=(4:Int)/\(4:Int)<=(b.n:Int))/\Hw.sp (Sl.mk (cw b.a b.c ((4:Int).toNat) 1) (b.n - ((4:Int).toNat)) (b.c - ((4:Int).toNat))) H λ(n:Int) H1=>aw Int 0 H1 λnext z e=>br (decide (z<4)) (ae b.a λa=>(0<=z/\z<(b.n:Int))/\ld (ab .u8) e (a.add (z.toNat*1)) λ(x:Int)=>0<=(NY.wrap ((8:Int)*z))/\br (x !=(OW.wrap (dF .u32 n (NY.wrap ((8:Int)*z))))) (R ((0:Int),(Sl.mk none 0 0),(20:Int)) e) (next (NY.wrap (z+1)) e)) (ae b.a λf=>(0<=(4:Int)/\(4:Int)<(b.n:Int))/\ld (ab .u8) e (f.add ((4:Int).toNat*1)) λ(c:Int)=>ae b.a λg=>(0<=(5:Int)/\(5:Int)<(b.n:Int))/\ld (ab .u8) e (g.add ((5:Int).toNat*1)) λ(d:Int)=>br (decide ((yK .i64 (NY.wrap c) (kT .i64 (NY.wrap d) (8:Int)))>504)) (R ((0:Int),(Sl.mk none 0 0),(20:Int)) e) (ae b.a λh=>(0<=(7:Int)/\(7:Int)<(b.n:Int))/\ld (ab .u8) e (h.add ((7:Int).toNat*1)) λ(i:Int)=>br (i !=157) (R ((0:Int),(Sl.mk none 0 0),(20:Int)) e) ((0<=(NY.wrap ((8:Int)+(yK .i64 (NY.wrap c) (kT .i64 (NY.wrap d) (8:Int)))))/\(NY.wrap ((8:Int)+(yK .i64 (NY.wrap c) (kT .i64 (NY.wrap d) (8:Int)))))<=(b.n:Int))/\Jt.sp (Sl.mk (cw b.a b.c ((NY.wrap ((8:Int)+(yK .i64 (NY.wrap c) (kT .i64 (NY.wrap d) (8:Int))))).toNat) 1) (b.n - ((NY.wrap ((8:Int)+(yK .i64 (NY.wrap c) (kT .i64 (NY.wrap d) (8:Int))))).toNat)) (b.c - ((NY.wrap ((8:Int)+(yK .i64 (NY.wrap c) (kT .i64 (NY.wrap d) (8:Int))))).toNat))) e λ(r:Bool) j=>br r (R ((0:Int),(Sl.mk none 0 0),(20:Int)) j) (∃G:aa->Prop,G j/\ae b.a λk=>(0<=(6:Int)/\(6:Int)<(b.n:Int))/\dv (ab .u8) G (k.add ((6:Int).toNat*1)) λ(l:Int)=>(0<=(NY.wrap ((8:Int)+(yK .i64 (NY.wrap c) (kT .i64 (NY.wrap d) (8:Int)))))/\(NY.wrap ((8:Int)+(yK .i64 (NY.wrap c) (kT .i64 (NY.wrap d) (8:Int)))))<=(b.c:Int))/\(0<=(8:Int)/\(8:Int)<=(NY.wrap ((8:Int)+(yK .i64 (NY.wrap c) (kT .i64 (NY.wrap d) (8:Int))))))/\Dz.sp (Sl.mk (cw b.a b.c ((8:Int).toNat) 1) (((NY.wrap ((8:Int)+(yK .i64 (NY.wrap c) (kT .i64 (NY.wrap d) (8:Int))))).toNat) - ((8:Int).toNat)) (b.c - ((8:Int).toNat))) j λ(m:Sl) o=>G o/\R (l,m,(0:Int)) o)))))
theorem JQ.of:∀{b H R},JQ.vc b H R->JQ.sp b H R:=aU [(5,[(14,(ab .i64))])] (by kernel_rfl)
def JC.vc (s:Sl)(cap:Addr)(H:aa)(R:Kp Sl):Prop:=
 Jx.sp s cap H λ(i:Int) H1=>br (i==(-1:Int)) (R s H1) (aw (Int×Int) (i,NY.wrap (i+1)) H1 λnext z b=>br (decide (z.2<(s.n:Int))) (ae s.a λa=>(0<=z.2/\z.2<(s.n:Int))/\ld av b (a.add (z.2.toNat*1)) λ(v:Option Addr)=>DB.sp v cap b λ(r:Bool) d=>br (!r) (ae s.a λc=>(0<=z.1/\z.1<(s.n:Int))/\st d (c.add (z.1.toNat*1)) (.pointer v) λe=>next (NY.wrap (z.1+1),NY.wrap (z.2+1)) e) (next (z.1,NY.wrap (z.2+1)) d)) ((0<=z.1/\z.1<=(s.n:Int))/\ba gh NX (Tg #[Cc] Aa #[(.slice (cw s.a s.c z.1.toNat 1) (s.n - z.1.toNat) (s.c - z.1.toNat))]) b λ(_:Value) f=>(0<=z.1/\z.1<=(s.c:Int))/\R (Sl.mk (cw s.a s.c 0 1) (z.1.toNat - 0) (s.c - 0)) f))
theorem JC.of:∀{s cap H R},JC.vc s cap H R->JC.sp s cap H R:=aU [(5,[(5,(ab .i64)),(6,(ab .i64))])] (by kernel_rfl)
def KW.vc (seq:Value)(H:aa)(R:Kp Sl):Prop:=
 J8.sp (Sl.mk none 0 0) seq H λ(r:Sl) H1=>R r H1
theorem KW.of:∀{seq H R},KW.vc seq H R->KW.sp seq H R:=aU [] (by kernel_rfl)
def Kq.vc (m:Option Nat)(H:aa)(R:Kp Value):Prop:=
 aI H #[(.map m)] xK λp H1=>R (.func (.func Fk.no) #[] #[(.pointer (some p))]) H1
theorem Kq.of:∀{m H R},Kq.vc m H R->Kq.sp m H R:=aU [] (by kernel_rfl)
def DB.vc (f:Option Addr)(cap:Addr)(H:aa)(R:Kp Bool):Prop:=
 ae f λa=>ld aK H ((a.add 0).add 0) λ(x:ByteArray)=>ld aK H cap λ(b:ByteArray)=>R (!(x.toList==b.toList)) H
theorem DB.of:∀{f cap H R},DB.vc f cap H R->DB.sp f cap H R:=aU [] (by kernel_rfl)
def Dy.vc (a b:Option Addr)(H:aa)(R:Kp Int):Prop:=
 ae a λc=>ld (ab .i64) H ((c.add 0).add 1) λ(x:Int)=>ae b λd=>ld (ab .i64) H ((d.add 0).add 1) λ(e:Int)=>R (NY.wrap (x - e)) H
theorem Dy.of:∀{a b H R},Dy.vc a b H R->Dy.sp a b H R:=aU [] (by kernel_rfl)
def J1.vc (kind:Int)(b:Sl)(H:aa)(R:Kp (Sl×Int)):Prop:=
 br (decide ((b.n:Int)>504)) (R ((Sl.mk none 0 0),(2:Int)) H) (aI H (zc NX La) La λp H1=>(0<=(4:Int)/\(4:Int)<((512:Nat):Int))/\st H1 (p.add ((4:Int).toNat*1)) (.int .u8 (OW.wrap (b.n:Int))) λd=>(0<=(5:Int)/\(5:Int)<((512:Nat):Int))/\st d (p.add ((5:Int).toNat*1)) (.int .u8 (OW.wrap (dF .i64 (b.n:Int) (8:Int)))) λe=>(0<=(6:Int)/\(6:Int)<((512:Nat):Int))/\st e (p.add ((6:Int).toNat*1)) (.int .u8 kind) λf=>(0<=(7:Int)/\(7:Int)<((512:Nat):Int))/\st f (p.add ((7:Int).toNat*1)) (.int .u8 157) λg=>(0<=(8:Int)/\(8:Int)<=512)/\ba (ab .i64) NX (UN #[dP,dP] hZ #[(.slice (cw (some p) 512 ((8:Int).toNat) 1) (512 - ((8:Int).toNat)) (512 - ((8:Int).toNat))),b.v]) g λ(_:Int) h=>(0<=(4:Int)/\(4:Int)<=512)/\Hw.sp (Sl.mk (cw (some p) 512 ((4:Int).toNat) 1) (512 - ((4:Int).toNat)) (512 - ((4:Int).toNat))) h λ(n:Int) i=>aw Int 0 i λnext z c=>br (decide (z<4)) (0<=(NY.wrap ((8:Int)*z))/\(0<=z/\z<((512:Nat):Int))/\st c (p.add (z.toNat*1)) (.int .u8 (OW.wrap (dF .u32 n (NY.wrap ((8:Int)*z))))) λj=>next (NY.wrap (z+1)) j) (Dz.sp (Sl.mk (cw (some p) 512 0 1) (512 - 0) (512 - 0)) c λ(r:Sl) a=>R (r,(0:Int)) a))
theorem J1.of:∀{kind b H R},J1.vc kind b H R->J1.sp kind b H R:=aU [(9,[(29,(ab .i64))])] (by kernel_rfl)
def JU.vc (d:Option Addr)(name:ByteArray)(page:Int)(b:Sl)(H:aa)(R:Kp Int):Prop:=
 Dn.sp d H λ(e:Int) H1=>br (e !=0) (R e H1) (br ((b.n:Int)!=512) (R (2:Int) H1) (Dq.sp d name H1 λ(r:(Option Addr×Int)) c=>cut Unit (λJ=>br (r.2!=0) (R r.2 c) (br (decide (page<0)) (br (decide (page<0)) (R (12:Int) c) (ae r.1 λa=>ld ak c (a.add 0) λ(x:Sl)=>br (page==(x.n:Int)) (ae d λL=>ld (ab .i64) c (L.add 1) λ(M:Int)=>ae d λN=>ld (ab .i64) c (N.add 3) λ(O:Int)=>br (M==O) (R (5:Int) c) (J () c)) (J () c))) (ae r.1 λP=>ld ak c (P.add 0) λ(Q:Sl)=>br (decide (page>(Q.n:Int))) (R (12:Int) c) (ae r.1 λS=>ld ak c (S.add 0) λ(T:Sl)=>br (page==(T.n:Int)) (ae d λU=>ld (ab .i64) c (U.add 1) λ(V:Int)=>ae d λW=>ld (ab .i64) c (W.add 3) λ(X:Int)=>br (V==X) (R (5:Int) c) (J () c)) (J () c))))) λ(_:Unit) H3=>DC.sp d H3 λ(h:Int) i=>br (h !=0) (R h i) (cut Unit (λj=>ae r.1 λY=>ld ak i (Y.add 0) λ(Z:Sl)=>br (page==(Z.n:Int)) (ae d λaf=>ld (ab .i64) i (af.add 1) λ(an:Int)=>ae d λa1=>st i (a1.add 1) (.int .i64 (NY.wrap (an+1))) λH6=>ae d λk=>ld (ab .i64) H6 (k.add 2) λ(l:Int)=>ae d λm=>ld (ab .i64) H6 (m.add 1) λ(f:Int)=>ae d λn=>st H6 (n.add 2) (.int .i64 (if f>l then f else l)) λH7=>j () H7) (j () i)) λ(_:Unit) H5=>∃G:aa->Prop,G H5/\ae r.1 λo=>dv ak G (o.add 2) λ(p:Sl)=>ae d λq=>ld (ab .i64) H5 (q.add 5) λ(t:Int)=>512<=b.n/\ae b.a λu=>K6 jO 512 G u λ(v:Array Value)=>rL jO NX (Instr.build qP #[(0,(.int .i64 t)),(1,(.int .i64 page)),(2,(.agg v))]) λ(y:Array Value)=>ba ak NX (Pj Lj 1 #[(0,(.agg y))]) H5 λ(sl:Sl) H8=>G H8/\ba ak NX (N2 #[Lj,Lj] Lj #[p.v,sl.v]) H8 λ(s:Sl) H9=>ae r.1 λw=>st H9 (w.add 2) s.v λg=>ae r.1 λz=>ld ak g (z.add 0) λ(A:Sl)=>512<=b.n/\ae b.a λB=>c6 jO 512 g B λ(C:Array Value)=>GC.sp A page C g λ(a6:Sl) a7=>ae r.1 λD=>st a7 (D.add 0) a6.v λE=>ae d λF=>ld (ab .i64) E (F.add 5) λ(I:Int)=>ae d λK=>st E (K.add 5) (.int .i64 (NY.wrap (I+1))) λa8=>R (0:Int) a8)))
theorem JU.of:∀{d name page b H R},JU.vc d name page b H R->JU.sp d name page b H R:=aU [(100014,[]),(100020,[])] (by kernel_rfl)
def Dx.vc (l:Nat)(cap d:Addr)(H:aa)(R:Kp Unit):Prop:=
 aw Int 0 H λnext i H1=>ld ak H1 cap λ(x:Sl)=>br (decide (i<(x.n:Int))) (ld (ab .i64) H1 d λ(c:Int)=>ld ak H1 cap λ(a:Sl)=>(0<=i/\i<=(a.n:Int))/\ld ak H1 cap λ(e:Sl)=>(0<=(NY.wrap (i+(if ((a.n - i.toNat:Nat):Int)<c then ((a.n - i.toNat:Nat):Int) else c)))/\(NY.wrap (i+(if ((a.n - i.toNat:Nat):Int)<c then ((a.n - i.toNat:Nat):Int) else c)))<=(e.c:Int))/\(0<=(NY.wrap (i+(if ((a.n - i.toNat:Nat):Int)<c then ((a.n - i.toNat:Nat):Int) else c)))/\(NY.wrap (i+(if ((a.n - i.toNat:Nat):Int)<c then ((a.n - i.toNat:Nat):Int) else c)))<=(NY.wrap (i+(if ((a.n - i.toNat:Nat):Int)<c then ((a.n - i.toNat:Nat):Int) else c))))/\(0<=i/\i<=(NY.wrap (i+(if ((a.n - i.toNat:Nat):Int)<c then ((a.n - i.toNat:Nat):Int) else c))))/\bZ NX l #[(.slice (cw e.a ((NY.wrap (i+(if ((a.n - i.toNat:Nat):Int)<c then ((a.n - i.toNat:Nat):Int) else c))).toNat) i.toNat 1) ((NY.wrap (i+(if ((a.n - i.toNat:Nat):Int)<c then ((a.n - i.toNat:Nat):Int) else c))).toNat - i.toNat) ((NY.wrap (i+(if ((a.n - i.toNat:Nat):Int)<c then ((a.n - i.toNat:Nat):Int) else c))).toNat - i.toNat))] H1 λ(b:Bool) f=>br (!b) (R () f) (ld (ab .i64) f d λ(g:Int)=>next (NY.wrap (i+g)) f)) (R () H1)
theorem Dx.of:∀{l cap a H R},Dx.vc l cap a H R->Dx.sp l cap a H R:=aU [(1,[(4,(ab .i64))])] (by kernel_rfl)
def Js.vc (s:Sl)(seq:Value)(H:aa)(R:Kp Sl):Prop:=
 aI H #[s.v] dS λp H1=>oM NX seq H1 (λl rec vs b h=>iL (de.dec [aK] vs) λ(z:ByteArray)=>b[l]?=some (.loop (rec .ready none))/\ld ak (b.setIfInBounds l (.loop (rec .busy none))) p λ(x:Sl)=>aI (b.setIfInBounds l (.loop (rec .busy none))) #[(.string z)] dH λc j=>ba ak NX (N2 #[dS,dS] dS #[x.v,(.slice (some c) 1 1)]) j λ(d:Sl) k=>st k p d.v λg=>g[l]?=some (.loop (rec .busy none))/\h true (g.setIfInBounds l (.loop (rec .ready none)))) (λr a=>ld ak a p λ(e:Sl)=>a[r]?=some (.deferred (some []))/\R e (a.setIfInBounds r (.deferred none))) (λi r a=>bif Ou i 0 then ld ak a p λ(f:Sl)=>a[r]?=some (.deferred (some []))/\R f (a.setIfInBounds r (.deferred none)) else False) (λr a=>a[r]?=some (.deferred (some []))/\R (Sl.mk none 0 0) (a.setIfInBounds r (.deferred none)))
theorem Js.of:∀{s seq H R},Js.vc s seq H R->Js.sp s seq H R:=aU [(200003,[(7,aK)])] (by kernel_rfl)
def J6.vc (x:Int)(H:aa)(R:Kp Bool):Prop:=
 R (x !=x) H
theorem J6.of:∀{x H R},J6.vc x H R->J6.sp x H R:=aU [] (by kernel_rfl)
def I8.vc (l x:Sl)(H:aa)(R:Kp Int):Prop:=
 aw (Int×Int) ((0:Int),(l.n:Int)) H λnext z H1=>br (decide (z.1<z.2)) (ae l.a λa=>(0<=(NY.wrap (OP (NY.wrap (z.1+z.2)) (2:Int)))/\(NY.wrap (OP (NY.wrap (z.1+z.2)) (2:Int)))<(l.n:Int))/\ld ak H1 (a.add ((NY.wrap (OP (NY.wrap (z.1+z.2)) (2:Int))).toNat*1)) λ(b:Sl)=>zp.sp b x H1 λ(r:Int) c=>br (decide (r<0)) (next (NY.wrap ((NY.wrap (OP (NY.wrap (z.1+z.2)) (2:Int)))+1),z.2) c) (next (z.1,NY.wrap (OP (NY.wrap (z.1+z.2)) (2:Int))) c)) (R z.1 H1)
theorem I8.of:∀{l x H R},I8.vc l x H R->I8.sp l x H R:=aU [(2,[(5,(ab .i64)),(6,(ab .i64))])] (by kernel_rfl)
def Hn.vc (p:Option Addr)(name:ByteArray)(H:aa)(R:Kp Int):Prop:=
 ae p λa=>ld (ab .i64) H (a.add 6) λ(x:Int)=>br (x !=0) (ae p λj=>ld (ab .i64) H (j.add 6) λ(k:Int)=>R k H) (ae p λm=>ld av H (m.add 0) λ(n:Option Addr)=>BW.sp n name H λ(r:(Int×Int)) H1=>br (r.2!=0) (nt.sp p r.2 H1 λ(o:Int) J=>R o J) (aw (Sl×Int) ((Sl.mk none 0 0),(0:Int)) H1 λnext z c=>ae p λq=>ld ak c (q.add 2) λ(s:Sl)=>br (decide (z.2<(s.n:Int))) (ae p λt=>ld ak c (t.add 2) λ(d:Sl)=>ae d.a λu=>(0<=z.2/\z.2<(d.n:Int))/\ld aK c ((u.add (z.2.toNat*7)).add 0) λ(w:ByteArray)=>br (!(w.toList==name.toList)) (ae p λy=>ld ak c (y.add 2) λ(e:Sl)=>ae e.a λA=>(0<=z.2/\z.2<(e.n:Int))/\c6 (bQ [aK,(ab .i64),(ab .u8),aK,ay,ak,(ab .i64)]) 7 c (A.add (z.2.toNat*7)) λ(b:(ByteArray×Int×Int×ByteArray×Bool×Sl×Int))=>aI c #[(.string b.1),(.int .i64 b.2.1),(.int .u8 b.2.2.1),(.string b.2.2.2.1),(.bool b.2.2.2.2.1),b.2.2.2.2.2.1.v,(.int .i64 b.2.2.2.2.2.2)] tL λB K=>ba ak NX (N2 #[Cy,Cy] Cy #[z.1.v,(.slice (some B) 1 1)]) K λ(l:Sl) L=>next (l,NY.wrap (z.2+1)) L) (ae p λC=>ld ak c (C.add 2) λ(f:Sl)=>ae f.a λD=>(0<=z.2/\z.2<(f.n:Int))/\ld ak c ((D.add (z.2.toNat*7)).add 5) λ(E:Sl)=>br (decide ((E.n:Int)>0)) (R (31:Int) c) (next (z.1,NY.wrap (z.2+1)) c))) (ae p λg=>st c (g.add 2) z.1.v λI=>ae p λh=>ld av I (h.add 0) λ(i:Option Addr)=>Kc.sp i name I λ(F:Int) M=>nt.sp p F M λ(G:Int) N=>R G N)))
theorem Hn.of:∀{p name H R},Hn.vc p name H R->Hn.sp p name H R:=aU [(8,[(7,ak),(8,(ab .i64))])] (by kernel_rfl)
def D9.vc (kind:Int)(b:Sl)(H:aa)(R:Kp (Sl×Int)):Prop:=
 br (decide ((b.n:Int)>504)) (R ((Sl.mk none 0 0),(2:Int)) H) (aI H #[(.int .u8 (OW.wrap (Pf (b.n:Int) (256:Int)))),(.int .u8 (OW.wrap (NY.wrap (OP (b.n:Int) (256:Int))))),(.int .u8 kind),(.int .u8 157)] fw λc H1=>ba ak NX (N2 #[dP,dP] dP #[(.slice (some c) 4 4),b.v]) H1 λ(rest:Sl) f=>ba ak NX (N2 #[dP,hZ] dP #[rest.v,(.int .i64 (NY.wrap ((508:Int) - (rest.n:Int))))]) f λ(a:Sl) g=>JV.sp a g λ(n:Int) h=>aw (Sl×Int) ((Sl.mk none 0 0),(0:Int)) h λnext z e=>br (decide (z.2<4)) (0<=(NY.wrap ((8:Int)*z.2))/\aI e #[(.int .u8 (OW.wrap (dF .u32 n (NY.wrap ((8:Int)*z.2)))))] fw λp i=>ba ak NX (N2 #[dP,dP] dP #[z.1.v,(.slice (some p) 1 1)]) i λ(out:Sl) j=>next (out,NY.wrap (z.2+1)) j) (ba ak NX (N2 #[dP,dP] dP #[z.1.v,a.v]) e λ(d:Sl) k=>R (d,(0:Int)) k))
theorem D9.of:∀{kind b H R},D9.vc kind b H R->D9.sp kind b H R:=aU [(9,[(8,ak),(9,(ab .i64))])] (by kernel_rfl)
def GS.vc (d:Option Addr)(name:ByteArray)(page:Int)(b:Sl)(H:aa)(R:Kp Int):Prop:=
 Bp.sp d name H λ(i:Int) H1=>ae d λa=>ld ay H1 (a.add 8) λ(x:Bool)=>br x (R (4:Int) H1) (br ((b.n:Int)!=512) (R (2:Int) H1) (br (decide (i<0)) (R (11:Int) H1) (ae d λw=>ld ak H1 (w.add 0) λ(h:Sl)=>ae h.a λy=>(0<=i/\i<(h.n:Int))/\c6 (bQ [aK,ak,ak]) 3 H1 (y.add (i.toNat*3)) λ(f:(ByteArray×Sl×Sl))=>Dw.sp f.1 f.2.1 f.2.2 H1 λ(r:Sl) u=>cut Unit (λJ=>br ((decide (page<0))||(decide (page>(r.n:Int)))) (R (12:Int) u) (∃G:aa->Prop,G u/\br (page==(r.n:Int)) (GZ.sp d u λ(z:Int) A=>G A/\ae d λB=>dv (ab .i64) G (B.add 2) λ(C:Int)=>br (decide (z>=C)) (R (5:Int) A) (J () A)) (J () u))) λ(_:Unit) V=>Fa.sp d V λ(e:Int) v=>br (e !=0) (R e v) (∃c:aa->Prop,c v/\ae d λD=>dv ak c (D.add 0) λ(j:Sl)=>ae d λE=>dv ak c (E.add 0) λ(k:Sl)=>ae k.a λF=>(0<=i/\i<(k.n:Int))/\dv ak c ((F.add (i.toNat*3)).add 2) λ(I:Sl)=>ae d λK=>ld (ab .i64) v (K.add 4) λ(L:Int)=>Ls c b.a b.n λ(str:ByteArray)=>aI v #[(.int .i64 L),(.int .i64 page),(.string str)] yL λp Q=>c Q/\ba ak NX (N2 #[LW,LW] LW #[I.v,(.slice (some p) 1 1)]) Q λ(s:Sl) S=>c S/\ae j.a λM=>(0<=i/\i<(j.n:Int))/\st S ((M.add (i.toNat*3)).add 2) s.v λT=>ae d λN=>ld (ab .i64) T (N.add 4) λ(O:Int)=>ae d λl=>st T (l.add 4) (.int .i64 (NY.wrap (O+1))) λU=>∃g:aa->Prop,g U/\ae d λm=>dv (ab .i64) g (m.add 1) λ(n:Int)=>GZ.sp d U λ(o:Int) q=>g q/\ae d λt=>st q (t.add 1) (.int .i64 (if o>n then o else n)) λP=>R (0:Int) P))))
theorem GS.of:∀{d name page b H R},GS.vc d name page b H R->GS.sp d name page b H R:=aU [(100013,[])] (by kernel_rfl)
def HY.vc (p:Option Addr)(i:Int)(H:aa)(R:Kp Unit):Prop:=
 ae p λa=>ld ak H (a.add 2) λ(x:Sl)=>(0<=i/\i<=(x.c:Int))/\ba ak NX (N2 #[Cy,Cy] Cy #[(.slice none 0 0),(.slice (cw x.a x.c 0 7) (i.toNat - 0) (x.c - 0))]) H λ(l:Sl) H1=>ae p λc=>ld ak H1 (c.add 2) λ(b:Sl)=>(0<=(NY.wrap (i+1))/\(NY.wrap (i+1))<=(b.n:Int))/\ba ak NX (N2 #[Cy,Cy] Cy #[l.v,(.slice (cw b.a b.c ((NY.wrap (i+1)).toNat) 7) (b.n - ((NY.wrap (i+1)).toNat)) (b.c - ((NY.wrap (i+1)).toNat)))]) H1 λ(d:Sl) f=>ae p λe=>st f (e.add 2) d.v λg=>R () g
theorem HY.of:∀{p i H R},HY.vc p i H R->HY.sp p i H R:=aU [] (by kernel_rfl)
def K0.vc (i base:Int)(H:aa)(R:Kp ByteArray):Prop:=
 br (base==10) (br ((decide ((0:Int)<=i))&&(decide (i<100))) (KI.sp i H λ(r:ByteArray) H1=>R r H1) (aI H (zc NX Mw) Mw λp h=>br (decide (i<0)) (Mu.sp (OA.wrap (0 - (OA.wrap i))) h λ(b:Int) l=>(0<=(NY.wrap ((1:Int)+b))/\(NY.wrap ((1:Int)+b))<=24)/\(0<=(1:Int)/\(1:Int)<=(NY.wrap ((1:Int)+b)))/\MG.sp (Sl.mk (cw (some p) 24 ((1:Int).toNat) 1) (((NY.wrap ((1:Int)+b)).toNat) - ((1:Int).toNat)) (24 - ((1:Int).toNat))) (OA.wrap (0 - (OA.wrap i))) l λ(_:Unit) e=>br (decide (i<0)) ((0<=(0:Int)/\(0:Int)<((24:Nat):Int))/\st e (p.add ((0:Int).toNat*1)) (.int .u8 45) λj=>(0<=(NY.wrap ((1:Int)+b))/\(NY.wrap ((1:Int)+b))<=24)/\vJ j (cw (some p) 24 0 1) (((NY.wrap ((1:Int)+b)).toNat) - 0) λ(str:ByteArray)=>R str j) ((0<=(NY.wrap ((1:Int)+b))/\(NY.wrap ((1:Int)+b))<=24)/\(0<=(1:Int)/\(1:Int)<=(NY.wrap ((1:Int)+b)))/\vJ e (cw (some p) 24 ((1:Int).toNat) 1) (((NY.wrap ((1:Int)+b)).toNat) - ((1:Int).toNat)) λ(str_1:ByteArray)=>R str_1 e)) (Mu.sp (OA.wrap i) h λ(a:Int) m=>(0<=(NY.wrap ((1:Int)+a))/\(NY.wrap ((1:Int)+a))<=24)/\(0<=(1:Int)/\(1:Int)<=(NY.wrap ((1:Int)+a)))/\MG.sp (Sl.mk (cw (some p) 24 ((1:Int).toNat) 1) (((NY.wrap ((1:Int)+a)).toNat) - ((1:Int).toNat)) (24 - ((1:Int).toNat))) (OA.wrap i) m λ(_:Unit) f=>br (decide (i<0)) ((0<=(0:Int)/\(0:Int)<((24:Nat):Int))/\st f (p.add ((0:Int).toNat*1)) (.int .u8 45) λk=>(0<=(NY.wrap ((1:Int)+a))/\(NY.wrap ((1:Int)+a))<=24)/\vJ k (cw (some p) 24 0 1) (((NY.wrap ((1:Int)+a)).toNat) - 0) λ(c:ByteArray)=>R c k) ((0<=(NY.wrap ((1:Int)+a))/\(NY.wrap ((1:Int)+a))<=24)/\(0<=(1:Int)/\(1:Int)<=(NY.wrap ((1:Int)+a)))/\vJ f (cw (some p) 24 ((1:Int).toNat) 1) (((NY.wrap ((1:Int)+a)).toNat) - ((1:Int).toNat)) λ(d:ByteArray)=>R d f)))) (ML.sp (Sl.mk none 0 0) (OA.wrap i) base (decide (i<0)) false H λ(g:(Sl×ByteArray)) n=>R g.2 n)
theorem K0.of:∀{i base H R},K0.vc i base H R->K0.sp i base H R:=aU [] (by kernel_rfl)
def I0.vc (s:Sl)(H:aa)(R:Kp Int):Prop:=
 aw Int 0 H λnext z H1=>br (decide (z<(s.n:Int))) (ae s.a λa=>(0<=z/\z<(s.n:Int))/\ld av H1 (a.add (z.toNat*1)) λ(x:Option Addr)=>Fb.sp x H1 λ(r:Bool) b=>br r (R z b) (next (NY.wrap (z+1)) b)) (R (-1:Int) H1)
theorem I0.of:∀{s H R},I0.vc s H R->I0.sp s H R:=aU [(2,[(8,(ab .i64))])] (by kernel_rfl)
def Jx.vc (s:Sl)(cap:Addr)(H:aa)(R:Kp Int):Prop:=
 aw Int 0 H λnext z H1=>br (decide (z<(s.n:Int))) (ae s.a λa=>(0<=z/\z<(s.n:Int))/\ld av H1 (a.add (z.toNat*1)) λ(x:Option Addr)=>DB.sp x cap H1 λ(r:Bool) b=>br r (R z b) (next (NY.wrap (z+1)) b)) (R (-1:Int) H1)
theorem Jx.of:∀{s cap H R},Jx.vc s cap H R->Jx.sp s cap H R:=aU [(2,[(8,(ab .i64))])] (by kernel_rfl)
def Km.vc (d:Option Addr)(name:ByteArray)(H:aa)(R:Kp Unit):Prop:=
 ae d λa=>ld bT H (a.add 0) λ(x:Option Nat)=>Dr (aR [av,ay]) NX (Pp yI (.map x) (.string name) true) H λ(b:(Option Addr×Bool))=>br b.2 (ae d λc=>ld (ab .i64) H (c.add 1) λ(e:Int)=>ae b.1 λf=>ld ak H (f.add 0) λ(g:Sl)=>ae d λh=>st H (h.add 1) (.int .i64 (NY.wrap (e - (g.n:Int)))) λH1=>ae d λi=>ld bT H1 (i.add 0) λ(j:Option Nat)=>ba gh NX (Px #[yI,dH] Aa #[(.map j),(.string name)]) H1 λ(_:Value) k=>R () k) (R () H)
theorem Km.of:∀{d name H R},Km.vc d name H R->Km.sp d name H R:=aU [] (by kernel_rfl)
def Ki.vc (p:Option Addr)(H:aa)(R:Kp (Option Addr)):Prop:=
 ae p λa=>ld bT H (a.add 2) λ(x:Option Nat)=>ba av NX (PY xK (.map x)) H λ(it:Option Addr) H1=>aw (Option Addr) none H1 λnext jQ g=>ba fV NX (PU (.pointer it) false Aa) g λ(h:Bool×List Value) d=>br h.1 (ba oy NX (PD (.pointer it)) d λ(i:Value×Value) j=>HF av i.2 λ(f:Option Addr)=>He.sp f j λ(r:Bool) b=>br r (br jQ.isNone (next f b) (Hk.sp f jQ b λ(c:Bool) e=>br c (next f e) (next jQ e))) (next jQ b)) (R jQ d)
theorem Ki.of:∀{p H R},Ki.vc p H R->Ki.sp p H R:=aU [(3,[(7,av)])] (by kernel_rfl)
def He.vc (f:Option Addr)(H:aa)(R:Kp Bool):Prop:=
 ae f λa=>ld (ab .i64) H (a.add 5) λ(x:Int)=>R (x==0) H
theorem He.of:∀{f H R},He.vc f H R->He.sp f H R:=aU [] (by kernel_rfl)
def Hk.vc (a b:Option Addr)(H:aa)(R:Kp Bool):Prop:=
 ae a λc=>ld (ab .i64) H (c.add 6) λ(x:Int)=>ae b λd=>ld (ab .i64) H (d.add 6) λ(e:Int)=>R (decide (x<e)) H
theorem Hk.of:∀{a b H R},Hk.vc a b H R->Hk.sp a b H R:=aU [] (by kernel_rfl)
def Hw.vc (b:Sl)(H:aa)(R:Kp Int):Prop:=
 aw (Int×Int) ((4294967295:Int),(0:Int)) H λnext z H1=>br (decide (z.2<(b.n:Int))) (ae b.a λa=>(0<=z.2/\z.2<(b.n:Int))/\ld (ab .u8) H1 (a.add (z.2.toNat*1)) λ(c:Int)=>(0<=(lH .u32 (iM .u32 z.1 (PE.wrap c)) (15:Int))/\(lH .u32 (iM .u32 z.1 (PE.wrap c)) (15:Int))<((16:Nat):Int))/\ld (ab .u32) H1 ((XT 0 0 none).add ((lH .u32 (iM .u32 z.1 (PE.wrap c)) (15:Int)).toNat*1)) λ(x:Int)=>(0<=(lH .u32 (iM .u32 (dF .u32 (iM .u32 z.1 (PE.wrap c)) (4:Int)) x) (15:Int))/\(lH .u32 (iM .u32 (dF .u32 (iM .u32 z.1 (PE.wrap c)) (4:Int)) x) (15:Int))<((16:Nat):Int))/\ld (ab .u32) H1 ((XT 0 0 none).add ((lH .u32 (iM .u32 (dF .u32 (iM .u32 z.1 (PE.wrap c)) (4:Int)) x) (15:Int)).toNat*1)) λ(d:Int)=>next (iM .u32 (dF .u32 (iM .u32 (dF .u32 (iM .u32 z.1 (PE.wrap c)) (4:Int)) x) (4:Int)) d,NY.wrap (z.2+1)) H1) (R (iM .u32 (4294967295:Int) z.1) H1)
theorem Hw.of:∀{b H R},Hw.vc b H R->Hw.sp b H R:=aU [(3,[(3,(ab .u32)),(8,(ab .i64))])] (by kernel_rfl)
def Jt.vc (s:Sl)(H:aa)(R:Kp Bool):Prop:=
 Kk.sp s H λ(r:Int) H1=>R (decide (r>=0)) H1
theorem Jt.of:∀{s H R},Jt.vc s H R->Jt.sp s H R:=aU [] (by kernel_rfl)
def GU.vc (c:Int)(H:aa)(R:Kp Bool):Prop:=
 R (c !=0) H
theorem GU.of:∀{c H R},GU.vc c H R->GU.sp c H R:=aU [] (by kernel_rfl)
def J8.vc (s:Sl)(seq:Value)(H:aa)(R:Kp Sl):Prop:=
 aI H #[s.v] Cc λp H1=>oM NX seq H1 (λl rec vs b h=>iL (de.dec [av] vs) λ(z:Option Addr)=>b[l]?=some (.loop (rec .ready none))/\ld ak (b.setIfInBounds l (.loop (rec .busy none))) p λ(x:Sl)=>aI (b.setIfInBounds l (.loop (rec .busy none))) #[(.pointer z)] tv λc j=>ba ak NX (N2 #[Cc,Cc] Cc #[x.v,(.slice (some c) 1 1)]) j λ(d:Sl) k=>st k p d.v λg=>g[l]?=some (.loop (rec .busy none))/\h true (g.setIfInBounds l (.loop (rec .ready none)))) (λr a=>ld ak a p λ(e:Sl)=>a[r]?=some (.deferred (some []))/\R e (a.setIfInBounds r (.deferred none))) (λi r a=>bif Ou i 0 then ld ak a p λ(f:Sl)=>a[r]?=some (.deferred (some []))/\R f (a.setIfInBounds r (.deferred none)) else False) (λr a=>a[r]?=some (.deferred (some []))/\R (Sl.mk none 0 0) (a.setIfInBounds r (.deferred none)))
theorem J8.of:∀{s seq H R},J8.vc s seq H R->J8.sp s seq H R:=aU [(200003,[(7,av)])] (by kernel_rfl)
def Fk.vc (l:Nat)(cap:Addr)(H:aa)(R:Kp Unit):Prop:=
 ld bT H cap λ(x:Option Nat)=>ba av NX (PY xK (.map x)) H λ(it:Option Addr) H1=>aw Unit () H1 λnext _ d=>ba fV NX (PU (.pointer it) false Aa) d λ(e:Bool×List Value) a=>br e.1 (ba oy NX (PD (.pointer it)) a λ(f:Value×Value) g=>HF av f.2 λ(v:Option Addr)=>bZ NX l #[(.pointer v)] g λ(b:Bool) c=>br (!b) (R () c) (next () c)) (R () a)
theorem Fk.of:∀{l cap H R},Fk.vc l cap H R->Fk.sp l cap H R:=aU [(1,[])] (by kernel_rfl)
def Kc.vc (d:Option Addr)(name:ByteArray)(H:aa)(R:Kp Int):Prop:=
 ae d λa=>ld ay H (a.add 8) λ(x:Bool)=>br x (R (4:Int) H) (Bp.sp d name H λ(r:Int) H1=>br (decide (r<0)) (R (11:Int) H1) (Fa.sp d H1 λ(e:Int) c=>br (e==0) (Bp.sp d name c λ(b:Int) f=>J7.sp d b f λ(_:Unit) g=>R e g) (R e c)))
theorem Kc.of:∀{d name H R},Kc.vc d name H R->Kc.sp d name H R:=aU [] (by kernel_rfl)
def JV.vc (b:Sl)(H:aa)(R:Kp Int):Prop:=
 aw (Int×Int) ((4294967295:Int),(0:Int)) H λnext z H1=>br (decide (z.2<(b.n:Int))) (ae b.a λa=>(0<=z.2/\z.2<(b.n:Int))/\ld (ab .u8) H1 (a.add (z.2.toNat*1)) λ(x:Int)=>aw (Int×Int) (iM .u32 z.1 (PE.wrap x),(0:Int)) H1 λd c e=>br (decide (c.2<8)) (br ((lH .u32 c.1 (1:Int))==1) (d (iM .u32 (dF .u32 c.1 (1:Int)) (3988292384:Int),NY.wrap (c.2+1)) e) (d (dF .u32 c.1 (1:Int),NY.wrap (c.2+1)) e)) (next (c.1,NY.wrap (z.2+1)) e)) (R (iM .u32 z.1 (4294967295:Int)) H1)
theorem JV.of:∀{b H R},JV.vc b H R->JV.sp b H R:=aU [(3,[(3,(ab .u32)),(4,(ab .i64))]),(7,[(3,(ab .u32)),(5,(ab .i64))])] (by kernel_rfl)
def GZ.vc (d:Option Addr)(H:aa)(R:Kp Int):Prop:=
 aw (Int×Int) ((0:Int),(0:Int)) H λnext z H1=>ae d λa=>ld ak H1 (a.add 0) λ(x:Sl)=>br (decide (z.2<(x.n:Int))) (ae d λe=>ld ak H1 (e.add 0) λ(c:Sl)=>ae c.a λf=>(0<=z.2/\z.2<(c.n:Int))/\c6 (bQ [aK,ak,ak]) 3 H1 (f.add (z.2.toNat*3)) λ(b:(ByteArray×Sl×Sl))=>Dw.sp b.1 b.2.1 b.2.2 H1 λ(r:Sl) g=>next (NY.wrap (z.1+(r.n:Int)),NY.wrap (z.2+1)) g) (R z.1 H1)
theorem GZ.of:∀{d H R},GZ.vc d H R->GZ.sp d H R:=aU [(3,[(3,(ab .i64)),(4,(ab .i64))])] (by kernel_rfl)
def KI.vc (i:Int)(H:aa)(R:Kp ByteArray):Prop:=
 br (decide (i<10)) ((0<=(NY.wrap (i+1))/\(NY.wrap (i+1))<=(((O6 #[48,49,50,51,52,53,54,55,56,57,97,98,99,100,101,102,103,104,105,106,107,108,109,110,111,112,113,114,115,116,117,118,119,120,121,122]).size:Nat):Int))/\(0<=i/\i<=(NY.wrap (i+1)))/\R ((O6 #[48,49,50,51,52,53,54,55,56,57,97,98,99,100,101,102,103,104,105,106,107,108,109,110,111,112,113,114,115,116,117,118,119,120,121,122]).extract i.toNat ((NY.wrap (i+1)).toNat)) H) ((0<=(NY.wrap ((NY.wrap (i*2))+2))/\(NY.wrap ((NY.wrap (i*2))+2))<=(JM.size:Int))/\(0<=(NY.wrap (i*2))/\(NY.wrap (i*2))<=(NY.wrap ((NY.wrap (i*2))+2)))/\R (JM.extract ((NY.wrap (i*2)).toNat) ((NY.wrap ((NY.wrap (i*2))+2)).toNat)) H)
theorem KI.of:∀{i H R},KI.vc i H R->KI.sp i H R:=aU [] (by kernel_rfl)
def Kk.vc (s:Sl)(H:aa)(R:Kp Int):Prop:=
 aw Int 0 H λnext z H1=>br (decide (z<(s.n:Int))) (ae s.a λa=>(0<=z/\z<(s.n:Int))/\ld (ab .u8) H1 (a.add (z.toNat*1)) λ(x:Int)=>GU.sp x H1 λ(r:Bool) b=>br r (R z b) (next (NY.wrap (z+1)) b)) (R (-1:Int) H1)
theorem Kk.of:∀{s H R},Kk.vc s H R->Kk.sp s H R:=aU [(2,[(8,(ab .i64))])] (by kernel_rfl)
def J7.vc (d:Option Addr)(i:Int)(H:aa)(R:Kp Unit):Prop:=
 ae d λa=>ld ak H (a.add 0) λ(x:Sl)=>(0<=i/\i<=(x.c:Int))/\ba ak NX (N2 #[CX,CX] CX #[(.slice none 0 0),(.slice (cw x.a x.c 0 3) (i.toNat - 0) (x.c - 0))]) H λ(l:Sl) H1=>ae d λc=>ld ak H1 (c.add 0) λ(b:Sl)=>(0<=(NY.wrap (i+1))/\(NY.wrap (i+1))<=(b.n:Int))/\ba ak NX (N2 #[CX,CX] CX #[l.v,(.slice (cw b.a b.c ((NY.wrap (i+1)).toNat) 3) (b.n - ((NY.wrap (i+1)).toNat)) (b.c - ((NY.wrap (i+1)).toNat)))]) H1 λ(e:Sl) g=>ae d λf=>st g (f.add 0) e.v λh=>R () h
theorem J7.of:∀{d i H R},J7.vc d i H R->J7.sp d i H R:=aU [] (by kernel_rfl)
end Go.Proofs.YtmkbhnholcaghaaGreatDoor
