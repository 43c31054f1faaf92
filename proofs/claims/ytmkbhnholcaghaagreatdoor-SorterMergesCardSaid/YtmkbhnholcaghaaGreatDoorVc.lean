/-
 Written by wip/tools/gen.py: what the walk of each function asks, in plain form, and that it is enough.
-/
import Derived.Test.YtmkbhnholcaghaaGreatDoorFxf
import Derived.Test.YtmkbhnholcaghaaGreatDoorProg
import Derived.KernelRfl
open ByteArray renaming mk->O2,empty->QI
open Go.Addr renaming mk->Yl
open Go.Builtin renaming append_->Oq,delete_->PV,clear_->TE,copy_->Vd
open Go.Instr renaming storeAt->OI,buildSlice->PH,lookup->PM,entry->P5,next->Qi,range->Qn,mapUpdate->Qt,makeSlice->Re
open Go.IntKind renaming i64->Ol,u64->OW,u8->Pn,u32->P6
open Go.Proofs.Tryz renaming prog->Oj
open Int renaming tdiv->Pe,tmod->PE
open Nat renaming beq->OQ
namespace Go.Proofs.YtmkbhnholcaghaaGreatDoor
set_option maxRecDepth 100000
theorem zo:Oj.follows .mixedOrders=true:=by kernel_rfl
theorem Fh:(Oj.funcs.toList.all λfn=>!(fn.name=="runtime.NumGoroutine"))=true:=by kernel_rfl
theorem Hi:lX Oj:=by
 intro f fn a;have h1:=List.all_eq_true.1 Fh fn (by
  have:=Array.getElem?_eq_some_iff.1 a;obtain⟨h,e⟩:=this;rw[<-e];simp)
 simpa using h1
theorem aU {c:eM}{f:FuncId}(A:Bq){args:List Value}{H:aa}{R:c.α->aa->Prop}{V:Prop}(e:LO c Oj f A args H R=V)(h:V):ai c Oj f args.toArray H R:=yn Hi zo (A:=A) (Eq.mpr e h)
abbrev Kp (α:Type):=α->aa->Prop
@[reducible] def Ar:TypeId:=0
abbrev iH:TypeId:=3
abbrev Lm:TypeId:=4
abbrev fD:TypeId:=5
abbrev dy:TypeId:=9
abbrev fG:TypeId:=22
abbrev Lk:TypeId:=24
abbrev dM:TypeId:=30
abbrev fF:TypeId:=34
abbrev iV:TypeId:=44
abbrev Ed:TypeId:=46
abbrev y9:TypeId:=61
abbrev wc:TypeId:=72
abbrev Mi:TypeId:=75
abbrev Mm:TypeId:=83
abbrev LS:TypeId:=85
abbrev MC:TypeId:=86
abbrev jZ:TypeId:=89
abbrev CQ:TypeId:=102
abbrev rP:TypeId:=104
abbrev yY:TypeId:=106
abbrev Df:TypeId:=107
abbrev wY:TypeId:=109
abbrev dS:TypeId:=112
abbrev Ls:TypeId:=115
abbrev Mk:TypeId:=116
abbrev Lf:TypeId:=122
abbrev IC:TypeId:=126
abbrev yX:TypeId:=127
abbrev MQ:TypeId:=129
abbrev xB:TypeId:=131
abbrev xX:TypeId:=132
abbrev LW:TypeId:=133
abbrev CL:TypeId:=135
abbrev rf:TypeId:=140
abbrev GN:TypeId:=147
abbrev MT:TypeId:=149
abbrev Mn:TypeId:=152
abbrev wX:TypeId:=169
abbrev tJ:TypeId:=170
abbrev KM:TypeId:=172
abbrev tX:TypeId:=175
abbrev Ix:TypeId:=176
abbrev Lz:TypeId:=177
abbrev C0:TypeId:=179
abbrev Ln:TypeId:=180
abbrev uL:TypeId:=181
abbrev qZ:TypeId:=183
abbrev Mh:TypeId:=189
abbrev uo:TypeId:=191
abbrev y6:TypeId:=193
abbrev LG:TypeId:=202
abbrev Fy:TypeId:=211
abbrev Ct:TypeId:=218
abbrev ML:TypeId:=292
abbrev N8:TypeId:=311
@[reducible] def J8:ByteArray:=O2 #[48,48,48,49,48,50,48,51,48,52,48,53,48,54,48,55,48,56,48,57,49,48,49,49,49,50,49,51,49,52,49,53,49,54,49,55,49,56,49,57,50,48,50,49,50,50,50,51,50,52,50,53,50,54,50,55,50,56,50,57,51,48,51,49,51,50,51,51,51,52,51,53,51,54,51,55,51,56,51,57,52,48,52,49,52,50,52,51,52,52,52,53,52,54,52,55,52,56,52,57,53,48,53,49,53,50,53,51,53,52,53,53,53,54,53,55,53,56,53,57,54,48,54,49,54,50,54,51,54,52,54,53,54,54,54,55,54,56,54,57,55,48,55,49,55,50,55,51,55,52,55,53,55,54,55,55,55,56,55,57,56,48,56,49,56,50,56,51,56,52,56,53,56,54,56,55,56,56,56,57,57,48,57,49,57,50,57,51,57,52,57,53,57,54,57,55,57,56,57,57]
@[reducible] def MZ:ByteArray:=O2 #[115,116,114,99,111,110,118,58,32,105,108,108,101,103,97,108,32,65,112,112,101,110,100,73,110,116,47,70,111,114,109,97,116,73,110,116,32,98,97,115,101]
abbrev w6.no:FuncId:=17
abbrev DS.no:FuncId:=37
abbrev GK.no:FuncId:=50
abbrev Fa.no:FuncId:=96
abbrev Fk.no:FuncId:=157
abbrev Ev.no:FuncId:=179
abbrev DE.no:FuncId:=186
abbrev DW.no:FuncId:=188
abbrev DP.no:FuncId:=201
abbrev Jf.no:FuncId:=219
abbrev HE.no:FuncId:=222
abbrev Hq.no:FuncId:=223
abbrev GS.no:FuncId:=226
abbrev FF.no:FuncId:=228
abbrev Nz.sp (f a b c d e:Int)(rows:Sl)(p:Int)(H:aa)(R:Kp Bool):=ai ay Oj 5 #[(.agg #[(.int .i64 f),(.int .i64 a),(.int .i64 b),(.int .i64 c),(.int .i64 d),(.int .u64 e)]),rows.v,(.int .i64 p)] H R
abbrev KF.sp (i d e f g h:Int)(a b c which:Sl)(H:aa)(R:Kp Bool):=ai ay Oj 6 #[(.agg #[(.int .i64 i),(.int .i64 d),(.int .i64 e),(.int .i64 f),(.int .i64 g),(.int .u64 h)]),a.v,b.v,c.v,which.v] H R
abbrev Dw.sp (s:Option Addr)(H:aa)(R:Kp (Int×Int)):=ai (aR [(ab .i64),(ab .i64)]) Oj 8 #[(.pointer s)] H R
abbrev Hr.sp (p:Option Addr)(name:ByteArray)(width frames:Int)(H:aa)(R:Kp (Option Addr×Int)):=ai (aR [aw,(ab .i64)]) Oj 9 #[(.pointer p),(.string name),(.int .i64 width),(.int .i64 frames)] H R
abbrev Ha.sp (p:Option Addr)(names:Sl)(to:ByteArray)(width:Int)(H:aa)(R:Kp (Int×Int)):=ai (aR [(ab .i64),(ab .i64)]) Oj 10 #[(.pointer p),names.v,(.string to),(.int .i64 width)] H R
abbrev xv.sp (s:Option Addr)(l:Sl)(H:aa)(R:Kp Int):=ai (ab .i64) Oj 11 #[(.pointer s),l.v] H R
abbrev GY.sp (H:aa)(R:Kp Bool):=ai ay Oj 12 #[] H R
abbrev Hy.sp (i n:Int)(H:aa)(R:Kp Int):=ai (ab .i64) Oj 13 #[(.int .i64 i),(.int .i64 n)] H R
abbrev w6.sp (a b:Sl)(H:aa)(R:Kp Int):=ai (ab .i64) Oj 17 #[a.v,b.v] H R
abbrev NJ.sp (a b:Sl)(H:aa)(R:Kp Bool):=ai ay Oj 19 #[a.v,b.v] H R
abbrev Kh.sp (f a b c d e:Int)(H:aa)(R:Kp (Option Addr×Option Addr×Option Addr×Option Addr)):=ai (aR [aw,aw,aw,aw]) Oj 20 #[(.agg #[(.int .i64 f),(.int .i64 a),(.int .i64 b),(.int .i64 c),(.int .i64 d),(.int .u64 e)])] H R
abbrev Js.sp (p:Option Addr)(name:ByteArray)(width frames:Int)(H:aa)(R:Kp (Option Addr×Int)):=ai (aR [aw,(ab .i64)]) Oj 21 #[(.pointer p),(.string name),(.int .i64 width),(.int .i64 frames)] H R
abbrev IK.sp (d n p m:Option Addr)(H:aa)(R:Kp Bool):=ai ay Oj 22 #[(.pointer d),(.pointer n),(.pointer p),(.pointer m)] H R
abbrev Og.sp (l:Sl)(H:aa)(R:Kp Sl):=ai ak Oj 23 #[l.v] H R
abbrev CV.sp (s:Option Addr)(l:Sl)(H:aa)(R:Kp Int):=ai (ab .i64) Oj 24 #[(.pointer s),l.v] H R
abbrev NG.sp (a l:Sl)(H:aa)(R:Kp Bool):=ai ay Oj 25 #[a.v,l.v] H R
abbrev NU.sp (l:Sl)(H:aa)(R:Kp Unit):=ai (aR []) Oj 26 #[l.v] H R
abbrev Jy.sp (s t:Option Addr)(H:aa)(R:Kp Bool):=ai ay Oj 27 #[(.pointer s),(.pointer t)] H R
abbrev Ey.sp (p:Option Addr)(names:Sl)(to:ByteArray)(width:Int)(H:aa)(R:Kp (Int×Int)):=ai (aR [(ab .i64),(ab .i64)]) Oj 28 #[(.pointer p),names.v,(.string to),(.int .i64 width)] H R
abbrev HV.sp (quota:Int)(H:aa)(R:Kp (Option Addr)):=ai aw Oj 29 #[(.int .i64 quota)] H R
abbrev HA.sp (d:Option Addr)(frames:Int)(H:aa)(R:Kp (Option Addr×Int)):=ai (aR [aw,(ab .i64)]) Oj 30 #[(.pointer d),(.int .i64 frames)] H R
abbrev HG.sp (s:Option Addr)(H:aa)(R:Kp Int):=ai (ab .i64) Oj 31 #[(.pointer s)] H R
abbrev Jk.sp (s:Option Addr)(H:aa)(R:Kp (Int×Int)):=ai (aR [(ab .i64),(ab .i64)]) Oj 32 #[(.pointer s)] H R
abbrev GR.sp (width:Int)(H:aa)(R:Kp Int):=ai (ab .i64) Oj 33 #[(.int .i64 width)] H R
abbrev Kw.sp (p:Option Addr)(H:aa)(R:Kp Int):=ai (ab .i64) Oj 34 #[(.pointer p)] H R
abbrev Kk.sp (p:Option Addr)(names:Sl)(width:Int)(H:aa)(R:Kp (Sl×Int)):=ai (aR [ak,(ab .i64)]) Oj 35 #[(.pointer p),names.v,(.int .i64 width)] H R
abbrev G4.sp (p:Option Addr)(name:ByteArray)(width:Int)(H:aa)(R:Kp (Option Addr×Int)):=ai (aR [aw,(ab .i64)]) Oj 36 #[(.pointer p),(.string name),(.int .i64 width)] H R
abbrev DS.sp (e:Int)(a:Sl)(b:Option Addr)(f:Int)(c:Sl)(d:Option Addr)(H:aa)(R:Kp Bool):=ai ay Oj 37 #[(.agg #[(.int .i64 e),a.v,(.pointer b)]),(.agg #[(.int .i64 f),c.v,(.pointer d)])] H R
abbrev G3.sp (h:Option Addr)(c:Int)(a:Sl)(b:Option Addr)(H:aa)(R:Kp Int):=ai (ab .i64) Oj 38 #[(.pointer h),(.agg #[(.int .i64 c),a.v,(.pointer b)])] H R
abbrev I6.sp (h:Option Addr)(H:aa)(R:Kp (Int×Sl×Option Addr)):=ai (bR [(ab .i64),ak,aw]) Oj 39 #[(.pointer h)] H R
abbrev y7.sp (w:Option Addr)(l:Sl)(H:aa)(R:Kp Int):=ai (ab .i64) Oj 40 #[(.pointer w),l.v] H R
abbrev Iy.sp (r:Option Addr)(H:aa)(R:Kp Unit):=ai (aR []) Oj 41 #[(.pointer r)] H R
abbrev Fs.sp (w:Option Addr)(H:aa)(R:Kp (Int×Int)):=ai (aR [(ab .i64),(ab .i64)]) Oj 42 #[(.pointer w)] H R
abbrev G9.sp (s:Sl)(H:aa)(R:Kp Sl):=ai ak Oj 43 #[s.v] H R
abbrev Ee.sp (s:Option Addr)(H:aa)(R:Kp Int):=ai (ab .i64) Oj 44 #[(.pointer s)] H R
abbrev Ip.sp (p:Option Addr)(name:ByteArray)(width:Int)(H:aa)(R:Kp (Option Addr×Int)):=ai (aR [aw,(ab .i64)]) Oj 45 #[(.pointer p),(.string name),(.int .i64 width)] H R
abbrev E8.sp (r:Option Addr)(H:aa)(R:Kp (Sl×Bool×Int)):=ai (aR [ak,ay,(ab .i64)]) Oj 46 #[(.pointer r)] H R
abbrev Ic.sp (d:Option Addr)(H:aa)(R:Kp Sl):=ai ak Oj 47 #[(.pointer d)] H R
abbrev JF.sp (p:Option Addr)(H:aa)(R:Kp Int):=ai (ab .i64) Oj 48 #[(.pointer p)] H R
abbrev Lc.sp (s1 s2:Sl)(H:aa)(R:Kp Int):=ai (ab .i64) Oj 49 #[s1.v,s2.v,(.func (.func GK.no) #[] #[])] H R
abbrev GK.sp (x y:Int)(H:aa)(R:Kp Int):=ai (ab .i64) Oj 50 #[(.int .u64 x),(.int .u64 y)] H R
abbrev JU.sp (quota:Int)(H:aa)(R:Kp (Option Addr)):=ai aw Oj 51 #[(.int .i64 quota)] H R
abbrev Kz.sp (d:Option Addr)(p keep:Int)(H:aa)(R:Kp Unit):=ai (aR []) Oj 52 #[(.pointer d),(.int .i64 p),(.int .u64 keep)] H R
abbrev Ko.sp (d:Option Addr)(p keep:Int)(H:aa)(R:Kp Unit):=ai (aR []) Oj 53 #[(.pointer d),(.int .i64 p),(.int .u64 keep)] H R
abbrev JT.sp (d:Option Addr)(frames:Int)(H:aa)(R:Kp (Option Addr×Int)):=ai (aR [aw,(ab .i64)]) Oj 54 #[(.pointer d),(.int .i64 frames)] H R
abbrev BN.sp (width:Int)(H:aa)(R:Kp Int):=ai (ab .i64) Oj 55 #[(.int .i64 width)] H R
abbrev Ka.sp (d:Option Addr)(H:aa)(R:Kp Int):=ai (ab .i64) Oj 56 #[(.pointer d)] H R
abbrev Ju.sp (d:Option Addr)(H:aa)(R:Kp Bool):=ai ay Oj 57 #[(.pointer d)] H R
abbrev Jm.sp (d:Option Addr)(H:aa)(R:Kp Int):=ai (ab .i64) Oj 58 #[(.pointer d)] H R
abbrev J4.sp (p:Option Addr)(H:aa)(R:Kp Int):=ai (ab .i64) Oj 59 #[(.pointer p)] H R
abbrev JJ.sp (p:Option Addr)(H:aa)(R:Kp Int):=ai (ab .i64) Oj 60 #[(.pointer p)] H R
abbrev JR.sp (d:Option Addr)(H:aa)(R:Kp Unit):=ai (aR []) Oj 61 #[(.pointer d)] H R
abbrev Kd.sp (d:Option Addr)(H:aa)(R:Kp Unit):=ai (aR []) Oj 62 #[(.pointer d)] H R
abbrev JY.sp (a b:Sl)(H:aa)(R:Kp Bool):=ai ay Oj 63 #[a.v,b.v] H R
abbrev J6.sp (d:Option Addr)(H:aa)(R:Kp Sl):=ai ak Oj 64 #[(.pointer d)] H R
abbrev Dh.sp (d:Option Addr)(name:ByteArray)(H:aa)(R:Kp (Int×Int)):=ai (aR [(ab .i64),(ab .i64)]) Oj 65 #[(.pointer d),(.string name)] H R
abbrev HI.sp (d:Option Addr)(name:ByteArray)(page:Int)(H:aa)(R:Kp (Sl×Int)):=ai (aR [ak,(ab .i64)]) Oj 66 #[(.pointer d),(.string name),(.int .i64 page)] H R
abbrev CR.sp (d:Option Addr)(name:ByteArray)(page:Int)(H:aa)(R:Kp (Sl×Int)):=ai (aR [ak,(ab .i64)]) Oj 67 #[(.pointer d),(.string name),(.int .i64 page)] H R
abbrev Hz.sp (s:Option Addr)(H:aa)(R:Kp Int):=ai (ab .i64) Oj 68 #[(.pointer s)] H R
abbrev Gr.sp (s:Option Addr)(H:aa)(R:Kp Int):=ai (ab .i64) Oj 69 #[(.pointer s)] H R
abbrev DV.sp (s:Option Addr)(H:aa)(R:Kp (Int×Int)):=ai (aR [(ab .i64),(ab .i64)]) Oj 70 #[(.pointer s)] H R
abbrev He.sp (p:Option Addr)(name:ByteArray)(width:Int)(H:aa)(R:Kp (Option Addr×Int)):=ai (aR [aw,(ab .i64)]) Oj 71 #[(.pointer p),(.string name),(.int .i64 width)] H R
abbrev Ht.sp (p:Option Addr)(name:ByteArray)(width:Int)(H:aa)(R:Kp (Option Addr×Int)):=ai (aR [aw,(ab .i64)]) Oj 72 #[(.pointer p),(.string name),(.int .i64 width)] H R
abbrev Ce.sp (r:Option Addr)(H:aa)(R:Kp (Sl×Bool×Int)):=ai (aR [ak,ay,(ab .i64)]) Oj 73 #[(.pointer r)] H R
abbrev Az.sp (a b:Sl)(H:aa)(R:Kp Int):=ai (ab .i64) Oj 74 #[a.v,b.v] H R
abbrev Hc.sp (w:Option Addr)(H:aa)(R:Kp (Int×Int)):=ai (aR [(ab .i64),(ab .i64)]) Oj 75 #[(.pointer w)] H R
abbrev Bb.sp (w:Option Addr)(l:Sl)(H:aa)(R:Kp Int):=ai (ab .i64) Oj 76 #[(.pointer w),l.v] H R
abbrev It.sp (s:Option Addr)(H:aa)(R:Kp ByteArray):=ai aH Oj 77 #[(.pointer s)] H R
abbrev HS.sp (s:Option Addr)(k:Int)(to:ByteArray)(H:aa)(R:Kp (Int×Int)):=ai (aR [(ab .i64),(ab .i64)]) Oj 78 #[(.pointer s),(.int .i64 k),(.string to)] H R
abbrev JV.sp (s:Sl)(H:aa)(R:Kp Sl):=ai ak Oj 79 #[s.v] H R
abbrev Ih.sp (width:Int)(H:aa)(R:Kp Int):=ai (ab .i64) Oj 80 #[(.int .i64 width)] H R
abbrev Iv.sp (p:Option Addr)(name:ByteArray)(width:Int)(H:aa)(R:Kp ((Option Addr×ByteArray×Int×Int×Int×Bool)×Int)):=ai (aR [(bR [aw,aH,(ab .i64),(ab .i64),(ab .i64),ay]),(ab .i64)]) Oj 81 #[(.pointer p),(.string name),(.int .i64 width)] H R
abbrev Hl.sp (p:Option Addr)(H:aa)(R:Kp (Option Addr)):=ai aw Oj 82 #[(.pointer p)] H R
abbrev JQ.sp (d:Option Addr)(name:ByteArray)(H:aa)(R:Kp Int):=ai (ab .i64) Oj 83 #[(.pointer d),(.string name)] H R
abbrev G5.sp (b:Option Addr)(kind:Int)(p:Sl)(H:aa)(R:Kp Int):=ai (ab .i64) Oj 84 #[(.pointer b),(.int .u8 kind),p.v] H R
abbrev JO.sp (h:Option Addr)(c:Int)(a:Sl)(b:Option Addr)(H:aa)(R:Kp Unit):=ai (aR []) Oj 85 #[(.pointer h),(.agg #[(.int .i64 c),a.v,(.pointer b)])] H R
abbrev G2.sp (b:Option Addr)(H:aa)(R:Kp Int):=ai (ab .i64) Oj 86 #[(.pointer b)] H R
abbrev Ag.sp (l:Sl)(H:aa)(R:Kp Sl):=ai ak Oj 87 #[l.v] H R
abbrev I7.sp (w:Option Addr)(H:aa)(R:Kp Int):=ai (ab .i64) Oj 88 #[(.pointer w)] H R
abbrev G7.sp (p:Option Addr)(name:ByteArray)(page:Int)(H:aa)(R:Kp (Int×Int)):=ai (aR [(ab .i64),(ab .i64)]) Oj 89 #[(.pointer p),(.string name),(.int .i64 page)] H R
abbrev Ak.sp (p:Option Addr)(h kind:Int)(b:Sl)(H:aa)(R:Kp Int):=ai (ab .i64) Oj 90 #[(.pointer p),(.int .i64 h),(.int .u8 kind),b.v] H R
abbrev DN.sp (p:Option Addr)(h:Int)(H:aa)(R:Kp Int):=ai (ab .i64) Oj 91 #[(.pointer p),(.int .i64 h)] H R
abbrev IL.sp (p:Option Addr)(name:ByteArray)(H:aa)(R:Kp Int):=ai (ab .i64) Oj 92 #[(.pointer p),(.string name)] H R
abbrev Ca.sp (b:Option Addr)(e:Int)(H:aa)(R:Kp Int):=ai (ab .i64) Oj 93 #[(.pointer b),(.int .i64 e)] H R
abbrev MR.sp (x:Sl)(cmp:Value)(H:aa)(R:Kp Unit):=ai (aR []) Oj 94 #[x.v,cmp] H R
abbrev JP.sp (s:Sl)(H:aa)(R:Kp Sl):=ai ak Oj 95 #[s.v,(.func (.func Fa.no) #[] #[])] H R
abbrev Fa.sp (a b:Sl)(H:aa)(R:Kp Bool):=ai ay Oj 96 #[a.v,b.v] H R
abbrev IJ.sp (b:Option Addr)(page:Int)(H:aa)(R:Kp (Int×Sl×Int)):=ai (aR [(ab .u8),ak,(ab .i64)]) Oj 97 #[(.pointer b),(.int .i64 page)] H R
abbrev DT.sp (d:Option Addr)(name:ByteArray)(H:aa)(R:Kp (Int×Int)):=ai (aR [(ab .i64),(ab .i64)]) Oj 98 #[(.pointer d),(.string name)] H R
abbrev GW.sp (b:Sl)(width:Int)(H:aa)(R:Kp (Sl×Int)):=ai (aR [ak,(ab .i64)]) Oj 99 #[b.v,(.int .i64 width)] H R
abbrev Kf.sp (b:Option Addr)(n:Int)(H:aa)(R:Kp Int):=ai (ab .i64) Oj 100 #[(.pointer b),(.int .i64 n)] H R
abbrev JB.sp (r:Option Addr)(k:Int)(H:aa)(R:Kp Int):=ai (ab .i64) Oj 101 #[(.pointer r),(.int .i64 k)] H R
abbrev DJ.sp (d:Option Addr)(H:aa)(R:Kp Int):=ai (ab .i64) Oj 102 #[(.pointer d)] H R
abbrev KN.sp (seq:Value)(H:aa)(R:Kp Sl):=ai ak Oj 103 #[seq] H R
abbrev Ll.sp (m:Option Nat)(H:aa)(R:Kp Value):=ai gn Oj 104 #[(.map m)] H R
abbrev HJ.sp (x:Int)(H:aa)(R:Kp Bool):=ai ay Oj 105 #[(.int .u64 x)] H R
abbrev Hj.sp (width:Int)(H:aa)(R:Kp Int):=ai (ab .i64) Oj 106 #[(.int .i64 width)] H R
abbrev MU.sp (x:Sl)(H:aa)(R:Kp Unit):=ai (aR []) Oj 107 #[x.v] H R
abbrev DI.sp (s:Sl)(H:aa)(R:Kp Sl):=ai ak Oj 108 #[s.v] H R
abbrev IS.sp (x:Sl)(target:Int)(H:aa)(R:Kp (Int×Bool)):=ai (aR [(ab .i64),ay]) Oj 109 #[x.v,(.int .i64 target)] H R
abbrev GL.sp (l:Sl)(page:Int)(b:Array Value)(H:aa)(R:Kp Sl):=ai ak Oj 110 #[l.v,(.int .i64 page),(.agg b)] H R
abbrev J9.sp (d:Option Addr)(no:Int)(H:aa)(R:Kp Int):=ai (ab .i64) Oj 111 #[(.pointer d),(.int .i64 no)] H R
abbrev Hu.sp (l:Sl)(c a:Int)(b:ByteArray)(H:aa)(R:Kp Sl):=ai ak Oj 112 #[l.v,(.agg #[(.int .i64 c),(.int .i64 a),(.string b)])] H R
abbrev Be.sp (d:Option Addr)(name:ByteArray)(H:aa)(R:Kp Int):=ai (ab .i64) Oj 113 #[(.pointer d),(.string name)] H R
abbrev DU.sp (c:ByteArray)(a b:Sl)(H:aa)(R:Kp Sl):=ai ak Oj 114 #[(.agg #[(.string c),a.v,b.v])] H R
abbrev DL.sp (d:Option Addr)(name:ByteArray)(H:aa)(R:Kp (Option Addr×Int)):=ai (aR [aw,(ab .i64)]) Oj 115 #[(.pointer d),(.string name)] H R
abbrev DQ.sp (s:Sl)(H:aa)(R:Kp Sl):=ai ak Oj 116 #[s.v] H R
abbrev Iu.sp (s:Option Addr)(H:aa)(R:Kp ByteArray):=ai aH Oj 117 #[(.pointer s)] H R
abbrev J0.sp (p:Option Addr)(name:ByteArray)(width:Int)(rows:Sl)(H:aa)(R:Kp Int):=ai (ab .i64) Oj 118 #[(.pointer p),(.string name),(.int .i64 width),rows.v] H R
abbrev Jl.sp (rows:Sl)(H:aa)(R:Kp Sl):=ai ak Oj 119 #[rows.v] H R
abbrev J1.sp (s:Option Addr)(H:aa)(R:Kp (Int×Int)):=ai (aR [(ab .i64),(ab .i64)]) Oj 120 #[(.pointer s)] H R
abbrev HK.sp (b:Option Addr)(page:Int)(H:aa)(R:Kp (Int×Sl×Int)):=ai (aR [(ab .u8),ak,(ab .i64)]) Oj 121 #[(.pointer b),(.int .i64 page)] H R
abbrev IX.sp (b:Sl)(width:Int)(H:aa)(R:Kp (Sl×Int)):=ai (aR [ak,(ab .i64)]) Oj 122 #[b.v,(.int .i64 width)] H R
abbrev Jw.sp (n room:Int)(H:aa)(R:Kp Int):=ai (ab .i64) Oj 123 #[(.int .i64 n),(.int .i64 room)] H R
abbrev JG.sp (d:Option Addr)(name:ByteArray)(H:aa)(R:Kp Int):=ai (ab .i64) Oj 124 #[(.pointer d),(.string name)] H R
abbrev I9.sp (b:Option Addr)(kind:Int)(p:Sl)(H:aa)(R:Kp Int):=ai (ab .i64) Oj 125 #[(.pointer b),(.int .u8 kind),p.v] H R
abbrev G6.sp (b:Option Addr)(H:aa)(R:Kp Int):=ai (ab .i64) Oj 126 #[(.pointer b)] H R
abbrev Jr.sp (r:Option Addr)(k:Int)(H:aa)(R:Kp Int):=ai (ab .i64) Oj 127 #[(.pointer r),(.int .i64 k)] H R
abbrev IE.sp (w:Option Addr)(H:aa)(R:Kp Int):=ai (ab .i64) Oj 128 #[(.pointer w)] H R
abbrev HF.sp (p:Option Addr)(name:ByteArray)(page:Int)(H:aa)(R:Kp (Int×Int)):=ai (aR [(ab .i64),(ab .i64)]) Oj 129 #[(.pointer p),(.string name),(.int .i64 page)] H R
abbrev Je.sp (p:Option Addr)(h kind:Int)(b:Sl)(H:aa)(R:Kp Int):=ai (ab .i64) Oj 130 #[(.pointer p),(.int .i64 h),(.int .u8 kind),b.v] H R
abbrev Kl.sp (width rows:Int)(H:aa)(R:Kp Sl):=ai ak Oj 131 #[(.int .i64 width),(.int .i64 rows)] H R
abbrev Fb.sp (p:Option Addr)(h:Int)(H:aa)(R:Kp Int):=ai (ab .i64) Oj 132 #[(.pointer p),(.int .i64 h)] H R
abbrev JA.sp (p:Option Addr)(name:ByteArray)(H:aa)(R:Kp Int):=ai (ab .i64) Oj 133 #[(.pointer p),(.string name)] H R
abbrev Cz.sp (b:Option Addr)(e:Int)(H:aa)(R:Kp Int):=ai (ab .i64) Oj 134 #[(.pointer b),(.int .i64 e)] H R
abbrev Iz.sp (l:Sl)(H:aa)(R:Kp Sl):=ai ak Oj 135 #[l.v] H R
abbrev Ku.sp (i:Int)(H:aa)(R:Kp ByteArray):=ai aH Oj 136 #[(.int .i64 i)] H R
abbrev JI.sp (p:Option Addr)(name:ByteArray)(H:aa)(R:Kp Int):=ai (ab .i64) Oj 137 #[(.pointer p),(.string name)] H R
abbrev IM.sp (s:ByteArray)(H:aa)(R:Kp Bool):=ai ay Oj 138 #[(.string s)] H R
abbrev DF.sp (d:Option Addr)(H:aa)(R:Kp Int):=ai (ab .i64) Oj 139 #[(.pointer d)] H R
abbrev Ji.sp (p:Option Addr)(name:ByteArray)(H:aa)(R:Kp (Int×Int×Int)):=ai (aR [(ab .i64),(ab .i64),(ab .i64)]) Oj 140 #[(.pointer p),(.string name)] H R
abbrev Ky.sp (b:Array Value)(n:Int)(H:aa)(R:Kp (Array Value)):=ai jU Oj 141 #[(.agg b),(.int .u64 n)] H R
abbrev DR.sp (p:Option Addr)(H:aa)(R:Kp Int):=ai (ab .i64) Oj 142 #[(.pointer p)] H R
abbrev FH.sp (p f:Option Addr)(H:aa)(R:Kp Int):=ai (ab .i64) Oj 143 #[(.pointer p),(.pointer f)] H R
abbrev KB.sp (p:Option Addr)(at_:ByteArray)(a:Int)(H:aa)(R:Kp (Option Addr×Int)):=ai (aR [aw,(ab .i64)]) Oj 144 #[(.pointer p),(.agg #[(.string at_),(.int .i64 a)])] H R
abbrev vC.sp (p:Option Addr)(e:Int)(H:aa)(R:Kp Int):=ai (ab .i64) Oj 145 #[(.pointer p),(.int .i64 e)] H R
abbrev Cw.sp (p f:Option Addr)(H:aa)(R:Kp Int):=ai (ab .i64) Oj 146 #[(.pointer p),(.pointer f)] H R
abbrev G1.sp (p:Option Addr)(h:Int)(H:aa)(R:Kp (Option Addr×Int)):=ai (aR [aw,(ab .i64)]) Oj 147 #[(.pointer p),(.int .i64 h)] H R
abbrev IW.sp (p:Option Addr)(name:ByteArray)(H:aa)(R:Kp Sl):=ai ak Oj 148 #[(.pointer p),(.string name)] H R
abbrev DM.sp (p f:Option Addr)(H:aa)(R:Kp Int):=ai (ab .i64) Oj 149 #[(.pointer p),(.pointer f)] H R
abbrev Kj.sp (d:Option Addr)(name:ByteArray)(H:aa)(R:Kp Int):=ai (ab .i64) Oj 150 #[(.pointer d),(.string name)] H R
abbrev Ob.sp (data:Sl)(a b c:Int)(cmp:Value)(H:aa)(R:Kp Unit):=ai (aR []) Oj 151 #[data.v,(.int .i64 a),(.int .i64 b),(.int .i64 c),cmp] H R
abbrev Nu.sp (x:Int)(H:aa)(R:Kp Int):=ai (ab .i64) Oj 152 #[(.int .u64 x)] H R
abbrev Ke.sp (p:Option Addr)(h:Int)(H:aa)(R:Kp (Int×Sl×Int)):=ai (aR [(ab .u8),ak,(ab .i64)]) Oj 153 #[(.pointer p),(.int .i64 h)] H R
abbrev JK.sp (s:Sl)(n:Int)(H:aa)(R:Kp Value):=ai gn Oj 154 #[s.v,(.int .i64 n)] H R
abbrev Lp.sp (seq:Value)(H:aa)(R:Kp Sl):=ai ak Oj 155 #[seq] H R
abbrev MM.sp (x:Sl)(H:aa)(R:Kp Unit):=ai (aR []) Oj 156 #[x.v] H R
abbrev Fk.sp (l:Nat)(cap:Addr)(H:aa)(R:Kp Unit):=ai (aR []) Oj 157 #[(.func (.yield l) #[] #[]),(.pointer (some cap))] H R
abbrev N3.sp (data:Sl)(a b c:Int)(H:aa)(R:Kp Unit):=ai (aR []) Oj 158 #[data.v,(.int .i64 a),(.int .i64 b),(.int .i64 c)] H R
abbrev Jj.sp (x y:Int)(H:aa)(R:Kp Bool):=ai ay Oj 159 #[(.int .i64 x),(.int .i64 y)] H R
abbrev Jd.sp (x:Int)(H:aa)(R:Kp Bool):=ai ay Oj 160 #[(.int .i64 x)] H R
abbrev Gq.sp (n:Int)(H:aa)(R:Kp ByteArray):=ai aH Oj 161 #[(.int .i64 n)] H R
abbrev J7.sp (l x:Sl)(H:aa)(R:Kp Sl):=ai ak Oj 162 #[l.v,x.v] H R
abbrev IF.sp (s:Option Addr)(names:Sl)(H:aa)(R:Kp Int):=ai (ab .i64) Oj 163 #[(.pointer s),names.v] H R
abbrev Jp.sp (p:Option Addr)(h:Int)(H:aa)(R:Kp (Int×Sl×Int)):=ai (aR [(ab .u8),ak,(ab .i64)]) Oj 164 #[(.pointer p),(.int .i64 h)] H R
abbrev Jq.sp (s:ByteArray)(H:aa)(R:Kp Bool):=ai ay Oj 165 #[(.string s)] H R
abbrev E0.sp (d:Option Addr)(H:aa)(R:Kp Int):=ai (ab .i64) Oj 166 #[(.pointer d)] H R
abbrev KC.sp (p:Option Addr)(name:ByteArray)(H:aa)(R:Kp (Int×Int×Int)):=ai (aR [(ab .i64),(ab .i64),(ab .i64)]) Oj 167 #[(.pointer p),(.string name)] H R
abbrev Hw.sp (p:Option Addr)(name:ByteArray)(page:Int)(H:aa)(R:Kp Int):=ai (ab .i64) Oj 168 #[(.pointer p),(.string name),(.int .i64 page)] H R
abbrev GP.sp (p:Option Addr)(i:Int)(H:aa)(R:Kp Int):=ai (ab .i64) Oj 169 #[(.pointer p),(.int .i64 i)] H R
abbrev GQ.sp (p:Option Addr)(H:aa)(R:Kp Int):=ai (ab .i64) Oj 170 #[(.pointer p)] H R
abbrev nE.sp (p:Option Addr)(e:Int)(H:aa)(R:Kp Int):=ai (ab .i64) Oj 171 #[(.pointer p),(.int .i64 e)] H R
abbrev GH.sp (b:Sl)(H:aa)(R:Kp (Int×Sl×Int)):=ai (aR [(ab .u8),ak,(ab .i64)]) Oj 172 #[b.v] H R
abbrev Cg.sp (p:Option Addr)(g:ByteArray)(a b:Int)(c:ByteArray)(d:Bool)(e:Sl)(f:Int)(H:aa)(R:Kp Int):=ai (ab .i64) Oj 173 #[(.pointer p),(.agg #[(.string g),(.int .i64 a),(.int .u8 b),(.string c),(.bool d),e.v,(.int .i64 f)])] H R
abbrev GU.sp (p:Option Addr)(h:Int)(H:aa)(R:Kp Int):=ai (ab .i64) Oj 174 #[(.pointer p),(.int .i64 h)] H R
abbrev Ie.sp (p:Option Addr)(i:Int)(H:aa)(R:Kp Int):=ai (ab .i64) Oj 175 #[(.pointer p),(.int .i64 i)] H R
abbrev Jg.sp (d:Option Addr)(name:ByteArray)(H:aa)(R:Kp Int):=ai (ab .i64) Oj 176 #[(.pointer d),(.string name)] H R
abbrev KW.sp (i:Int)(H:aa)(R:Kp ByteArray):=ai aH Oj 177 #[(.int .i64 i)] H R
abbrev Ks.sp (s:Sl)(H:aa)(R:Kp Bool):=ai ay Oj 178 #[s.v,(.func (.func Ev.no) #[] #[])] H R
abbrev Ev.sp (f:Option Addr)(H:aa)(R:Kp Bool):=ai ay Oj 179 #[(.pointer f)] H R
abbrev JW.sp (d:Option Addr)(name:ByteArray)(H:aa)(R:Kp Int):=ai (ab .i64) Oj 180 #[(.pointer d),(.string name)] H R
abbrev Hg.sp (p:Option Addr)(H:aa)(R:Kp Int):=ai (ab .i64) Oj 181 #[(.pointer p)] H R
abbrev JL.sp (b:Sl)(H:aa)(R:Kp (Int×Sl×Int)):=ai (aR [(ab .u8),ak,(ab .i64)]) Oj 182 #[b.v] H R
abbrev JX.sp (s:Sl)(cap:Addr)(H:aa)(R:Kp Sl):=ai ak Oj 183 #[s.v,(.func (.func DE.no) #[] #[(.pointer (some cap))])] H R
abbrev K8.sp (seq:Value)(H:aa)(R:Kp Sl):=ai ak Oj 184 #[seq] H R
abbrev KD.sp (m:Option Nat)(H:aa)(R:Kp Value):=ai gn Oj 185 #[(.map m)] H R
abbrev DE.sp (f:Option Addr)(cap:Addr)(H:aa)(R:Kp Bool):=ai ay Oj 186 #[(.pointer f),(.pointer (some cap))] H R
abbrev M5.sp (x:Sl)(cmp:Value)(H:aa)(R:Kp Unit):=ai (aR []) Oj 187 #[x.v,cmp] H R
abbrev DW.sp (a b:Option Addr)(H:aa)(R:Kp Int):=ai (ab .i64) Oj 188 #[(.pointer a),(.pointer b)] H R
abbrev Kc.sp (kind:Int)(b:Sl)(H:aa)(R:Kp (Sl×Int)):=ai (aR [ak,(ab .i64)]) Oj 189 #[(.int .u8 kind),b.v] H R
abbrev Km.sp (d:Option Addr)(name:ByteArray)(page:Int)(b:Sl)(H:aa)(R:Kp Int):=ai (ab .i64) Oj 190 #[(.pointer d),(.string name),(.int .i64 page),b.v] H R
abbrev Nn.sp (data:Sl)(a b:Int)(cmp:Value)(H:aa)(R:Kp Unit):=ai (aR []) Oj 191 #[data.v,(.int .i64 a),(.int .i64 b),cmp] H R
abbrev N5.sp (data:Sl)(a b:Int)(cmp:Value)(H:aa)(R:Kp Unit):=ai (aR []) Oj 192 #[data.v,(.int .i64 a),(.int .i64 b),cmp] H R
abbrev Nc.sp (data:Sl)(a b:Int)(cmp:Value)(H:aa)(R:Kp Unit):=ai (aR []) Oj 193 #[data.v,(.int .i64 a),(.int .i64 b),cmp] H R
abbrev Ni.sp (data:Sl)(a b:Int)(cmp:Value)(H:aa)(R:Kp (Int×Int)):=ai (aR [(ab .i64),(ab .i64)]) Oj 194 #[data.v,(.int .i64 a),(.int .i64 b),cmp] H R
abbrev Oh.sp (data:Sl)(a b:Int)(cmp:Value)(H:aa)(R:Kp Unit):=ai (aR []) Oj 195 #[data.v,(.int .i64 a),(.int .i64 b),cmp] H R
abbrev Nj.sp (data:Sl)(a b:Int)(cmp:Value)(H:aa)(R:Kp Bool):=ai ay Oj 196 #[data.v,(.int .i64 a),(.int .i64 b),cmp] H R
abbrev NN.sp (data:Sl)(a b pivot:Int)(cmp:Value)(H:aa)(R:Kp Int):=ai (ab .i64) Oj 197 #[data.v,(.int .i64 a),(.int .i64 b),(.int .i64 pivot),cmp] H R
abbrev Oe.sp (data:Sl)(a b pivot:Int)(cmp:Value)(H:aa)(R:Kp (Int×Bool)):=ai (aR [(ab .i64),ay]) Oj 198 #[data.v,(.int .i64 a),(.int .i64 b),(.int .i64 pivot),cmp] H R
abbrev NM.sp (x:Int)(H:aa)(R:Kp Int):=ai (ab .i64) Oj 199 #[(.int .u32 x)] H R
abbrev Nr.sp (x:Int)(H:aa)(R:Kp Int):=ai (ab .i64) Oj 200 #[(.int .u64 x)] H R
abbrev DP.sp (l:Nat)(cap a:Addr)(H:aa)(R:Kp Unit):=ai (aR []) Oj 201 #[(.func (.yield l) #[] #[]),(.pointer (some cap)),(.pointer (some a))] H R
abbrev JM.sp (s:Sl)(seq:Value)(H:aa)(R:Kp Sl):=ai ak Oj 202 #[s.v,seq] H R
abbrev NV.sp (data:Sl)(a b c:Int)(H:aa)(R:Kp Unit):=ai (aR []) Oj 203 #[data.v,(.int .i64 a),(.int .i64 b),(.int .i64 c)] H R
abbrev NY.sp (data:Sl)(a b:Int)(H:aa)(R:Kp Unit):=ai (aR []) Oj 204 #[data.v,(.int .i64 a),(.int .i64 b)] H R
abbrev NR.sp (data:Sl)(a b:Int)(H:aa)(R:Kp Unit):=ai (aR []) Oj 205 #[data.v,(.int .i64 a),(.int .i64 b)] H R
abbrev M7.sp (data:Sl)(a b:Int)(H:aa)(R:Kp Unit):=ai (aR []) Oj 206 #[data.v,(.int .i64 a),(.int .i64 b)] H R
abbrev NX.sp (data:Sl)(a b:Int)(H:aa)(R:Kp (Int×Int)):=ai (aR [(ab .i64),(ab .i64)]) Oj 207 #[data.v,(.int .i64 a),(.int .i64 b)] H R
abbrev NA.sp (data:Sl)(a b:Int)(H:aa)(R:Kp Unit):=ai (aR []) Oj 208 #[data.v,(.int .i64 a),(.int .i64 b)] H R
abbrev Nb.sp (data:Sl)(a b:Int)(H:aa)(R:Kp Bool):=ai ay Oj 209 #[data.v,(.int .i64 a),(.int .i64 b)] H R
abbrev Ns.sp (data:Sl)(a b pivot:Int)(H:aa)(R:Kp Int):=ai (ab .i64) Oj 210 #[data.v,(.int .i64 a),(.int .i64 b),(.int .i64 pivot)] H R
abbrev N4.sp (data:Sl)(a b pivot:Int)(H:aa)(R:Kp (Int×Bool)):=ai (aR [(ab .i64),ay]) Oj 211 #[data.v,(.int .i64 a),(.int .i64 b),(.int .i64 pivot)] H R
abbrev JD.sp (x:Int)(H:aa)(R:Kp Bool):=ai ay Oj 212 #[(.int .i64 x)] H R
abbrev Jz.sp (l x:Sl)(H:aa)(R:Kp Int):=ai (ab .i64) Oj 213 #[l.v,x.v] H R
abbrev Hd.sp (p:Option Addr)(name:ByteArray)(H:aa)(R:Kp Int):=ai (ab .i64) Oj 214 #[(.pointer p),(.string name)] H R
abbrev EF.sp (kind:Int)(b:Sl)(H:aa)(R:Kp (Sl×Int)):=ai (aR [ak,(ab .i64)]) Oj 215 #[(.int .u8 kind),b.v] H R
abbrev GX.sp (d:Option Addr)(name:ByteArray)(page:Int)(b:Sl)(H:aa)(R:Kp Int):=ai (ab .i64) Oj 216 #[(.pointer d),(.string name),(.int .i64 page),b.v] H R
abbrev I4.sp (p:Option Addr)(i:Int)(H:aa)(R:Kp Unit):=ai (aR []) Oj 217 #[(.pointer p),(.int .i64 i)] H R
abbrev Ld.sp (i base:Int)(H:aa)(R:Kp ByteArray):=ai aH Oj 218 #[(.int .i64 i),(.int .i64 base)] H R
abbrev Jf.sp (s:Sl)(H:aa)(R:Kp Int):=ai (ab .i64) Oj 219 #[s.v,(.func (.func Ev.no) #[] #[])] H R
abbrev JS.sp (s:Sl)(cap:Addr)(H:aa)(R:Kp Int):=ai (ab .i64) Oj 219 #[s.v,(.func (.func DE.no) #[] #[(.pointer (some cap))])] H R
abbrev Jo.sp (d:Option Addr)(name:ByteArray)(H:aa)(R:Kp Unit):=ai (aR []) Oj 220 #[(.pointer d),(.string name)] H R
abbrev JH.sp (p:Option Addr)(H:aa)(R:Kp (Option Addr)):=ai aw Oj 221 #[(.pointer p),(.func (.func HE.no) #[] #[]),(.func (.func Hq.no) #[] #[])] H R
abbrev HE.sp (f:Option Addr)(H:aa)(R:Kp Bool):=ai ay Oj 222 #[(.pointer f)] H R
abbrev Hq.sp (a b:Option Addr)(H:aa)(R:Kp Bool):=ai ay Oj 223 #[(.pointer a),(.pointer b)] H R
abbrev HP.sp (b:Sl)(H:aa)(R:Kp Int):=ai (ab .u32) Oj 224 #[b.v] H R
abbrev JN.sp (s:Sl)(H:aa)(R:Kp Bool):=ai ay Oj 225 #[s.v,(.func (.func GS.no) #[] #[])] H R
abbrev GS.sp (c:Int)(H:aa)(R:Kp Bool):=ai ay Oj 226 #[(.int .u8 c)] H R
abbrev Kt.sp (s:Sl)(seq:Value)(H:aa)(R:Kp Sl):=ai ak Oj 227 #[s.v,seq] H R
abbrev FF.sp (l:Nat)(cap:Addr)(H:aa)(R:Kp Unit):=ai (aR []) Oj 228 #[(.func (.yield l) #[] #[]),(.pointer (some cap))] H R
abbrev N2.sp (data:Sl)(a b c:Int)(cmp:Value)(H:aa)(R:Kp Unit):=ai (aR []) Oj 229 #[data.v,(.int .i64 a),(.int .i64 b),(.int .i64 c),cmp] H R
abbrev M8.sp (data:Sl)(lo hi first:Int)(cmp:Value)(H:aa)(R:Kp Unit):=ai (aR []) Oj 230 #[data.v,(.int .i64 lo),(.int .i64 hi),(.int .i64 first),cmp] H R
abbrev No.sp (length:Int)(H:aa)(R:Kp Int):=ai (ab .u64) Oj 231 #[(.int .i64 length)] H R
abbrev N9.sp (r:Option Addr)(H:aa)(R:Kp Int):=ai (ab .u64) Oj 232 #[(.pointer r)] H R
abbrev NQ.sp (data:Sl)(a:Int)(b:Option Addr)(cmp:Value)(H:aa)(R:Kp Int):=ai (ab .i64) Oj 233 #[data.v,(.int .i64 a),(.pointer b),cmp] H R
abbrev NS.sp (data:Sl)(a b c:Int)(d:Option Addr)(cmp:Value)(H:aa)(R:Kp Int):=ai (ab .i64) Oj 234 #[data.v,(.int .i64 a),(.int .i64 b),(.int .i64 c),(.pointer d),cmp] H R
abbrev Ng.sp (data:Sl)(a b:Int)(H:aa)(R:Kp Unit):=ai (aR []) Oj 235 #[data.v,(.int .i64 a),(.int .i64 b)] H R
abbrev NO.sp (data:Sl)(a b:Int)(H:aa)(R:Kp Unit):=ai (aR []) Oj 236 #[data.v,(.int .i64 a),(.int .i64 b)] H R
abbrev Nt.sp (data:Sl)(a b:Int)(H:aa)(R:Kp Unit):=ai (aR []) Oj 237 #[data.v,(.int .i64 a),(.int .i64 b)] H R
abbrev NC.sp (data:Sl)(a b:Int)(H:aa)(R:Kp (Int×Int)):=ai (aR [(ab .i64),(ab .i64)]) Oj 238 #[data.v,(.int .i64 a),(.int .i64 b)] H R
abbrev Nk.sp (data:Sl)(a b:Int)(H:aa)(R:Kp Unit):=ai (aR []) Oj 239 #[data.v,(.int .i64 a),(.int .i64 b)] H R
abbrev Od.sp (data:Sl)(a b:Int)(H:aa)(R:Kp Bool):=ai ay Oj 240 #[data.v,(.int .i64 a),(.int .i64 b)] H R
abbrev Ny.sp (x y:ByteArray)(H:aa)(R:Kp Bool):=ai ay Oj 241 #[(.string x),(.string y)] H R
abbrev Oa.sp (data:Sl)(a b pivot:Int)(H:aa)(R:Kp Int):=ai (ab .i64) Oj 242 #[data.v,(.int .i64 a),(.int .i64 b),(.int .i64 pivot)] H R
abbrev NP.sp (data:Sl)(a b pivot:Int)(H:aa)(R:Kp (Int×Bool)):=ai (aR [(ab .i64),ay]) Oj 243 #[data.v,(.int .i64 a),(.int .i64 b),(.int .i64 pivot)] H R
abbrev Nl.sp (data:Sl)(lo hi first:Int)(H:aa)(R:Kp Unit):=ai (aR []) Oj 244 #[data.v,(.int .i64 lo),(.int .i64 hi),(.int .i64 first)] H R
abbrev NB.sp (data:Sl)(a:Int)(b:Option Addr)(H:aa)(R:Kp Int):=ai (ab .i64) Oj 245 #[data.v,(.int .i64 a),(.pointer b)] H R
abbrev Oi.sp (data:Sl)(a b c:Int)(d:Option Addr)(H:aa)(R:Kp Int):=ai (ab .i64) Oj 246 #[data.v,(.int .i64 a),(.int .i64 b),(.int .i64 c),(.pointer d)] H R
abbrev Kg.sp (d:Option Addr)(name:ByteArray)(H:aa)(R:Kp Int):=ai (ab .i64) Oj 247 #[(.pointer d),(.string name)] H R
abbrev Jh.sp (b:Sl)(H:aa)(R:Kp Int):=ai (ab .u32) Oj 248 #[b.v] H R
abbrev Iq.sp (d:Option Addr)(H:aa)(R:Kp Int):=ai (ab .i64) Oj 249 #[(.pointer d)] H R
abbrev Lr.sp (i:Int)(H:aa)(R:Kp ByteArray):=ai aH Oj 250 #[(.int .i64 i)] H R
abbrev MJ.sp (d:Int)(H:aa)(R:Kp Int):=ai (ab .i64) Oj 251 #[(.int .u64 d)] H R
abbrev MW.sp (a:Sl)(u:Int)(H:aa)(R:Kp Unit):=ai (aR []) Oj 252 #[a.v,(.int .u64 u)] H R
abbrev M1.sp (dst:Sl)(u base:Int)(neg append_:Bool)(H:aa)(R:Kp (Sl×ByteArray)):=ai (aR [ak,aH]) Oj 253 #[dst.v,(.int .u64 u),(.int .i64 base),(.bool neg),(.bool append_)] H R
abbrev KA.sp (s:Sl)(H:aa)(R:Kp Int):=ai (ab .i64) Oj 254 #[s.v,(.func (.func GS.no) #[] #[])] H R
abbrev Nf.sp (data:Sl)(a b:Int)(cmp:Value)(H:aa)(R:Kp Unit):=ai (aR []) Oj 255 #[data.v,(.int .i64 a),(.int .i64 b),cmp] H R
abbrev NK.sp (data:Sl)(a b:Int)(cmp:Value)(H:aa)(R:Kp Unit):=ai (aR []) Oj 256 #[data.v,(.int .i64 a),(.int .i64 b),cmp] H R
abbrev Nw.sp (data:Sl)(a b:Int)(cmp:Value)(H:aa)(R:Kp Unit):=ai (aR []) Oj 257 #[data.v,(.int .i64 a),(.int .i64 b),cmp] H R
abbrev NW.sp (data:Sl)(a b:Int)(cmp:Value)(H:aa)(R:Kp (Int×Int)):=ai (aR [(ab .i64),(ab .i64)]) Oj 258 #[data.v,(.int .i64 a),(.int .i64 b),cmp] H R
abbrev Nh.sp (data:Sl)(a b:Int)(cmp:Value)(H:aa)(R:Kp Unit):=ai (aR []) Oj 259 #[data.v,(.int .i64 a),(.int .i64 b),cmp] H R
abbrev Oc.sp (data:Sl)(a b:Int)(cmp:Value)(H:aa)(R:Kp Bool):=ai ay Oj 260 #[data.v,(.int .i64 a),(.int .i64 b),cmp] H R
abbrev M9.sp (data:Sl)(a b pivot:Int)(cmp:Value)(H:aa)(R:Kp Int):=ai (ab .i64) Oj 261 #[data.v,(.int .i64 a),(.int .i64 b),(.int .i64 pivot),cmp] H R
abbrev N6.sp (data:Sl)(a b pivot:Int)(cmp:Value)(H:aa)(R:Kp (Int×Bool)):=ai (aR [(ab .i64),ay]) Oj 262 #[data.v,(.int .i64 a),(.int .i64 b),(.int .i64 pivot),cmp] H R
abbrev Nq.sp (data:Sl)(a b:Int)(c:Option Addr)(cmp:Value)(H:aa)(R:Kp (Int×Int)):=ai (aR [(ab .i64),(ab .i64)]) Oj 263 #[data.v,(.int .i64 a),(.int .i64 b),(.pointer c),cmp] H R
abbrev Nd.sp (data:Sl)(lo hi first:Int)(H:aa)(R:Kp Unit):=ai (aR []) Oj 264 #[data.v,(.int .i64 lo),(.int .i64 hi),(.int .i64 first)] H R
abbrev N7.sp (data:Sl)(a:Int)(b:Option Addr)(H:aa)(R:Kp Int):=ai (ab .i64) Oj 265 #[data.v,(.int .i64 a),(.pointer b)] H R
abbrev NZ.sp (data:Sl)(a b c:Int)(d:Option Addr)(H:aa)(R:Kp Int):=ai (ab .i64) Oj 266 #[data.v,(.int .i64 a),(.int .i64 b),(.int .i64 c),(.pointer d)] H R
abbrev N0.sp (x:ByteArray)(H:aa)(R:Kp Bool):=ai ay Oj 267 #[(.string x)] H R
abbrev Of.sp (data:Sl)(a b:Int)(c:Option Addr)(H:aa)(R:Kp (Int×Int)):=ai (aR [(ab .i64),(ab .i64)]) Oj 268 #[data.v,(.int .i64 a),(.int .i64 b),(.pointer c)] H R
abbrev Ki.sp (d:Option Addr)(i:Int)(H:aa)(R:Kp Unit):=ai (aR []) Oj 269 #[(.pointer d),(.int .i64 i)] H R
abbrev NH.sp (x:Int)(H:aa)(R:Kp Int):=ai (ab .i64) Oj 270 #[(.int .i64 x)] H R
abbrev ND.sp (b:Bool)(H:aa)(R:Kp Int):=ai (ab .i64) Oj 271 #[(.bool b)] H R
abbrev NT.sp (x:Int)(H:aa)(R:Kp Bool):=ai ay Oj 272 #[(.int .i64 x)] H R
abbrev NF.sp (x:Int)(H:aa)(R:Kp Int):=ai (ab .i64) Oj 273 #[(.int .u64 x)] H R
abbrev NI.sp (data:Sl)(lo hi first:Int)(cmp:Value)(H:aa)(R:Kp Unit):=ai (aR []) Oj 274 #[data.v,(.int .i64 lo),(.int .i64 hi),(.int .i64 first),cmp] H R
abbrev Nx.sp (data:Sl)(a:Int)(b:Option Addr)(cmp:Value)(H:aa)(R:Kp Int):=ai (ab .i64) Oj 275 #[data.v,(.int .i64 a),(.pointer b),cmp] H R
abbrev NL.sp (data:Sl)(a b c:Int)(d:Option Addr)(cmp:Value)(H:aa)(R:Kp Int):=ai (ab .i64) Oj 276 #[data.v,(.int .i64 a),(.int .i64 b),(.int .i64 c),(.pointer d),cmp] H R
abbrev Na.sp (data:Sl)(a b:Int)(c:Option Addr)(H:aa)(R:Kp (Int×Int)):=ai (aR [(ab .i64),(ab .i64)]) Oj 277 #[data.v,(.int .i64 a),(.int .i64 b),(.pointer c)] H R
abbrev Np.sp (x:Int)(H:aa)(R:Kp Int):=ai (ab .i64) Oj 278 #[(.int .u32 x)] H R
abbrev Nv.sp (x:Int)(H:aa)(R:Kp Int):=ai (ab .i64) Oj 279 #[(.int .u64 x)] H R
abbrev N1.sp (data:Sl)(a b:Int)(c:Option Addr)(cmp:Value)(H:aa)(R:Kp (Int×Int)):=ai (aR [(ab .i64),(ab .i64)]) Oj 280 #[data.v,(.int .i64 a),(.int .i64 b),(.pointer c),cmp] H R
def KF.vc (x_ P Q S T U:Int)(a b c which:Sl)(H:aa)(R:Kp Bool):Prop:=
 aJ H #[(.int .i64 x_),(.int .i64 P),(.int .i64 Q),(.int .i64 S),(.int .i64 T),(.int .u64 U)] Ed λp H1=>br ((((decide ((a.n:Int)>200))||(decide ((b.n:Int)>200)))||(decide ((c.n:Int)>200)))||(decide ((which.n:Int)>9))) (R true H1) (c9 (bR [(ab .i64),(ab .i64),(ab .i64),(ab .i64),(ab .i64),(ab .u64)]) 6 H1 p λ(x:(Int×Int×Int×Int×Int×Int))=>Kh.sp x.1 x.2.1 x.2.2.1 x.2.2.2.1 x.2.2.2.2.1 x.2.2.2.2.2 H1 λ(r:(Option Addr×Option Addr×Option Addr×Option Addr)) H2=>aJ H2 #[(.string (O2 #[97])),(.string (O2 #[98])),(.string (O2 #[99])),(.string (O2 #[100]))] dy λe H3=>aJ H3 #[a.v,b.v,c.v] fF λV H4=>ax Int 0 H4 λnext z q=>br (decide (z<3)) ((0<=z/\z<3)/\ld ak q (V.add (z.toNat*1)) λ(rows:Sl)=>(0<=z/\z<4)/\ld aH q (e.add (z.toNat*1)) λ(W:ByteArray)=>ld (ab .i64) q (p.add 3) λ(X:Int)=>Hr.sp r.2.2.1 W X (3:Int) q λ(g:(Option Addr×Int)) Y=>(0<=z/\z<4)/\ld aH Y (e.add (z.toNat*1)) λ(Z:ByteArray)=>ld (ab .i64) Y (p.add 3) λ(af:Int)=>Js.sp r.2.2.2 Z af (3:Int) Y λ(m:(Option Addr×Int)) H7=>br (g.2!=m.2) (R false H7) (br (g.2!=0) (GY.sp H7 λ(an:Bool) H8=>R an H8) (ax Int 0 H7 λh k O=>br (decide (k<(rows.n:Int))) (∃G:aa->Prop,G O/\ae rows.a λa1=>(0<=k/\k<(rows.n:Int))/\ld ak O (a1.add (k.toNat*1)) λ(s:Sl)=>xv.sp g.1 s O λ(a6:Int) t=>G t/\ae rows.a λa7=>(0<=k/\k<(rows.n:Int))/\dt ak G (a7.add (k.toNat*1)) λ(u:Sl)=>CV.sp m.1 u t λ(a8:Int) w=>br (a6 !=a8) (R false w) (h (Ol.wrap (k+1)) w)) (Jy.sp g.1 m.1 O λ(bb:Bool) y=>br (!bb) (R false y) (next (Ol.wrap (z+1)) y))))) (ax (Sl×Int) ((Sl.mk none 0 0),(0:Int)) q λi d n=>br (decide (d.2<(which.n:Int))) (ae which.a λbd=>(0<=d.2/\d.2<(which.n:Int))/\ld (ab .i64) n (bd.add (d.2.toNat*1)) λ(A:Int)=>Hy.sp A (4:Int) n λ(o:Int) B=>(0<=o/\o<4)/\ld aH B (e.add (o.toNat*1)) λ(C:ByteArray)=>aJ B #[(.string C)] dy λbl bn=>bf ak Oj (Oq #[dM,dM] dM #[d.1.v,(.slice (some bl) 1 1)]) bn λ(names:Sl) bs=>i (names,Ol.wrap (d.2+1)) bs) (aJ n #[(.string (O2 #[103])),(.string (O2 #[97]))] dy λbx bA=>ax Int 0 bA λj f l=>br (decide (f<2)) ((0<=f/\f<2)/\ld aH l (bx.add (f.toNat*1)) λ(to:ByteArray)=>ld (ab .i64) l (p.add 3) λ(D:Int)=>Ha.sp r.2.2.1 d.1 to D l λ(E:(Int×Int)) F=>ld (ab .i64) F (p.add 3) λ(I:Int)=>Ey.sp r.2.2.2 d.1 to I F λ(J:(Int×Int)) K=>br ((E.1!=J.1)||(E.2!=J.2)) (R false K) (j (Ol.wrap (f+1)) K)) (IK.sp r.1 r.2.1 r.2.2.1 r.2.2.2 l λ(L:Bool) M=>br L (GY.sp M λ(N:Bool) bB=>R N bB) (R false M)))))
theorem KF.of:∀{i d e f g h a b c which H R},KF.vc i d e f g h a b c which H R->KF.sp i d e f g h a b c which H R:=aU [(6,[(62,(ab .i64))]),(15,[(22,(ab .i64))]),(24,[(23,ak),(24,(ab .i64))]),(28,[(138,(ab .i64))])] (by kernel_rfl)
def Dw.vc (s:Option Addr)(H:aa)(R:Kp (Int×Int)):Prop:=
 HG.sp s H λ(e:Int) H1=>br (e !=0) (R ((0:Int),e) H1) (Jk.sp s H1 λ(r:(Int×Int)) c=>br (r.2!=0) (ae s λa=>st c (a.add 7) (.int .i64 r.2) λd=>R ((0:Int),r.2) d) (ae s λb=>st c (b.add 8) (.bool true) λf=>R (r.1,(0:Int)) f))
theorem Dw.of:∀{s H R},Dw.vc s H R->Dw.sp s H R:=aU [] (by kernel_rfl)
def Hr.vc (p:Option Addr)(name:ByteArray)(width frames:Int)(H:aa)(R:Kp (Option Addr×Int)):Prop:=
 br p.isNone (R (none,(1:Int)) H) (GR.sp width H λ(r:Int) H1=>br (r==0) (R (none,(60:Int)) H1) (br (decide (frames<3)) (br (decide (frames<3)) (R (none,(30:Int)) H1) (aJ H1 #[(.pointer p),(.string name),(.int .i64 width),(.int .i64 frames),(.slice none 0 0),(.slice none 0 0),(.int .i64 0),(.int .i64 0),(.bool false)] wc λa e=>R (some a,(0:Int)) e)) (Kw.sp p H1 λ(b:Int) d=>br (decide (frames>b)) (R (none,(30:Int)) d) (aJ d #[(.pointer p),(.string name),(.int .i64 width),(.int .i64 frames),(.slice none 0 0),(.slice none 0 0),(.int .i64 0),(.int .i64 0),(.bool false)] wc λc f=>R (some c,(0:Int)) f))))
theorem Hr.of:∀{p name width frames H R},Hr.vc p name width frames H R->Hr.sp p name width frames H R:=aU [] (by kernel_rfl)
def Ha.vc (p:Option Addr)(names:Sl)(to:ByteArray)(width:Int)(H:aa)(R:Kp (Int×Int)):Prop:=
 br p.isNone (R ((0:Int),(1:Int)) H) (br ((names.n:Int)==0) (R ((0:Int),(2:Int)) H) (Kk.sp p names width H λ(r:(Sl×Int)) H1=>br (r.2!=0) (R ((0:Int),r.2) H1) (G4.sp p to width H1 λ(c:(Option Addr×Int)) P=>br (c.2!=0) (R ((0:Int),c.2) P) (aJ P #[(.slice none 0 0),(.func (.func DS.no) #[] #[])] LS λf S=>ax Int 0 S λnext z C=>br (decide (z<(r.1.n:Int))) (ae r.1.a λa=>(0<=z/\z<(r.1.n:Int))/\ld aw C (a.add (z.toNat*1)) λ(D:Option Addr)=>G3.sp (some f) z (Sl.mk none 0 0) D C λ(e:Int) Q=>br (e !=0) (R ((0:Int),e) Q) (next (Ol.wrap (z+1)) Q)) (ax (Sl×Bool) ((Sl.mk none 0 0),true) C λg o E=>ld ak E (f.add 0) λ(x:Sl)=>br (decide ((x.n:Int)>0)) (I6.sp (some f) E λ(i:(Int×Sl×Option Addr)) T=>aJ T (zc Oj jZ) jZ λb U=>jo Oj (OI jZ (.pointer (some b)) (.agg #[(.int .i64 i.1),i.2.1.v,(.pointer i.2.2)])) U λB=>cut Unit (λJ=>br o.2 (ld ak B (b.add 1) λ(F:Sl)=>y7.sp c.1 F B λ(q:Int) s=>br (q !=0) (R ((0:Int),q) s) (J () s)) (ld ak B (b.add 1) λ(G:Sl)=>w6.sp G o.1 B λ(I:Int) j=>br (I !=0) (ld ak j (b.add 1) λ(K:Sl)=>y7.sp c.1 K j λ(t:Int) u=>br (t !=0) (R ((0:Int),t) u) (J () u)) (J () j))) λ(_:Unit) k=>ld ak k (b.add 1) λ(last:Sl)=>c9 (bR [(ab .i64),ak,aw]) 3 k b λ(l:(Int×Sl×Option Addr))=>G3.sp (some f) l.1 l.2.1 l.2.2 k λ(w:Int) y=>br (w !=0) (R ((0:Int),w) y) (g (last,false) y)) (ax Int 0 E λh d m=>br (decide (d<(r.1.n:Int))) (ae r.1.a λL=>(0<=d/\d<(r.1.n:Int))/\ld aw m (L.add (d.toNat*1)) λ(M:Option Addr)=>Iy.sp M m λ(_:Unit) N=>h (Ol.wrap (d+1)) N) (Fs.sp c.1 m λ(A:(Int×Int)) O=>R (A.1,A.2) O)))))))
theorem Ha.of:∀{p names to width H R},Ha.vc p names to width H R->Ha.sp p names to width H R:=aU [(13,[(52,(ab .i64))]),(21,[(16,ak),(17,ay)]),(100028,[]),(33,[(99,(ab .i64))])] (by kernel_rfl)
def xv.vc (s:Option Addr)(l:Sl)(H:aa)(R:Kp Int):Prop:=
 HG.sp s H λ(e:Int) H1=>br (e !=0) (R e H1) (ae s λa=>ld (ab .i64) H1 (a.add 2) λ(x:Int)=>br ((l.n:Int)!=x) (R (60:Int) H1) (∃G:aa->Prop,G H1/\ae s λc=>dt ak G (c.add 4) λ(d:Sl)=>G9.sp l H1 λ(r:Sl) z=>G z/\aJ z #[r.v] fG λp A=>G A/\bf ak Oj (Oq #[fF,fF] fF #[d.v,(.slice (some p) 1 1)]) A λ(f:Sl) C=>ae s λg=>st C (g.add 4) f.v λh=>∃b:aa->Prop,b h/\ae s λi=>dt ak b (i.add 4) λ(j:Sl)=>ae s λk=>dt (ab .i64) b (k.add 3) λ(m:Int)=>ae s λn=>ld (ab .i64) h (n.add 2) λ(o:Int)=>GR.sp o h λ(q:Int) t=>b t/\br (decide ((j.n:Int)<(Ol.wrap (m*q)))) (R (0:Int) t) (Ee.sp s t λ(u:Int) D=>ae s λv=>st D (v.add 7) (.int .i64 u) λB=>ae s λw=>ld (ab .i64) B (w.add 7) λ(y:Int)=>R y B)))
theorem xv.of:∀{s l H R},xv.vc s l H R->xv.sp s l H R:=aU [] (by kernel_rfl)
def GY.vc (H:aa)(R:Kp Bool):Prop:=
 HV.sp (20:Int) H λ(d:Option Addr) H1=>HA.sp d (8:Int) H1 λ(r:(Option Addr×Int)) y=>Hr.sp r.1 (O2 #[102]) (1:Int) (3:Int) y λ(b:(Option Addr×Int)) i=>br (b.2!=0) (R false i) (br b.1.isNone (R false i) (aJ i #[(.int .u64 5)] iV λp z=>xv.sp b.1 (Sl.mk (some p) 1 1) z λ(j:Int) u=>br (j !=0) (R false u) (aJ u #[(.int .u64 1)] iV λk A=>xv.sp b.1 (Sl.mk (some k) 1 1) A λ(l:Int) v=>br (l !=0) (R false v) (aJ v #[(.int .u64 5)] iV λm B=>xv.sp b.1 (Sl.mk (some m) 1 1) B λ(o:Int) w=>br (o !=0) (R false w) (Dw.sp b.1 w λ(h:(Int×Int)) q=>Ip.sp r.1 (O2 #[102]) (1:Int) q λ(f:(Option Addr×Int)) g=>br (((h.2!=0)||(f.2!=0))||(h.1!=2)) (R false g) (br f.1.isNone (R false g) (E8.sp f.1 g λ(c:(Sl×Bool×Int)) e=>br (((c.2.2==0)&&c.2.1)&&((c.1.n:Int)==1)) (ae c.1.a λa=>(0<=(0:Int)/\(0:Int)<(c.1.n:Int))/\ld (ab .u64) e (a.add ((0:Int).toNat*1)) λ(x:Int)=>br (x==1) (Ic.sp d e λ(s:Sl) t=>R ((s.n:Int)==1) t) (R false e)) (R false e))))))))
theorem GY.of:∀{H R},GY.vc H R->GY.sp H R:=aU [] (by kernel_rfl)
def Hy.vc (i n:Int)(H:aa)(R:Kp Int):Prop:=
 br (decide (n<1)) (R (0:Int) H) (n≠0/\br (decide ((PE i n)<0)) (R (Ol.wrap ((PE i n)+n)) H) (R (PE i n) H))
theorem Hy.of:∀{i n H R},Hy.vc i n H R->Hy.sp i n H R:=aU [] (by kernel_rfl)
def w6.vc (a b:Sl)(H:aa)(R:Kp Int):Prop:=
 Lc.sp a b H λ(r:Int) H1=>R r H1
theorem w6.of:∀{a b H R},w6.vc a b H R->w6.sp a b H R:=aU [] (by kernel_rfl)
def Kh.vc (w f g h i j:Int)(H:aa)(R:Kp (Option Addr×Option Addr×Option Addr×Option Addr)):Prop:=
 aJ H #[(.int .i64 w),(.int .i64 f),(.int .i64 g),(.int .i64 h),(.int .i64 i),(.int .u64 j)] Ed λp H1=>∃G:aa->Prop,G H1/\ld (ab .i64) H1 (p.add 0) λ(x:Int)=>HV.sp x H1 λ(r:Option Addr) u=>G u/\dt (ab .i64) G (p.add 0) λ(k:Int)=>JU.sp k u λ(n:Option Addr) a=>cut Unit (λJ=>ld (ab .i64) a (p.add 4) λ(l:Int)=>br (decide (l>=0)) (ld (ab .i64) a (p.add 4) λ(m:Int)=>ld (ab .u64) a (p.add 5) λ(o:Int)=>Kz.sp r m o a λ(_:Unit) q=>ld (ab .i64) q (p.add 4) λ(b:Int)=>ld (ab .u64) q (p.add 5) λ(c:Int)=>Ko.sp n b c q λ(_:Unit) y=>J () y) (J () a)) λ(_:Unit) v=>ld (ab .i64) v (p.add 1) λ(d:Int)=>Hy.sp d (12:Int) v λ(e:Int) z=>HA.sp r (Ol.wrap ((8:Int)+e)) z λ(s:(Option Addr×Int)) A=>JT.sp n (Ol.wrap ((8:Int)+e)) A λ(t:(Option Addr×Int)) B=>R (r,n,s.1,t.1) B
theorem Kh.of:∀{f a b c d e H R},Kh.vc f a b c d e H R->Kh.sp f a b c d e H R:=aU [(100005,[])] (by kernel_rfl)
def Js.vc (p:Option Addr)(name:ByteArray)(width frames:Int)(H:aa)(R:Kp (Option Addr×Int)):Prop:=
 br p.isNone (R (none,(1:Int)) H) (BN.sp width H λ(r:Int) H1=>br (r==0) (R (none,(60:Int)) H1) (br (decide (frames<3)) (R (none,(30:Int)) H1) (ae p λa=>ld (ab .i64) H1 (a.add 1) λ(x:Int)=>br (decide (frames>x)) (R (none,(30:Int)) H1) (aJ H1 #[(.pointer p),(.string name),(.int .i64 width),(.int .i64 frames),(.slice none 0 0),(.slice none 0 0),(.int .i64 0),(.int .i64 0),(.bool false)] yY λb c=>R (some b,(0:Int)) c))))
theorem Js.of:∀{p name width frames H R},Js.vc p name width frames H R->Js.sp p name width frames H R:=aU [] (by kernel_rfl)
def IK.vc (d n p m:Option Addr)(H:aa)(R:Kp Bool):Prop:=
 ∃G:aa->Prop,G H/\Ka.sp d H λ(r:Int) H1=>G H1/\ae n λa=>dt (ab .i64) G (a.add 3) λ(x:Int)=>br (r !=x) (R false H1) (Ju.sp d H1 λ(s:Bool) t=>G t/\ae n λu=>dt ay G (u.add 8) λ(v:Bool)=>br (!(s==v)) (R false t) (Jm.sp d t λ(w:Int) y=>G y/\ae n λz=>dt (ab .i64) G (z.add 1) λ(A:Int)=>br (w !=A) (R false y) (J4.sp p y λ(B:Int) C=>G C/\ae m λD=>dt ak G (D.add 2) λ(E:Sl)=>br (B !=(E.n:Int)) (R false C) (JF.sp p C λ(F:Int) V=>JJ.sp m V λ(I:Int) U=>br (F !=I) (R false U) (JR.sp d U λ(_:Unit) W=>Kd.sp n W λ(_:Unit) X=>Ic.sp d X λ(l:Sl) Y=>J6.sp n Y λ(J:Sl) K=>JY.sp l J K λ(L:Bool) k=>br (!L) (R false k) (ax Int 0 k λnext i g=>br (decide (i<(l.n:Int))) (ae l.a λM=>(0<=i/\i<(l.n:Int))/\ld aH g (M.add (i.toNat*1)) λ(N:ByteArray)=>Dh.sp n N g λ(o:(Int×Int)) O=>ax Int 0 O λf j h=>br (decide (j<=o.1)) (ae l.a λP=>(0<=i/\i<(l.n:Int))/\ld aH h (P.add (i.toNat*1)) λ(Q:ByteArray)=>HI.sp d Q j h λ(b:(Sl×Int)) q=>ae l.a λS=>(0<=i/\i<(l.n:Int))/\ld aH q (S.add (i.toNat*1)) λ(T:ByteArray)=>CR.sp n T j q λ(c:(Sl×Int)) e=>br (b.2!=c.2) (R false e) (vU e b.1.a b.1.n λ(str:ByteArray)=>vU e c.1.a c.1.n λ(str_1:ByteArray)=>br (!(str.toList==str_1.toList)) (R false e) (f (Ol.wrap (j+1)) e))) (next (Ol.wrap (i+1)) h)) (R true g)))))))
theorem IK.of:∀{d n p m H R},IK.vc d n p m H R->IK.sp d n p m H R:=aU [(9,[(10,(ab .i64))]),(13,[(13,(ab .i64))])] (by kernel_rfl)
def CV.vc (s:Option Addr)(l:Sl)(H:aa)(R:Kp Int):Prop:=
 Hz.sp s H λ(e:Int) H1=>br (e !=0) (R e H1) (ae s λa=>ld (ab .i64) H1 (a.add 2) λ(x:Int)=>br ((l.n:Int)!=x) (R (60:Int) H1) (bf ak Oj (Oq #[fG,fG] fG #[(.slice none 0 0),l.v]) H1 λ(own:Sl) t=>ae s λb=>ld ak t (b.add 4) λ(c:Sl)=>aJ t #[own.v] fG λp u=>bf ak Oj (Oq #[fF,fF] fF #[c.v,(.slice (some p) 1 1)]) u λ(d:Sl) v=>ae s λf=>st v (f.add 4) d.v λg=>∃G:aa->Prop,G g/\ae s λh=>dt ak G (h.add 4) λ(i:Sl)=>ae s λj=>dt (ab .i64) G (j.add 3) λ(k:Int)=>ae s λm=>ld (ab .i64) g (m.add 2) λ(n:Int)=>BN.sp n g λ(r:Int) o=>G o/\br (decide ((i.n:Int)<(Ol.wrap (k*r)))) (R (0:Int) o) (Gr.sp s o λ(q:Int) w=>R q w)))
theorem CV.of:∀{s l H R},CV.vc s l H R->CV.sp s l H R:=aU [] (by kernel_rfl)
def Jy.vc (s t:Option Addr)(H:aa)(R:Kp Bool):Prop:=
 Dw.sp s H λ(r:(Int×Int)) H1=>DV.sp t H1 λ(a:(Int×Int)) b=>R ((r.1==a.1)&&(r.2==a.2)) b
theorem Jy.of:∀{s t H R},Jy.vc s t H R->Jy.sp s t H R:=aU [] (by kernel_rfl)
def Ey.vc (p:Option Addr)(names:Sl)(to:ByteArray)(width:Int)(H:aa)(R:Kp (Int×Int)):Prop:=
 br p.isNone (R ((0:Int),(1:Int)) H) (br ((names.n:Int)==0) (R ((0:Int),(2:Int)) H) (ax (Sl×Int) ((Sl.mk none 0 0),(0:Int)) H λnext z H1=>br (decide (z.2<(names.n:Int))) (ae names.a λa=>(0<=z.2/\z.2<(names.n:Int))/\ld aH H1 (a.add (z.2.toNat*1)) λ(x:ByteArray)=>He.sp p x width H1 λ(r:(Option Addr×Int)) H2=>br (r.2!=0) (R ((0:Int),r.2) H2) (aJ H2 #[(.pointer r.1)] Mk λE H3=>bf ak Oj (Oq #[Ls,Ls] Ls #[z.1.v,(.slice (some E) 1 1)]) H3 λ(l:Sl) H4=>next (l,Ol.wrap (z.2+1)) H4)) (Ht.sp p to width H1 λ(g:(Option Addr×Int)) H5=>br (g.2!=0) (R ((0:Int),g.2) H5) (ax (Sl×Sl×Int) ((Sl.mk none 0 0),(Sl.mk none 0 0),(0:Int)) H5 λh c F=>br (decide (c.2.2<(z.1.n:Int))) (ae z.1.a λG=>(0<=c.2.2/\c.2.2<(z.1.n:Int))/\ld aw F (G.add (c.2.2.toNat*1)) λ(I:Option Addr)=>Ce.sp I F λ(i:(Sl×Bool×Int)) H7=>br (i.2.2!=0) (R ((0:Int),i.2.2) H7) (aJ H7 #[i.1.v] fG λK H8=>bf ak Oj (Oq #[fF,fF] fF #[c.1.v,(.slice (some K) 1 1)]) H8 λ(kT:Sl) H9=>aJ H9 #[(.bool i.2.1)] Lm λL M=>bf ak Oj (Oq #[Lf,Lf] Lf #[c.2.1.v,(.slice (some L) 1 1)]) M λ(is:Sl) N=>h (kT,is,Ol.wrap (c.2.2+1)) N)) (ax Unit () F λj _ O=>ax (Int×Int) ((-1:Int),(0:Int)) O λf b d=>br (decide (b.2<(z.1.n:Int))) (ae c.2.1.a λP=>(0<=b.2/\b.2<(c.2.1.n:Int))/\ld ay d (P.add (b.2.toNat*1)) λ(Q:Bool)=>br (Q==true) (br (decide (b.1<0)) (f (b.2,Ol.wrap (b.2+1)) d) (ae c.1.a λS=>(0<=b.2/\b.2<(c.1.n:Int))/\ld ak d (S.add (b.2.toNat*1)) λ(T:Sl)=>ae c.1.a λU=>(0<=b.1/\b.1<(c.1.n:Int))/\ld ak d (U.add (b.1.toNat*1)) λ(V:Sl)=>Az.sp T V d λ(W:Int) o=>br (decide (W<0)) (f (b.2,Ol.wrap (b.2+1)) o) (f (b.1,Ol.wrap (b.2+1)) o))) (f (b.1,Ol.wrap (b.2+1)) d)) (br (decide (b.1<0)) (Hc.sp g.1 d λ(q:(Int×Int)) X=>R (q.1,q.2) X) (cut Unit (λJ=>ae g.1 λY=>ld (ab .i64) d (Y.add 8) λ(Z:Int)=>br (Z==0) (ae c.1.a λaf=>(0<=b.1/\b.1<(c.1.n:Int))/\ld ak d (af.add (b.1.toNat*1)) λ(an:Sl)=>Bb.sp g.1 an d λ(e:Int) s=>br (e !=0) (R ((0:Int),e) s) (J () s)) (ae c.1.a λa1=>(0<=b.1/\b.1<(c.1.n:Int))/\ld ak d (a1.add (b.1.toNat*1)) λ(a6:Sl)=>ae g.1 λa7=>ld ak d (a7.add 7) λ(a8:Sl)=>Az.sp a6 a8 d λ(bb:Int) m=>br (bb !=0) (ae c.1.a λbd=>(0<=b.1/\b.1<(c.1.n:Int))/\ld ak m (bd.add (b.1.toNat*1)) λ(bl:Sl)=>Bb.sp g.1 bl m λ(t:Int) u=>br (t !=0) (R ((0:Int),t) u) (J () u)) (J () m))) λ(_:Unit) w=>ae z.1.a λy=>(0<=b.1/\b.1<(z.1.n:Int))/\ld aw w (y.add (b.1.toNat*1)) λ(A:Option Addr)=>Ce.sp A w λ(k:(Sl×Bool×Int)) B=>br (k.2.2!=0) (R ((0:Int),k.2.2) B) (ae c.1.a λC=>(0<=b.1/\b.1<(c.1.n:Int))/\st B (C.add (b.1.toNat*1)) k.1.v λbn=>ae c.2.1.a λD=>(0<=b.1/\b.1<(c.2.1.n:Int))/\st bn (D.add (b.1.toNat*1)) (.bool k.2.1) λbs=>j () bs))))))))
theorem Ey.of:∀{p names to width H R},Ey.vc p names to width H R->Ey.sp p names to width H R:=aU [(7,[(10,ak),(11,(ab .i64))]),(19,[(16,ak),(17,ak),(18,(ab .i64))]),(26,[]),(28,[(22,(ab .i64)),(23,(ab .i64))]),(100038,[])] (by kernel_rfl)
def HV.vc (quota:Int)(H:aa)(R:Kp (Option Addr)):Prop:=
 Fx H λm H1=>aJ H1 #[(.map (some m)),(.int .i64 0),(.int .i64 0),(.int .i64 (if (1048576:Int)<(if (0:Int)>quota then (0:Int) else quota) then (1048576:Int) else (if (0:Int)>quota then (0:Int) else quota))),(.int .i64 0),(.int .i64 0),(.bool false),(.int .i64 0),(.int .u64 0),(.bool false)] xB λp a=>R (some p) a
theorem HV.of:∀{quota H R},HV.vc quota H R->HV.sp quota H R:=aU [] (by kernel_rfl)
def HA.vc (d:Option Addr)(frames:Int)(H:aa)(R:Kp (Option Addr×Int)):Prop:=
 br d.isNone (R (none,(1:Int)) H) (br (decide (frames<8)) (R (none,(30:Int)) H) (br (decide (frames>4096)) (R (none,(3:Int)) H) (Fx H λm H1=>Fx H1 λa b=>aJ b #[(.pointer d),(.int .i64 frames),(.map (some m)),(.map (some a)),(.int .i64 1),(.int .i64 0),(.int .i64 0),(.int .i64 0)] CL λp c=>R (some p,(0:Int)) c)))
theorem HA.of:∀{d frames H R},HA.vc d frames H R->HA.sp d frames H R:=aU [] (by kernel_rfl)
def HG.vc (s:Option Addr)(H:aa)(R:Kp Int):Prop:=
 br s.isNone (R (1:Int) H) (ae s λa=>ld (ab .i64) H (a.add 7) λ(x:Int)=>br (x !=0) (ae s λb=>ld (ab .i64) H (b.add 7) λ(c:Int)=>R c H) (ae s λd=>ld ay H (d.add 8) λ(e:Bool)=>br e (R (2:Int) H) (R (0:Int) H)))
theorem HG.of:∀{s H R},HG.vc s H R->HG.sp s H R:=aU [] (by kernel_rfl)
def Jk.vc (s:Option Addr)(H:aa)(R:Kp (Int×Int)):Prop:=
 cut Unit (λJ=>ae s λa=>ld ak H (a.add 4) λ(x:Sl)=>br (decide ((x.n:Int)>0)) (Ee.sp s H λ(e:Int) D=>br (e !=0) (R ((0:Int),e) D) (J () D)) (ae s λf=>ld ak H (f.add 5) λ(g:Sl)=>br ((g.n:Int)==0) (Ee.sp s H λ(c:Int) E=>br (c !=0) (R ((0:Int),c) E) (J () E)) (J () H))) λ(_:Unit) H1=>ax Unit () H1 λnext _ b=>ae s λh=>ld ak b (h.add 5) λ(i:Sl)=>ae s λj=>ld (ab .i64) b (j.add 3) λ(k:Int)=>br (decide ((i.n:Int)>=k)) (It.sp s b λ(to:ByteArray) F=>ae s λl=>ld (ab .i64) F (l.add 3) λ(m:Int)=>HS.sp s (Ol.wrap (m - 1)) to F λ(r:(Int×Int)) n=>br (r.2!=0) (R ((0:Int),r.2) n) (ae s λo=>ld ak n (o.add 5) λ(q:Sl)=>JV.sp q n λ(t:Sl) G=>aJ G #[(.string to)] dy λp I=>bf ak Oj (Oq #[dM,dM] dM #[t.v,(.slice (some p) 1 1)]) I λ(u:Sl) K=>ae s λv=>st K (v.add 5) u.v λw=>next () w)) (ae s λy=>ld ak b (y.add 5) λ(z:Sl)=>ae s λA=>ld aH b (A.add 1) λ(B:ByteArray)=>HS.sp s (z.n:Int) B b λ(d:(Int×Int)) C=>R (d.1,d.2) C)
theorem Jk.of:∀{s H R},Jk.vc s H R->Jk.sp s H R:=aU [(100005,[]),(5,[])] (by kernel_rfl)
def GR.vc (width:Int)(H:aa)(R:Kp Int):Prop:=
 Ih.sp width H λ(n:Int) H1=>br (decide (n>0)) (n≠0/\R (Ol.wrap (Pe (504:Int) n)) H1) (R (0:Int) H1)
theorem GR.of:∀{width H R},GR.vc width H R->GR.sp width H R:=aU [] (by kernel_rfl)
def Kw.vc (p:Option Addr)(H:aa)(R:Kp Int):Prop:=
 br p.isNone (R (0:Int) H) (ae p λa=>ld (ab .i64) H (a.add 1) λ(x:Int)=>R x H)
theorem Kw.of:∀{p H R},Kw.vc p H R->Kw.sp p H R:=aU [] (by kernel_rfl)
def Kk.vc (p:Option Addr)(names:Sl)(width:Int)(H:aa)(R:Kp (Sl×Int)):Prop:=
 ax (Sl×Int) ((Sl.mk none 0 0),(0:Int)) H λnext z H1=>br (decide (z.2<(names.n:Int))) (ae names.a λa=>(0<=z.2/\z.2<(names.n:Int))/\ld aH H1 (a.add (z.2.toNat*1)) λ(s:ByteArray)=>Ip.sp p s width H1 λ(r:(Option Addr×Int)) c=>br (r.2!=0) (R ((Sl.mk none 0 0),r.2) c) (aJ c #[(.pointer r.1)] MC λb d=>bf ak Oj (Oq #[Mi,Mi] Mi #[z.1.v,(.slice (some b) 1 1)]) d λ(l:Sl) e=>next (l,Ol.wrap (z.2+1)) e)) (R (z.1,(0:Int)) H1)
theorem Kk.of:∀{p names width H R},Kk.vc p names width H R->Kk.sp p names width H R:=aU [(3,[(8,ak),(15,(ab .i64))])] (by kernel_rfl)
def G4.vc (p:Option Addr)(name:ByteArray)(width:Int)(H:aa)(R:Kp (Option Addr×Int)):Prop:=
 Iv.sp p name width H λ(r:((Option Addr×ByteArray×Int×Int×Int×Bool)×Int)) H1=>aJ H1 (zc Oj rf) rf λb s=>jo Oj (OI rf (.pointer (some b)) (.agg #[(.pointer r.1.1),(.string r.1.2.1),(.int .i64 r.1.2.2.1),(.int .i64 r.1.2.2.2.1),(.int .i64 r.1.2.2.2.2.1),(.bool r.1.2.2.2.2.2)])) s λf=>br (r.2==0) (Hl.sp p f λ(g:Option Addr) t=>JQ.sp g name t λ(e:Int) q=>cut Int (λJ=>br (e==0) (G5.sp (some b) (0:Int) (Sl.mk none 0 0) q λ(h:Int) u=>J h u) (J e q)) λ(z:Int) i=>br (z !=0) (R (none,z) i) (c9 (bR [aw,aH,(ab .i64),(ab .i64),(ab .i64),ay]) 6 i b λ(x:(Option Addr×ByteArray×Int×Int×Int×Bool))=>aJ i #[(.pointer x.1),(.string x.2.1),(.int .i64 x.2.2.1),(.int .i64 x.2.2.2.1),(.int .i64 x.2.2.2.2.1),(.bool x.2.2.2.2.2),(.slice none 0 0),(.int .i64 0),(.slice none 0 0),(.int .i64 0)] GN λj v=>R (some j,(0:Int)) v)) (cut Int (λc=>br (r.2==0) (G5.sp (some b) (0:Int) (Sl.mk none 0 0) f λ(k:Int) l=>c k l) (c r.2 f)) λ(d:Int) m=>br (d !=0) (R (none,d) m) (c9 (bR [aw,aH,(ab .i64),(ab .i64),(ab .i64),ay]) 6 m b λ(a:(Option Addr×ByteArray×Int×Int×Int×Bool))=>aJ m #[(.pointer a.1),(.string a.2.1),(.int .i64 a.2.2.1),(.int .i64 a.2.2.2.1),(.int .i64 a.2.2.2.2.1),(.bool a.2.2.2.2.2),(.slice none 0 0),(.int .i64 0),(.slice none 0 0),(.int .i64 0)] GN λn o=>R (some n,(0:Int)) o))
theorem G4.of:∀{p name width H R},G4.vc p name width H R->G4.sp p name width H R:=aU [(100006,[(9,(ab .i64))]),(100006,[(9,(ab .i64))])] (by kernel_rfl)
def DS.vc (l:Int)(d:Sl)(e:Option Addr)(m:Int)(f:Sl)(g:Option Addr)(H:aa)(R:Kp Bool):Prop:=
 aJ H #[(.int .i64 l),d.v,(.pointer e)] jZ λp H1=>aJ H1 #[(.int .i64 m),f.v,(.pointer g)] jZ λa h=>ld ak h (p.add 1) λ(x:Sl)=>ld ak h (a.add 1) λ(i:Sl)=>w6.sp x i h λ(c:Int) b=>br ((decide (c<0))==false) (br (c==0) (ld (ab .i64) b (p.add 0) λ(j:Int)=>ld (ab .i64) b (a.add 0) λ(k:Int)=>R (decide (j<k)) b) (R false b)) (R true b)
theorem DS.of:∀{e a b f c d H R},DS.vc e a b f c d H R->DS.sp e a b f c d H R:=aU [] (by kernel_rfl)
def G3.vc (h:Option Addr)(f:Int)(b:Sl)(c:Option Addr)(H:aa)(R:Kp Int):Prop:=
 aJ H #[(.int .i64 f),b.v,(.pointer c)] jZ λp H1=>ld aw H1 (p.add 2) λ(x:Option Addr)=>E8.sp x H1 λ(r:(Sl×Bool×Int)) a=>br ((r.2.2==0)&&r.2.1) (ld (ab .i64) a (p.add 0) λ(d:Int)=>ld aw a (p.add 2) λ(e:Option Addr)=>JO.sp h d r.1 e a λ(_:Unit) g=>R r.2.2 g) (R r.2.2 a)
theorem G3.of:∀{h c a b H R},G3.vc h c a b H R->G3.sp h c a b H R:=aU [] (by kernel_rfl)
def I6.vc (h:Option Addr)(H:aa)(R:Kp (Int×Sl×Option Addr)):Prop:=
 aJ H (zc Oj jZ) jZ λp H1=>∃G:aa->Prop,G H1/\ae h λa=>dt ak G (a.add 0) λ(x:Sl)=>ae x.a λT=>(0<=(0:Int)/\(0:Int)<(x.n:Int))/\Lj (bR [(ab .i64),ak,aw]) 3 G (T.add ((0:Int).toNat*3)) λ(s:(Int×Sl×Option Addr))=>ae h λU=>dt ak G (U.add 0) λ(d:Sl)=>aJ H1 (zc Oj jZ) jZ λw H2=>G H2/\jo Oj (OI jZ (.pointer (some w)) (.agg #[(.int .i64 s.1),s.2.1.v,(.pointer s.2.2)])) H2 λA=>G A/\ae h λV=>ld ak A (V.add 0) λ(B:Sl)=>ae h λW=>ld ak A (W.add 0) λ(C:Sl)=>ae C.a λX=>(0<=(Ol.wrap ((d.n:Int) - 1))/\(Ol.wrap ((d.n:Int) - 1))<(C.n:Int))/\c9 (bR [(ab .i64),ak,aw]) 3 A (X.add ((Ol.wrap ((d.n:Int) - 1)).toNat*3)) λ(t:(Int×Sl×Option Addr))=>ae B.a λY=>(0<=(0:Int)/\(0:Int)<(B.n:Int))/\jo Oj (OI jZ (.pointer (some (Y.add ((0:Int).toNat*3)))) (.agg #[(.int .i64 t.1),t.2.1.v,(.pointer t.2.2)])) A λH4=>ae h λZ=>ld ak H4 (Z.add 0) λ(k:Sl)=>(0<=(Ol.wrap ((d.n:Int) - 1))/\(Ol.wrap ((d.n:Int) - 1))<=(k.c:Int))/\ae h λaf=>st H4 (af.add 0) (.slice (cE k.a k.c 0 3) (((Ol.wrap ((d.n:Int) - 1)).toNat) - 0) (k.c - 0)) λH5=>ax Int 0 H5 λnext i H6=>ax (Int×Int) (i,(0:Int)) H6 λb z c=>br (decide (z.2<2)) (rY (ab .i64) Oj (Instr.index MT (.agg #[(.int .i64 (Ol.wrap ((Ol.wrap ((2:Int)*i))+1))),(.int .i64 (Ol.wrap ((Ol.wrap ((2:Int)*i))+2)))]) (.int .i64 z.2)) λ(y:Int)=>br (decide (y<(Ol.wrap ((d.n:Int) - 1)))) (ae h λan=>ld gn c (an.add 1) λ(a1:Value)=>ae h λD=>ld ak c (D.add 0) λ(E:Sl)=>ae E.a λF=>(0<=y/\y<(E.n:Int))/\c9 (bR [(ab .i64),ak,aw]) 3 c (F.add (y.toNat*3)) λ(u:(Int×Sl×Option Addr))=>ae h λI=>ld ak c (I.add 0) λ(l:Sl)=>ae l.a λJ=>(0<=z.1/\z.1<(l.n:Int))/\c9 (bR [(ab .i64),ak,aw]) 3 c (J.add (z.1.toNat*3)) λ(e:(Int×Sl×Option Addr))=>yI Oj a1 [(.agg #[(.int .i64 u.1),u.2.1.v,(.pointer u.2.2)]),(.agg #[(.int .i64 e.1),e.2.1.v,(.pointer e.2.2)])] c λ(r:Bool) H8=>br r (b (y,Ol.wrap (z.2+1)) H8) (b (z.1,Ol.wrap (z.2+1)) H8)) (b (z.1,Ol.wrap (z.2+1)) c)) (br (z.1==i) (c9 (bR [(ab .i64),ak,aw]) 3 c w λ(f:(Int×Sl×Option Addr))=>jo Oj (OI jZ (.pointer (some p)) (.agg #[(.int .i64 f.1),f.2.1.v,(.pointer f.2.2)])) c λH9=>c9 (bR [(ab .i64),ak,aw]) 3 H9 p λ(res:(Int×Sl×Option Addr))=>R (res.1,res.2.1,res.2.2) H9) (ae h λK=>ld ak c (K.add 0) λ(m:Sl)=>ae h λL=>ld ak c (L.add 0) λ(n:Sl)=>ae h λM=>ld ak c (M.add 0) λ(o:Sl)=>ae o.a λN=>(0<=z.1/\z.1<(o.n:Int))/\c9 (bR [(ab .i64),ak,aw]) 3 c (N.add (z.1.toNat*3)) λ(g:(Int×Sl×Option Addr))=>ae h λO=>ld ak c (O.add 0) λ(q:Sl)=>ae q.a λP=>(0<=i/\i<(q.n:Int))/\c9 (bR [(ab .i64),ak,aw]) 3 c (P.add (i.toNat*3)) λ(j:(Int×Sl×Option Addr))=>ae m.a λQ=>(0<=i/\i<(m.n:Int))/\jo Oj (OI jZ (.pointer (some (Q.add (i.toNat*3)))) (.agg #[(.int .i64 g.1),g.2.1.v,(.pointer g.2.2)])) c λa6=>ae n.a λS=>(0<=z.1/\z.1<(n.n:Int))/\jo Oj (OI jZ (.pointer (some (S.add (z.1.toNat*3)))) (.agg #[(.int .i64 j.1),j.2.1.v,(.pointer j.2.2)])) a6 λa7=>next z.1 a7))
theorem I6.of:∀{h H R},I6.vc h H R->I6.sp h H R:=aU [(5,[(5,(ab .i64))]),(7,[(6,(ab .i64)),(50,(ab .i64))])] (by kernel_rfl)
def y7.vc (w:Option Addr)(l:Sl)(H:aa)(R:Kp Int):Prop:=
 br w.isNone (R (1:Int) H) (ae w λa=>G2.sp (some (a.add 0)) H λ(e:Int) H1=>br (e !=0) (R e H1) (cut Unit (λJ=>ae w λg=>ld (ab .i64) H1 ((g.add 0).add 2) λ(x:Int)=>br ((l.n:Int)!=x) (R (60:Int) H1) (ae w λh=>ld (ab .i64) H1 (h.add 9) λ(i:Int)=>br (decide (i>0)) (ae w λj=>ld ak H1 (j.add 8) λ(k:Sl)=>w6.sp l k H1 λ(r:Int) F=>br (decide (r<=0)) (R (70:Int) F) (J () F)) (J () H1))) λ(_:Unit) I=>∃G:aa->Prop,G I/\ae w λm=>dt ak G (m.add 6) λ(n:Sl)=>Ag.sp l I λ(o:Sl) K=>G K/\bf ak Oj (Oq #[dS,dS] dS #[n.v,o.v]) K λ(s:Sl) N=>ae w λp=>st N (p.add 6) s.v λO=>G9.sp l O λ(q:Sl) P=>ae w λt=>st P (t.add 8) q.v λL=>ae w λu=>ld (ab .i64) L (u.add 9) λ(v:Int)=>ae w λy=>st L (y.add 9) (.int .i64 (Ol.wrap (v+1))) λM=>ae w λz=>ld (ab .i64) M (z.add 7) λ(A:Int)=>ae w λc=>st M (c.add 7) (.int .i64 (Ol.wrap (A+1))) λb=>ae w λd=>ld (ab .i64) b (d.add 7) λ(B:Int)=>ae w λf=>ld (ab .i64) b ((f.add 0).add 3) λ(C:Int)=>br (decide (B<C)) (R (0:Int) b) (I7.sp w b λ(D:Int) E=>R D E)))
theorem y7.of:∀{w l H R},y7.vc w l H R->y7.sp w l H R:=aU [(100010,[])] (by kernel_rfl)
def Iy.vc (r:Option Addr)(H:aa)(R:Kp Unit):Prop:=
 br (!r.isNone) (ae r λa=>st H ((a.add 0).add 5) (.bool true) λH1=>R () H1) (R () H)
theorem Iy.of:∀{r H R},Iy.vc r H R->Iy.sp r H R:=aU [] (by kernel_rfl)
def Fs.vc (w:Option Addr)(H:aa)(R:Kp (Int×Int)):Prop:=
 br w.isNone (R ((0:Int),(1:Int)) H) (ae w λa=>G2.sp (some (a.add 0)) H λ(e:Int) H1=>br (e==0) (I7.sp w H1 λ(t:Int) H2=>br (t !=0) (R ((0:Int),t) H2) (ae w λcy=>ld aw H2 ((cy.add 0).add 0) λ(x:Option Addr)=>ae w λcz=>ld aH H2 ((cz.add 0).add 1) λ(cB:ByteArray)=>G7.sp x cB (0:Int) H2 λ(r:(Int×Int)) H3=>cut Int (λJ=>br (r.2==0) (∃G:aa->Prop,G H3/\ae w λc0=>dt aw G ((c0.add 0).add 0) λ(l:Option Addr)=>ae w λc3=>dt (ab .i64) G ((c3.add 0).add 2) λ(m:Int)=>ae w λc4=>dt (ab .i64) G (c4.add 9) λ(u:Int)=>(aJ H3 #[(.int .u8 (Pn.wrap m))] fD λp H5=>G H5/\aJ H5 #[(.int .u64 (OW.wrap u))] iV λc5 H6=>G H6/\Ag.sp (Sl.mk (some c5) 1 1) H6 λ(dc:Sl) H7=>G H7/\bf ak Oj (Oq #[dS,dS] dS #[(.slice (some p) 1 1),dc.v]) H7 λ(s:Sl) H8=>G H8/\Ak.sp l r.1 (2:Int) s H8 λ(dk:Int) H9=>G H9/\J dk H9)/\(aJ H3 #[(.int .u64 (OW.wrap u))] iV λv n=>G n/\(aJ n #[(.int .u8 (Pn.wrap m))] fD λdm y=>G y/\Ag.sp (Sl.mk (some v) 1 1) y λ(dn:Sl) A=>G A/\bf ak Oj (Oq #[dS,dS] dS #[(.slice (some dm) 1 1),dn.v]) A λ(dA:Sl) B=>G B/\Ak.sp l r.1 (2:Int) dA B λ(dB:Int) C=>G C/\J dB C)/\(Ag.sp (Sl.mk (some v) 1 1) n λ(dD:Sl) D=>G D/\aJ D #[(.int .u8 (Pn.wrap m))] fD λdT E=>G E/\bf ak Oj (Oq #[dS,dS] dS #[(.slice (some dT) 1 1),dD.v]) E λ(ea:Sl) F=>G F/\Ak.sp l r.1 (2:Int) ea F λ(eb:Int) I=>G I/\J eb I))) (J r.2 H3)) λ(z:Int) H4=>cut Int (λK=>br (z==0) (ae w λec=>ld aw H4 ((ec.add 0).add 0) λ(ed:Option Addr)=>DN.sp ed r.1 H4 λ(ee:Int) eg=>K ee eg) (K z H4)) λ(L:Int) g=>cut Int (λM=>br (L==0) (ae w λei=>ld aw g ((ei.add 0).add 0) λ(ej:Option Addr)=>ae w λek=>ld aH g ((ek.add 0).add 1) λ(en:ByteArray)=>IL.sp ej en g λ(eo:Int) ep=>M eo ep) (M L g)) λ(N:Int) er=>ae w λet=>Ca.sp (some (et.add 0)) N er λ(eu:Int) O=>br (eu !=0) (R ((0:Int),N) O) (ae w λP=>st O ((P.add 0).add 5) (.bool true) λQ=>ae w λS=>ld (ab .i64) Q (S.add 9) λ(ev:Int)=>R (ev,(0:Int)) Q))) (br (e !=0) (R ((0:Int),e) H1) (ae w λT=>ld aw H1 ((T.add 0).add 0) λ(ew:Option Addr)=>ae w λU=>ld aH H1 ((U.add 0).add 1) λ(V:ByteArray)=>G7.sp ew V (0:Int) H1 λ(c:(Int×Int)) h=>cut Int (λi=>br (c.2==0) (∃b:aa->Prop,b h/\ae w λW=>dt aw b ((W.add 0).add 0) λ(d:Option Addr)=>ae w λX=>dt (ab .i64) b ((X.add 0).add 2) λ(f:Int)=>ae w λY=>dt (ab .i64) b (Y.add 9) λ(k:Int)=>(aJ h #[(.int .u8 (Pn.wrap f))] fD λey Z=>b Z/\aJ Z #[(.int .u64 (OW.wrap k))] iV λeA af=>b af/\Ag.sp (Sl.mk (some eA) 1 1) af λ(eB:Sl) an=>b an/\bf ak Oj (Oq #[dS,dS] dS #[(.slice (some ey) 1 1),eB.v]) an λ(eC:Sl) a1=>b a1/\Ak.sp d c.1 (2:Int) eC a1 λ(eD:Int) a6=>b a6/\i eD a6)/\(aJ h #[(.int .u64 (OW.wrap k))] iV λa7 o=>b o/\(aJ o #[(.int .u8 (Pn.wrap f))] fD λeE a8=>b a8/\Ag.sp (Sl.mk (some a7) 1 1) a8 λ(eI:Sl) bb=>b bb/\bf ak Oj (Oq #[dS,dS] dS #[(.slice (some eE) 1 1),eI.v]) bb λ(eW:Sl) bd=>b bd/\Ak.sp d c.1 (2:Int) eW bd λ(e0:Int) bl=>b bl/\i e0 bl)/\(Ag.sp (Sl.mk (some a7) 1 1) o λ(e1:Sl) bn=>b bn/\aJ bn #[(.int .u8 (Pn.wrap f))] fD λe3 bs=>b bs/\bf ak Oj (Oq #[dS,dS] dS #[(.slice (some e3) 1 1),e1.v]) bs λ(e4:Sl) bx=>b bx/\Ak.sp d c.1 (2:Int) e4 bx λ(e5:Int) bA=>b bA/\i e5 bA))) (i c.2 h)) λ(bB:Int) q=>cut Int (λbC=>br (bB==0) (ae w λbD=>ld aw q ((bD.add 0).add 0) λ(bM:Option Addr)=>DN.sp bM c.1 q λ(bN:Int) e6=>bC bN e6) (bC bB q)) λ(bO:Int) j=>cut Int (λb0=>br (bO==0) (ae w λb1=>ld aw j ((b1.add 0).add 0) λ(b2:Option Addr)=>ae w λb3=>ld aH j ((b3.add 0).add 1) λ(b4:ByteArray)=>IL.sp b2 b4 j λ(b5:Int) e7=>b0 b5 e7) (b0 bO j)) λ(b6:Int) e8=>ae w λb7=>Ca.sp (some (b7.add 0)) b6 e8 λ(e9:Int) b9=>br (e9 !=0) (R ((0:Int),b6) b9) (ae w λcb=>st b9 ((cb.add 0).add 5) (.bool true) λck=>ae w λcm=>ld (ab .i64) ck (cm.add 9) λ(cx:Int)=>R (cx,(0:Int)) ck))))
theorem Fs.of:∀{w H R},Fs.vc w H R->Fs.sp w H R:=aU [(100011,[(4,(ab .i64))]),(300010,[(12,ay),(20,ay)]),(100013,[(4,(ab .i64))]),(100015,[(4,(ab .i64))]),(100011,[(4,(ab .i64))]),(100013,[(4,(ab .i64))]),(100015,[(4,(ab .i64))])] (by kernel_rfl)
def G9.vc (s:Sl)(H:aa)(R:Kp Sl):Prop:=
 br s.a.isNone (R (Sl.mk none 0 0) H) (aJ H #[] iV λp H1=>bf ak Oj (Oq #[fG,fG] fG #[(.slice (some p) 0 0),s.v]) H1 λ(a:Sl) b=>R a b)
theorem G9.of:∀{s H R},G9.vc s H R->G9.sp s H R:=aU [] (by kernel_rfl)
def Ee.vc (s:Option Addr)(H:aa)(R:Kp Int):Prop:=
 ae s λa=>ld ak H (a.add 4) λ(x:Sl)=>MR.sp x (.func (.func w6.no) #[] #[]) H λ(_:Unit) H1=>ae s λd=>ld ak H1 (d.add 4) λ(f:Sl)=>JP.sp f H1 λ(l:Sl) C=>It.sp s C λ(name:ByteArray) A=>ae s λg=>ld ak A (g.add 5) λ(h:Sl)=>aJ A #[(.string name)] dy λp D=>bf ak Oj (Oq #[dM,dM] dM #[h.v,(.slice (some p) 1 1)]) D λ(i:Sl) E=>ae s λj=>st E (j.add 4) (.slice none 0 0) λF=>ae s λk=>st F (k.add 5) i.v λm=>ae s λn=>ld aw m (n.add 0) λ(o:Option Addr)=>ae s λq=>ld (ab .i64) m (q.add 2) λ(r:Int)=>G4.sp o name r m λ(b:(Option Addr×Int)) B=>br (b.2!=0) (R b.2 B) (ax Int 0 B λnext z t=>br (decide (z<(l.n:Int))) (ae l.a λu=>(0<=z/\z<(l.n:Int))/\ld ak t (u.add (z.toNat*1)) λ(v:Sl)=>y7.sp b.1 v t λ(e:Int) c=>br (e !=0) (R e c) (next (Ol.wrap (z+1)) c)) (Fs.sp b.1 t λ(w:(Int×Int)) y=>R w.2 y))
theorem Ee.of:∀{s H R},Ee.vc s H R->Ee.sp s H R:=aU [(9,[(52,(ab .i64))])] (by kernel_rfl)
def Ip.vc (p:Option Addr)(name:ByteArray)(width:Int)(H:aa)(R:Kp (Option Addr×Int)):Prop:=
 Iv.sp p name width H λ(r:((Option Addr×ByteArray×Int×Int×Int×Bool)×Int)) H1=>aJ H1 (zc Oj rf) rf λe v=>jo Oj (OI rf (.pointer (some e)) (.agg #[(.pointer r.1.1),(.string r.1.2.1),(.int .i64 r.1.2.2.1),(.int .i64 r.1.2.2.2.1),(.int .i64 r.1.2.2.2.2.1),(.bool r.1.2.2.2.2.2)])) v λt=>br (r.2!=0) (R (none,r.2) t) (IJ.sp (some e) (0:Int) t λ(b:(Int×Sl×Int)) g=>br (b.2.2!=0) (R (none,b.2.2) g) (br ((b.1!=2)||((b.2.1.n:Int)!=9)) (R (none,(280:Int)) g) (ae b.2.1.a λa=>(0<=(0:Int)/\(0:Int)<(b.2.1.n:Int))/\ld (ab .u8) g (a.add ((0:Int).toNat*1)) λ(x:Int)=>br ((Ol.wrap x)!=width) (R (none,(280:Int)) g) (Hl.sp p g λ(k:Option Addr) w=>DT.sp k name w λ(f:(Int×Int)) u=>br (f.2!=0) (R (none,f.2) u) ((0<=(1:Int)/\(1:Int)<=(b.2.1.n:Int))/\GW.sp (Sl.mk (cE b.2.1.a b.2.1.c ((1:Int).toNat) 1) (b.2.1.n - ((1:Int).toNat)) (b.2.1.c - ((1:Int).toNat))) (1:Int) u λ(h:(Sl×Int)) j=>ae h.1.a λl=>(0<=(0:Int)/\(0:Int)<(h.1.n:Int))/\ld ak j (l.add ((0:Int).toNat*1)) λ(i:Sl)=>ae i.a λm=>(0<=(0:Int)/\(0:Int)<(i.n:Int))/\ld (ab .u64) j (m.add ((0:Int).toNat*1)) λ(rows:Int)=>br (decide (rows<=528482304)) (Kf.sp (some e) (Ol.wrap rows) j λ(o:Int) q=>br (f.1==(Ol.wrap ((1:Int)+o))) (c9 (bR [aw,aH,(ab .i64),(ab .i64),(ab .i64),ay]) 6 q e λ(d:(Option Addr×ByteArray×Int×Int×Int×Bool))=>aJ q #[(.pointer d.1),(.string d.2.1),(.int .i64 d.2.2.1),(.int .i64 d.2.2.2.1),(.int .i64 d.2.2.2.2.1),(.bool d.2.2.2.2.2),(.int .i64 (Ol.wrap rows)),(.int .i64 0),(.int .i64 (-1)),(.slice none 0 0)] Mn λs y=>R (some s,(0:Int)) y) (R (none,(280:Int)) q)) (R (none,(280:Int)) j))))))
theorem Ip.of:∀{p name width H R},Ip.vc p name width H R->Ip.sp p name width H R:=aU [] (by kernel_rfl)
def E8.vc (r:Option Addr)(H:aa)(R:Kp (Sl×Bool×Int)):Prop:=
 br r.isNone (R ((Sl.mk none 0 0),false,(1:Int)) H) (ae r λa=>G2.sp (some (a.add 0)) H λ(e:Int) H1=>br (e !=0) (R ((Sl.mk none 0 0),false,e) H1) (ae r λj=>ld (ab .i64) H1 (j.add 7) λ(x:Int)=>ae r λk=>ld (ab .i64) H1 (k.add 6) λ(m:Int)=>br (x==m) (R ((Sl.mk none 0 0),false,e) H1) (ae r λn=>ld (ab .i64) H1 (n.add 7) λ(o:Int)=>ae r λp=>ld (ab .i64) H1 ((p.add 0).add 3) λ(f:Int)=>f≠0/\JB.sp r (Ol.wrap (Pe o f)) H1 λ(g:Int) d=>br (g !=0) (R ((Sl.mk none 0 0),false,g) d) (ae r λq=>ld ak d (q.add 9) λ(h:Sl)=>ae r λs=>ld (ab .i64) d (s.add 7) λ(c:Int)=>ae r λt=>ld (ab .i64) d ((t.add 0).add 3) λ(b:Int)=>b≠0/\ae h.a λu=>(0<=(PE c b)/\(PE c b)<(h.n:Int))/\ld ak d (u.add ((PE c b).toNat*1)) λ(v:Sl)=>G9.sp v d λ(l:Sl) z=>ae r λw=>ld (ab .i64) z (w.add 7) λ(y:Int)=>ae r λi=>st z (i.add 7) (.int .i64 (Ol.wrap (y+1))) λA=>R (l,true,(0:Int)) A))))
theorem E8.of:∀{r H R},E8.vc r H R->E8.sp r H R:=aU [] (by kernel_rfl)
def Ic.vc (d:Option Addr)(H:aa)(R:Kp Sl):Prop:=
 DJ.sp d H λ(r:Int) H1=>br (r !=0) (R (Sl.mk none 0 0) H1) (ae d λa=>ld bU H1 (a.add 0) λ(x:Option Nat)=>Ll.sp x H1 λ(b:Value) e=>KN.sp b e λ(c:Sl) f=>R c f)
theorem Ic.of:∀{d H R},Ic.vc d H R->Ic.sp d H R:=aU [] (by kernel_rfl)
def JF.vc (p:Option Addr)(H:aa)(R:Kp Int):Prop:=
 br (!p.isNone) (ae p λa=>ld bU H (a.add 2) λ(x:Option Nat)=>bf aw Oj (Qn xX (.map x)) H λ(it:Option Addr) H1=>ax Int 0 H1 λnext n g=>bf gd Oj (Qi (.pointer it) false Ar) g λ(h:Bool×List Value) d=>br h.1 (bf oM Oj (P5 (.pointer it)) d λ(i:Value×Value) e=>HT aw i.2 λ(f:Option Addr)=>ae f λc=>ld (ab .i64) e (c.add 5) λ(b:Int)=>next (Ol.wrap (n+(if (1:Int)<b then (1:Int) else b))) e) (R n d)) (R (0:Int) H)
theorem JF.of:∀{p H R},JF.vc p H R->JF.sp p H R:=aU [(4,[(3,(ab .i64))])] (by kernel_rfl)
def Lc.vc (s1 s2:Sl)(H:aa)(R:Kp Int):Prop:=
 ax Int 0 H λnext z H1=>br (decide (z<(s1.n:Int))) (ae s1.a λa=>(0<=z/\z<(s1.n:Int))/\ld (ab .u64) H1 (a.add (z.toNat*1)) λ(v1:Int)=>br (decide (z>=(s2.n:Int))) (R (1:Int) H1) (ae s2.a λb=>(0<=z/\z<(s2.n:Int))/\ld (ab .u64) H1 (b.add (z.toNat*1)) λ(v2:Int)=>GK.sp v1 v2 H1 λ(c:Int) d=>br (c !=0) (R c d) (next (Ol.wrap (z+1)) d))) (br (decide ((s1.n:Int)<(s2.n:Int))) (R (-1:Int) H1) (R (0:Int) H1))
theorem Lc.of:∀{s1 s2 H R},Lc.vc s1 s2 H R->Lc.sp s1 s2 H R:=aU [(2,[(13,(ab .i64))])] (by kernel_rfl)
def GK.vc (x y:Int)(H:aa)(R:Kp Int):Prop:=
 HJ.sp x H λ(c:Bool) H1=>HJ.sp y H1 λ(a:Bool) b=>br c (br a (R (0:Int) b) (R (-1:Int) b)) (br a (R (1:Int) b) (br (decide (x<y)) (R (-1:Int) b) (br (decide (x>y)) (R (1:Int) b) (R (0:Int) b))))
theorem GK.of:∀{x y H R},GK.vc x y H R->GK.sp x y H R:=aU [] (by kernel_rfl)
def JU.vc (quota:Int)(H:aa)(R:Kp (Option Addr)):Prop:=
 aJ H #[(.slice none 0 0),(.int .i64 0),(.int .i64 (if (1048576:Int)<(if (0:Int)>quota then (0:Int) else quota) then (1048576:Int) else (if (0:Int)>quota then (0:Int) else quota))),(.int .i64 0),(.int .i64 0),(.bool false),(.int .i64 0),(.int .u64 0),(.bool false)] wY λp H1=>R (some p) H1
theorem JU.of:∀{quota H R},JU.vc quota H R->JU.sp quota H R:=aU [] (by kernel_rfl)
def Kz.vc (d:Option Addr)(p keep:Int)(H:aa)(R:Kp Unit):Prop:=
 DJ.sp d H λ(r:Int) H1=>br (r==0) (ae d λa=>jo Oj (OI MQ (.pointer (some (a.add 6))) (.agg #[(.bool true),(.int .i64 (if (0:Int)>p then (0:Int) else p)),(.int .u64 keep)])) H1 λb=>R () b) (R () H1)
theorem Kz.of:∀{d p keep H R},Kz.vc d p keep H R->Kz.sp d p keep H R:=aU [] (by kernel_rfl)
def Ko.vc (d:Option Addr)(p keep:Int)(H:aa)(R:Kp Unit):Prop:=
 ae d λa=>ld ay H (a.add 8) λ(x:Bool)=>br x (R () H) (ae d λb=>st H (b.add 5) (.bool true) λH1=>ae d λc=>st H1 (c.add 6) (.int .i64 (if (0:Int)>p then (0:Int) else p)) λf=>ae d λe=>st f (e.add 7) (.int .u64 keep) λg=>R () g)
theorem Ko.of:∀{d p keep H R},Ko.vc d p keep H R->Ko.sp d p keep H R:=aU [] (by kernel_rfl)
def JT.vc (d:Option Addr)(frames:Int)(H:aa)(R:Kp (Option Addr×Int)):Prop:=
 br d.isNone (R (none,(1:Int)) H) (br (decide (frames<8)) (R (none,(30:Int)) H) (br (decide (frames>4096)) (R (none,(3:Int)) H) (aJ H #[(.pointer d),(.int .i64 frames),(.slice none 0 0),(.int .i64 1),(.int .i64 0),(.int .i64 0),(.int .i64 0)] rP λp H1=>R (some p,(0:Int)) H1)))
theorem JT.of:∀{d frames H R},JT.vc d frames H R->JT.sp d frames H R:=aU [] (by kernel_rfl)
def BN.vc (width:Int)(H:aa)(R:Kp Int):Prop:=
 Hj.sp width H λ(n:Int) H1=>br (n==0) (R (0:Int) H1) (n≠0/\R (Ol.wrap (Pe (504:Int) n)) H1)
theorem BN.of:∀{width H R},BN.vc width H R->BN.sp width H R:=aU [] (by kernel_rfl)
def Ka.vc (d:Option Addr)(H:aa)(R:Kp Int):Prop:=
 br d.isNone (R (0:Int) H) (ae d λa=>ld (ab .i64) H (a.add 4) λ(x:Int)=>R x H)
theorem Ka.of:∀{d H R},Ka.vc d H R->Ka.sp d H R:=aU [] (by kernel_rfl)
def Ju.vc (d:Option Addr)(H:aa)(R:Kp Bool):Prop:=
 br (!d.isNone) (ae d λa=>ld ay H (a.add 9) λ(x:Bool)=>R x H) (R false H)
theorem Ju.of:∀{d H R},Ju.vc d H R->Ju.sp d H R:=aU [] (by kernel_rfl)
def Jm.vc (d:Option Addr)(H:aa)(R:Kp Int):Prop:=
 br d.isNone (R (0:Int) H) (ae d λa=>ld (ab .i64) H (a.add 2) λ(x:Int)=>R x H)
theorem Jm.of:∀{d H R},Jm.vc d H R->Jm.sp d H R:=aU [] (by kernel_rfl)
def J4.vc (p:Option Addr)(H:aa)(R:Kp Int):Prop:=
 br p.isNone (R (0:Int) H) (ae p λa=>ld bU H (a.add 2) λ(x:Option Nat)=>AY H x λ(n:Nat)=>R (n:Int) H)
theorem J4.of:∀{p H R},J4.vc p H R->J4.sp p H R:=aU [] (by kernel_rfl)
def JJ.vc (p:Option Addr)(H:aa)(R:Kp Int):Prop:=
 ax (Int×Int) ((0:Int),(0:Int)) H λnext z H1=>ae p λa=>ld ak H1 (a.add 2) λ(x:Sl)=>br (decide (z.2<(x.n:Int))) (ae p λc=>ld ak H1 (c.add 2) λ(b:Sl)=>ae b.a λd=>(0<=z.2/\z.2<(b.n:Int))/\ld ak H1 ((d.add (z.2.toNat*7)).add 5) λ(e:Sl)=>br (decide ((e.n:Int)>0)) (next (Ol.wrap (z.1+1),Ol.wrap (z.2+1)) H1) (next (z.1,Ol.wrap (z.2+1)) H1)) (R z.1 H1)
theorem JJ.of:∀{p H R},JJ.vc p H R->JJ.sp p H R:=aU [(3,[(3,(ab .i64)),(4,(ab .i64))])] (by kernel_rfl)
def JR.vc (d:Option Addr)(H:aa)(R:Kp Unit):Prop:=
 br d.isNone (R () H) (ae d λa=>ld ay H (a.add 9) λ(x:Bool)=>br (!x) (R () H) (ae d λW=>ld bU H (W.add 0) λ(X:Option Nat)=>bf aw Oj (Qn yX (.map X)) H λ(it:Option Addr) H1=>ax Sl (Sl.mk none 0 0) H1 λnext order H2=>bf gd Oj (Qi (.pointer it) false Ar) H2 λ(nx:Bool×List Value) H3=>br nx.1 (bf oM Oj (P5 (.pointer it)) H3 λ(en:Value×Value) H4=>HT aw en.2 λ(f:Option Addr)=>ae f λY=>ld ak H4 (Y.add 2) λ(n:Sl)=>ax (Sl×Int) (order,(0:Int)) H4 λi z Z=>br (decide (z.2<(n.n:Int))) (ae n.a λaf=>(0<=z.2/\z.2<(n.n:Int))/\c9 jU 514 Z (af.add (z.2.toNat*514)) λ(an:Array Value)=>aJ Z (zc Oj qZ) qZ λp H6=>jo Oj (OI qZ (.pointer (some p)) (.agg an)) H6 λH7=>ld (ab .i64) H7 (p.add 0) λ(a1:Int)=>aJ H7 #[(.int .i64 a1)] iH λa6 H8=>bf ak Oj (Oq #[y9,y9] y9 #[z.1.v,(.slice (some a6) 1 1)]) H8 λ(h:Sl) H9=>i (h,Ol.wrap (z.2+1)) H9) (next z.1 Z)) (MU.sp order H3 λ(_:Unit) a7=>ae d λa8=>st a7 (a8.add 1) (.int .i64 0) λr=>ae d λbb=>ld bU r (bb.add 0) λ(bd:Option Nat)=>bf aw Oj (Qn yX (.map bd)) r λ(m:Option Addr) bl=>ax Unit () bl λj _ bn=>bf gd Oj (Qi (.pointer m) false Ar) bn λ(s:Bool×List Value) t=>br s.1 (bf oM Oj (P5 (.pointer m)) t λ(u:Value×Value) w=>HT aw u.2 λ(b:Option Addr)=>ae b λbs=>ld ak w (bs.add 1) λ(bx:Sl)=>DI.sp bx w λ(bA:Sl) bB=>ae b λbC=>st bB (bC.add 0) bA.v λy=>ae b λbD=>ld ak y (bD.add 2) λ(o:Sl)=>ax Int 0 y λc e k=>br (decide (e<(o.n:Int))) (ae o.a λbM=>(0<=e/\e<(o.n:Int))/\c9 jU 514 k (bM.add (e.toNat*514)) λ(bN:Array Value)=>aJ k (zc Oj qZ) qZ λl bO=>jo Oj (OI qZ (.pointer (some l)) (.agg bN)) bO λA=>ld (ab .i64) A (l.add 0) λ(b0:Int)=>IS.sp order b0 A λ(B:(Int×Bool)) g=>ae d λC=>ld (ab .u64) g ((C.add 6).add 2) λ(D:Int)=>0<=(PE B.1 (64:Int))/\br ((lQ .u64 (dI .u64 D (PE B.1 (64:Int))) (1:Int))==1) (ae b λE=>ld ak g (E.add 0) λ(F:Sl)=>ld (ab .i64) g (l.add 1) λ(G:Int)=>c9 jU 512 g (l.add 2) λ(I:Array Value)=>GL.sp F G I g λ(b1:Sl) b2=>ae b λJ=>st b2 (J.add 0) b1.v λb3=>c (Ol.wrap (e+1)) b3) (c (Ol.wrap (e+1)) g)) (ae b λK=>ld ak k (K.add 0) λ(L:Sl)=>DI.sp L k λ(b4:Sl) b5=>ae b λM=>st b5 (M.add 1) b4.v λb6=>ae b λN=>st b6 (N.add 2) (.slice none 0 0) λq=>ae d λO=>ld (ab .i64) q (O.add 1) λ(P:Int)=>ae b λQ=>ld ak q (Q.add 0) λ(S:Sl)=>ae d λT=>st q (T.add 1) (.int .i64 (Ol.wrap (P+(S.n:Int)))) λb7=>j () b7)) (ae d λU=>st t (U.add 9) (.bool false) λb9=>ae d λV=>jo Oj (OI MQ (.pointer (some (V.add 6))) (.agg #[(.bool false),(.int .i64 0),(.int .u64 0)])) b9 λcb=>R () cb))))
theorem JR.of:∀{d H R},JR.vc d H R->JR.sp d H R:=aU [(3,[(2,ak)]),(6,[(2,ak),(36,(ab .i64))]),(13,[]),(17,[(73,(ab .i64))])] (by kernel_rfl)
def Kd.vc (d:Option Addr)(H:aa)(R:Kp Unit):Prop:=
 ae d λa=>ld ay H (a.add 8) λ(x:Bool)=>br (!x) (R () H) (ax (Sl×Int) ((Sl.mk none 0 0),(0:Int)) H λnext z H1=>ae d λD=>ld ak H1 (D.add 0) λ(E:Sl)=>br (decide (z.2<(E.n:Int))) (∃G:aa->Prop,G H1/\ae d λF=>dt ak G (F.add 0) λ(j:Sl)=>ae j.a λI=>(0<=z.2/\z.2<(j.n:Int))/\dt aH G ((I.add (z.2.toNat*3)).add 0) λ(J:ByteArray)=>ae d λK=>dt ak G (K.add 0) λ(l:Sl)=>ae l.a λL=>(0<=z.2/\z.2<(l.n:Int))/\dt ak G ((L.add (z.2.toNat*3)).add 1) λ(M:Sl)=>aJ H1 (zc Oj uo) uo λp H2=>G H2/\jo Oj (OI uo (.pointer (some p)) (.agg #[(.string J),M.v,(.slice none 0 0)])) H2 λH3=>ax Int 0 H3 λb k g=>ae d λN=>ld ak g (N.add 0) λ(m:Sl)=>ae m.a λO=>(0<=z.2/\z.2<(m.n:Int))/\ld ak g ((O.add (z.2.toNat*3)).add 2) λ(P:Sl)=>br (decide (k<(P.n:Int))) (ae d λQ=>ld ak g (Q.add 0) λ(n:Sl)=>ae n.a λS=>(0<=z.2/\z.2<(n.n:Int))/\ld ak g ((S.add (z.2.toNat*3)).add 2) λ(o:Sl)=>ae o.a λq=>(0<=k/\k<(o.n:Int))/\c9 (bR [(ab .i64),(ab .i64),aH]) 3 g (q.add (k.toNat*3)) λ(c:(Int×Int×ByteArray))=>aJ g (zc Oj y6) y6 λh H5=>jo Oj (OI y6 (.pointer (some h)) (.agg #[(.int .i64 c.1),(.int .i64 c.2.1),(.string c.2.2)])) H5 λT=>∃i:aa->Prop,i T/\ae d λs=>dt (ab .u64) i (s.add 7) λ(t:Int)=>ld (ab .i64) T (h.add 0) λ(u:Int)=>J9.sp d u T λ(r:Int) w=>i w/\0<=(PE r (64:Int))/\br ((lQ .u64 (dI .u64 t (PE r (64:Int))) (1:Int))==1) (ld ak w (p.add 1) λ(y:Sl)=>c9 (bR [(ab .i64),(ab .i64),aH]) 3 w h λ(e:(Int×Int×ByteArray))=>Hu.sp y e.1 e.2.1 e.2.2 w λ(U:Sl) H8=>st H8 (p.add 1) U.v λH9=>b (Ol.wrap (k+1)) H9) (b (Ol.wrap (k+1)) w)) (c9 (bR [aH,ak,ak]) 3 g p λ(f:(ByteArray×Sl×Sl))=>aJ g #[(.string f.1),f.2.1.v,f.2.2.v] uo λV W=>bf ak Oj (Oq #[Df,Df] Df #[z.1.v,(.slice (some V) 1 1)]) W λ(files:Sl) X=>next (files,Ol.wrap (z.2+1)) X)) (ae d λA=>st H1 (A.add 0) z.1.v λY=>ae d λB=>st Y (B.add 8) (.bool false) λZ=>ae d λC=>st Z (C.add 5) (.bool false) λaf=>R () af))
theorem Kd.of:∀{d H R},Kd.vc d H R->Kd.sp d H R:=aU [(3,[(2,ak),(3,(ab .i64))]),(7,[(5,(ab .i64))])] (by kernel_rfl)
def JY.vc (a b:Sl)(H:aa)(R:Kp Bool):Prop:=
 br ((a.n:Int)!=(b.n:Int)) (R false H) (ax Int 0 H λnext i H1=>br (decide (i<(a.n:Int))) (ae a.a λc=>(0<=i/\i<(a.n:Int))/\ld aH H1 (c.add (i.toNat*1)) λ(x:ByteArray)=>ae b.a λd=>(0<=i/\i<(b.n:Int))/\ld aH H1 (d.add (i.toNat*1)) λ(e:ByteArray)=>br (!(x.toList==e.toList)) (R false H1) (next (Ol.wrap (i+1)) H1)) (R true H1))
theorem JY.of:∀{a b H R},JY.vc a b H R->JY.sp a b H R:=aU [(4,[(5,(ab .i64))])] (by kernel_rfl)
def J6.vc (d:Option Addr)(H:aa)(R:Kp Sl):Prop:=
 ax (Sl×Int) ((Sl.mk none 0 0),(0:Int)) H λnext z H1=>ae d λa=>ld ak H1 (a.add 0) λ(x:Sl)=>br (decide (z.2<(x.n:Int))) (ae d λq=>ld ay H1 (q.add 8) λ(r:Bool)=>br (!r) (ax Int 0 H1 λe b k=>br (decide (b<(z.1.n:Int))) (ae z.1.a λs=>(0<=b/\b<(z.1.n:Int))/\ld aH k (s.add (b.toNat*1)) λ(t:ByteArray)=>ae d λu=>ld ak k (u.add 0) λ(l:Sl)=>ae l.a λv=>(0<=z.2/\z.2<(l.n:Int))/\ld aH k ((v.add (z.2.toNat*3)).add 0) λ(w:ByteArray)=>br (Op.bytesLess t.toList w.toList) (e (Ol.wrap (b+1)) k) ((0<=b/\b<=(z.1.c:Int))/\bf ak Oj (Oq #[dM,dM] dM #[(.slice none 0 0),(.slice (cE z.1.a z.1.c 0 1) (b.toNat - 0) (z.1.c - 0))]) k λ(out:Sl) y=>ae d λA=>ld ak y (A.add 0) λ(m:Sl)=>ae m.a λB=>(0<=z.2/\z.2<(m.n:Int))/\ld aH y ((B.add (z.2.toNat*3)).add 0) λ(C:ByteArray)=>aJ y #[(.string C)] dy λp K=>bf ak Oj (Oq #[dM,dM] dM #[out.v,(.slice (some p) 1 1)]) K λ(f:Sl) L=>(0<=b/\b<=(z.1.n:Int))/\bf ak Oj (Oq #[dM,dM] dM #[f.v,(.slice (cE z.1.a z.1.c b.toNat 1) (z.1.n - b.toNat) (z.1.c - b.toNat))]) L λ(g:Sl) M=>next (g,Ol.wrap (z.2+1)) M)) ((0<=b/\b<=(z.1.c:Int))/\bf ak Oj (Oq #[dM,dM] dM #[(.slice none 0 0),(.slice (cE z.1.a z.1.c 0 1) (b.toNat - 0) (z.1.c - 0))]) k λ(h:Sl) D=>ae d λE=>ld ak D (E.add 0) λ(o:Sl)=>ae o.a λF=>(0<=z.2/\z.2<(o.n:Int))/\ld aH D ((F.add (z.2.toNat*3)).add 0) λ(G:ByteArray)=>aJ D #[(.string G)] dy λI N=>bf ak Oj (Oq #[dM,dM] dM #[h.v,(.slice (some I) 1 1)]) N λ(i:Sl) O=>(0<=b/\b<=(z.1.n:Int))/\bf ak Oj (Oq #[dM,dM] dM #[i.v,(.slice (cE z.1.a z.1.c b.toNat 1) (z.1.n - b.toNat) (z.1.c - b.toNat))]) O λ(j:Sl) J=>next (j,Ol.wrap (z.2+1)) J)) (R z.1 H1)) (R z.1 H1)
theorem J6.of:∀{d H R},J6.vc d H R->J6.sp d H R:=aU [(3,[(3,ak),(4,(ab .i64))]),(6,[(5,(ab .i64))])] (by kernel_rfl)
def Dh.vc (d:Option Addr)(name:ByteArray)(H:aa)(R:Kp (Int×Int)):Prop:=
 Be.sp d name H λ(i:Int) H1=>ae d λa=>ld ay H1 (a.add 8) λ(x:Bool)=>br x (R ((0:Int),(4:Int)) H1) (br (decide (i<0)) (R ((0:Int),(11:Int)) H1) (ae d λe=>ld ak H1 (e.add 0) λ(c:Sl)=>ae c.a λf=>(0<=i/\i<(c.n:Int))/\c9 (bR [aH,ak,ak]) 3 H1 (f.add (i.toNat*3)) λ(b:(ByteArray×Sl×Sl))=>DU.sp b.1 b.2.1 b.2.2 H1 λ(r:Sl) g=>R ((r.n:Int),(0:Int)) g))
theorem Dh.of:∀{d name H R},Dh.vc d name H R->Dh.sp d name H R:=aU [] (by kernel_rfl)
def HI.vc (d:Option Addr)(name:ByteArray)(page:Int)(H:aa)(R:Kp (Sl×Int)):Prop:=
 DL.sp d name H λ(r:(Option Addr×Int)) H1=>cut Unit (λJ=>br (r.2!=0) (R ((Sl.mk none 0 0),r.2) H1) (br (decide (page<0)) (br (decide (page<0)) (R ((Sl.mk none 0 0),(12:Int)) H1) (J () H1)) (ae r.1 λa=>ld ak H1 (a.add 0) λ(x:Sl)=>br (decide (page>=(x.n:Int))) (R ((Sl.mk none 0 0),(12:Int)) H1) (J () H1)))) λ(_:Unit) g=>ae r.1 λc=>ld ak g (c.add 0) λ(b:Sl)=>ae b.a λe=>(0<=page/\page<(b.n:Int))/\DQ.sp (Sl.mk (cE (some (e.add (page.toNat*512))) 512 0 1) (512 - 0) (512 - 0)) g λ(f:Sl) h=>R (f,(0:Int)) h
theorem HI.of:∀{d name page H R},HI.vc d name page H R->HI.sp d name page H R:=aU [(100007,[])] (by kernel_rfl)
def CR.vc (d:Option Addr)(name:ByteArray)(page:Int)(H:aa)(R:Kp (Sl×Int)):Prop:=
 Be.sp d name H λ(i:Int) H1=>ae d λa=>ld ay H1 (a.add 8) λ(x:Bool)=>br x (R ((Sl.mk none 0 0),(4:Int)) H1) (br (decide (i<0)) (R ((Sl.mk none 0 0),(11:Int)) H1) (ae d λe=>ld ak H1 (e.add 0) λ(c:Sl)=>ae c.a λf=>(0<=i/\i<(c.n:Int))/\c9 (bR [aH,ak,ak]) 3 H1 (f.add (i.toNat*3)) λ(b:(ByteArray×Sl×Sl))=>DU.sp b.1 b.2.1 b.2.2 H1 λ(l:Sl) g=>br ((decide (page<0))||(decide (page>=(l.n:Int)))) (R ((Sl.mk none 0 0),(12:Int)) g) (ae l.a λh=>(0<=page/\page<(l.n:Int))/\ld aH g (h.add (page.toNat*1)) λ(j:ByteArray)=>bf ak Oj (convert dy dS (.string j)) g λ(k:Sl) m=>R (k,(0:Int)) m)))
theorem CR.of:∀{d name page H R},CR.vc d name page H R->CR.sp d name page H R:=aU [] (by kernel_rfl)
def Hz.vc (s:Option Addr)(H:aa)(R:Kp Int):Prop:=
 ae s λa=>ld (ab .i64) H (a.add 7) λ(x:Int)=>br (x !=0) (ae s λb=>ld (ab .i64) H (b.add 7) λ(c:Int)=>R c H) (ae s λd=>ld ay H (d.add 8) λ(e:Bool)=>br e (R (2:Int) H) (R (0:Int) H))
theorem Hz.of:∀{s H R},Hz.vc s H R->Hz.sp s H R:=aU [] (by kernel_rfl)
def Gr.vc (s:Option Addr)(H:aa)(R:Kp Int):Prop:=
 Iu.sp s H λ(name:ByteArray) H1=>∃G:aa->Prop,G H1/\ae s λa=>dt aw G (a.add 0) λ(x:Option Addr)=>ae s λb=>dt (ab .i64) G (b.add 2) λ(c:Int)=>ae s λd=>ld ak H1 (d.add 4) λ(f:Sl)=>Jl.sp f H1 λ(r:Sl) m=>G m/\J0.sp x name c r m λ(e:Int) q=>ae s λg=>st q (g.add 4) (.slice none 0 0) λn=>ae s λh=>ld ak n (h.add 5) λ(i:Sl)=>aJ n #[(.string name)] dy λp t=>bf ak Oj (Oq #[dM,dM] dM #[i.v,(.slice (some p) 1 1)]) t λ(j:Sl) u=>ae s λk=>st u (k.add 5) j.v λo=>br (e !=0) (ae s λl=>st o (l.add 7) (.int .i64 e) λv=>R e v) (R e o)
theorem Gr.of:∀{s H R},Gr.vc s H R->Gr.sp s H R:=aU [] (by kernel_rfl)
def DV.vc (s:Option Addr)(H:aa)(R:Kp (Int×Int)):Prop:=
 Hz.sp s H λ(e:Int) H1=>br (e !=0) (R ((0:Int),e) H1) (J1.sp s H1 λ(r:(Int×Int)) c=>br (r.2!=0) (ae s λa=>st c (a.add 7) (.int .i64 r.2) λd=>R ((0:Int),r.2) d) (ae s λb=>st c (b.add 8) (.bool true) λf=>R (r.1,(0:Int)) f))
theorem DV.of:∀{s H R},DV.vc s H R->DV.sp s H R:=aU [] (by kernel_rfl)
def He.vc (p:Option Addr)(name:ByteArray)(width:Int)(H:aa)(R:Kp (Option Addr×Int)):Prop:=
 br p.isNone (R (none,(1:Int)) H) (BN.sp width H λ(room:Int) H1=>br (room==0) (R (none,(60:Int)) H1) (aJ H1 #[(.pointer p),(.string name),(.int .i64 width),(.int .i64 0),(.bool false),(.int .i64 0),(.int .i64 0),(.int .i64 0),(.slice none 0 0)] LG λd C=>HK.sp (some (d.add 0)) (0:Int) C λ(r:(Int×Sl×Int)) g=>br (r.2.2!=0) (R (none,r.2.2) g) (br ((r.1!=2)||((r.2.1.n:Int)!=9)) (R (none,(280:Int)) g) (ae r.2.1.a λa=>(0<=(0:Int)/\(0:Int)<(r.2.1.n:Int))/\ld (ab .u8) g (a.add ((0:Int).toNat*1)) λ(x:Int)=>br ((Ol.wrap x)!=width) (R (none,(280:Int)) g) ((0<=(1:Int)/\(1:Int)<=(r.2.1.n:Int))/\IX.sp (Sl.mk (cE r.2.1.a r.2.1.c ((1:Int).toNat) 1) (r.2.1.n - ((1:Int).toNat)) (r.2.1.c - ((1:Int).toNat))) (1:Int) g λ(b:(Sl×Int)) B=>ae p λl=>ld aw B (l.add 0) λ(m:Option Addr)=>Dh.sp m name B λ(e:(Int×Int)) f=>br (e.2!=0) (R (none,e.2) f) (ae b.1.a λo=>(0<=(0:Int)/\(0:Int)<(b.1.n:Int))/\ld ak f (o.add ((0:Int).toNat*1)) λ(h:Sl)=>ae h.a λq=>(0<=(0:Int)/\(0:Int)<(h.n:Int))/\ld (ab .u64) f (q.add ((0:Int).toNat*1)) λ(s:Int)=>br (decide (s>528482304)) (R (none,(280:Int)) f) (ae b.1.a λt=>(0<=(0:Int)/\(0:Int)<(b.1.n:Int))/\ld ak f (t.add ((0:Int).toNat*1)) λ(i:Sl)=>ae i.a λu=>(0<=(0:Int)/\(0:Int)<(i.n:Int))/\ld (ab .u64) f (u.add ((0:Int).toNat*1)) λ(v:Int)=>Jw.sp (Ol.wrap v) room f λ(w:Int) k=>br (e.1!=(Ol.wrap ((1:Int)+w))) (R (none,(280:Int)) k) (ae b.1.a λy=>(0<=(0:Int)/\(0:Int)<(b.1.n:Int))/\ld ak k (y.add ((0:Int).toNat*1)) λ(j:Sl)=>ae j.a λz=>(0<=(0:Int)/\(0:Int)<(j.n:Int))/\ld (ab .u64) k (z.add ((0:Int).toNat*1)) λ(A:Int)=>st k (d.add 5) (.int .i64 (Ol.wrap A)) λD=>R (some d,(0:Int)) D))))))))
theorem He.of:∀{p name width H R},He.vc p name width H R->He.sp p name width H R:=aU [] (by kernel_rfl)
def Ht.vc (p:Option Addr)(name:ByteArray)(width:Int)(H:aa)(R:Kp (Option Addr×Int)):Prop:=
 br p.isNone (R (none,(1:Int)) H) (BN.sp width H λ(r:Int) H1=>br (r==0) (R (none,(60:Int)) H1) (ae p λa=>ld aw H1 (a.add 0) λ(x:Option Addr)=>JG.sp x name H1 λ(e:Int) d=>br (e !=0) (R (none,e) d) (aJ d #[(.pointer p),(.string name),(.int .i64 width),(.int .i64 0),(.bool false),(.slice none 0 0),(.int .i64 0),(.slice none 0 0),(.int .i64 0)] IC λb g=>I9.sp (some (b.add 0)) (0:Int) (Sl.mk none 0 0) g λ(c:Int) f=>br (c !=0) (R (none,c) f) (R (some b,(0:Int)) f))))
theorem Ht.of:∀{p name width H R},Ht.vc p name width H R->Ht.sp p name width H R:=aU [] (by kernel_rfl)
def Ce.vc (r:Option Addr)(H:aa)(R:Kp (Sl×Bool×Int)):Prop:=
 ae r λa=>G6.sp (some (a.add 0)) H λ(e:Int) H1=>br (e !=0) (R ((Sl.mk none 0 0),false,e) H1) (ae r λg=>ld (ab .i64) H1 (g.add 6) λ(x:Int)=>ae r λh=>ld (ab .i64) H1 (h.add 5) λ(i:Int)=>br (decide (x>=i)) (R ((Sl.mk none 0 0),false,(0:Int)) H1) (ae r λj=>ld (ab .i64) H1 ((j.add 0).add 2) λ(k:Int)=>BN.sp k H1 λ(room:Int) v=>ae r λm=>ld (ab .i64) v (m.add 6) λ(n:Int)=>room≠0/\Jr.sp r (Ol.wrap (Pe n room)) v λ(d:Int) c=>br (d !=0) (R ((Sl.mk none 0 0),false,d) c) (ae r λo=>ld ak c (o.add 8) λ(f:Sl)=>ae r λp=>ld (ab .i64) c (p.add 6) λ(b:Int)=>room≠0/\ae f.a λq=>(0<=(PE b room)/\(PE b room)<(f.n:Int))/\ld ak c (q.add ((PE b room).toNat*1)) λ(l:Sl)=>ae r λs=>ld (ab .i64) c (s.add 6) λ(t:Int)=>ae r λu=>st c (u.add 6) (.int .i64 (Ol.wrap (t+1))) λw=>R (l,true,(0:Int)) w)))
theorem Ce.of:∀{r H R},Ce.vc r H R->Ce.sp r H R:=aU [] (by kernel_rfl)
def Az.vc (a b:Sl)(H:aa)(R:Kp Int):Prop:=
 ax Int 0 H λnext i H1=>br ((decide (i<(a.n:Int)))&&(decide (i<(b.n:Int)))) (ae a.a λc=>(0<=i/\i<(a.n:Int))/\ld (ab .u64) H1 (c.add (i.toNat*1)) λ(x:Int)=>ae b.a λd=>(0<=i/\i<(b.n:Int))/\ld (ab .u64) H1 (d.add (i.toNat*1)) λ(e:Int)=>br (decide (x<e)) (R (-1:Int) H1) (ae a.a λf=>(0<=i/\i<(a.n:Int))/\ld (ab .u64) H1 (f.add (i.toNat*1)) λ(g:Int)=>ae b.a λh=>(0<=i/\i<(b.n:Int))/\ld (ab .u64) H1 (h.add (i.toNat*1)) λ(j:Int)=>br (decide (g>j)) (R (1:Int) H1) (next (Ol.wrap (i+1)) H1))) (br (decide ((a.n:Int)<(b.n:Int))) (R (-1:Int) H1) (br (decide ((a.n:Int)>(b.n:Int))) (R (1:Int) H1) (R (0:Int) H1)))
theorem Az.of:∀{a b H R},Az.vc a b H R->Az.sp a b H R:=aU [(2,[(5,(ab .i64))])] (by kernel_rfl)
def Hc.vc (w:Option Addr)(H:aa)(R:Kp (Int×Int)):Prop:=
 ae w λa=>G6.sp (some (a.add 0)) H λ(e:Int) H1=>cut Int (λJ=>br (e==0) (IE.sp w H1 λ(p:Int) Y=>J p Y) (J e H1)) λ(z:Int) m=>br (z !=0) (R ((0:Int),z) m) (ae w λq=>ld aw m ((q.add 0).add 0) λ(x:Option Addr)=>ae w λs=>ld aH m ((s.add 0).add 1) λ(t:ByteArray)=>HF.sp x t (0:Int) m λ(r:(Int×Int)) n=>cut Int (λb=>br (r.2==0) (∃G:aa->Prop,G n/\ae w λu=>dt aw G ((u.add 0).add 0) λ(v:Option Addr)=>ae w λy=>ld (ab .i64) n ((y.add 0).add 2) λ(A:Int)=>ae w λB=>dt (ab .i64) G (B.add 8) λ(C:Int)=>Kl.sp A C n λ(D:Sl) X=>G X/\Je.sp v r.1 (2:Int) D X λ(E:Int) Z=>b E Z) (b r.2 n)) λ(c:Int) F=>cut Int (λd=>br (c==0) (ae w λI=>ld aw F ((I.add 0).add 0) λ(K:Option Addr)=>Fb.sp K r.1 F λ(L:Int) H9=>d L H9) (d c F)) λ(f:Int) o=>cut Int (λg=>br (f==0) (ae w λM=>ld aw o ((M.add 0).add 0) λ(N:Option Addr)=>ae w λO=>ld aH o ((O.add 0).add 1) λ(P:ByteArray)=>JA.sp N P o λ(Q:Int) S=>g Q S) (g f o)) λ(h:Int) i=>br (h !=0) (ae w λT=>Cz.sp (some (T.add 0)) h i λ(U:Int) V=>R ((0:Int),U) V) (ae w λj=>st i ((j.add 0).add 4) (.bool true) λk=>ae w λl=>ld (ab .i64) k (l.add 8) λ(W:Int)=>R (W,(0:Int)) k))
theorem Hc.of:∀{w H R},Hc.vc w H R->Hc.sp w H R:=aU [(100004,[(4,(ab .i64))]),(100009,[(4,(ab .i64))]),(100011,[(4,(ab .i64))]),(100013,[(4,(ab .i64))])] (by kernel_rfl)
def Bb.vc (w:Option Addr)(l:Sl)(H:aa)(R:Kp Int):Prop:=
 ae w λa=>G6.sp (some (a.add 0)) H λ(e:Int) H1=>cut Unit (λJ=>br (e !=0) (R e H1) (ae w λk=>ld (ab .i64) H1 ((k.add 0).add 2) λ(x:Int)=>br ((l.n:Int)!=x) (R (60:Int) H1) (ae w λm=>ld (ab .i64) H1 (m.add 8) λ(n:Int)=>br (decide (n>0)) (ae w λo=>ld ak H1 (o.add 7) λ(p:Sl)=>Az.sp l p H1 λ(r:Int) P=>br (decide (r<=0)) (R (70:Int) P) (J () P)) (J () H1)))) λ(_:Unit) Q=>∃G:aa->Prop,G Q/\ae w λq=>dt ak G (q.add 5) λ(t:Sl)=>Iz.sp l Q λ(u:Sl) S=>G S/\bf ak Oj (Oq #[dS,dS] dS #[t.v,u.v]) S λ(s:Sl) W=>ae w λv=>st W (v.add 5) s.v λT=>ae w λy=>ld (ab .i64) T (y.add 6) λ(z:Int)=>ae w λA=>st T (A.add 6) (.int .i64 (Ol.wrap (z+1))) λU=>ae w λB=>ld (ab .i64) U (B.add 8) λ(C:Int)=>ae w λD=>st U (D.add 8) (.int .i64 (Ol.wrap (C+1))) λX=>ae w λf=>st X (f.add 7) (.slice none 0 0) λV=>ae w λg=>ld ak V (g.add 7) λ(E:Sl)=>bf ak Oj (Oq #[fG,fG] fG #[E.v,l.v]) V λ(F:Sl) I=>ae w λh=>st I (h.add 7) F.v λb=>∃c:aa->Prop,c b/\ae w λi=>dt (ab .i64) c (i.add 6) λ(K:Int)=>ae w λj=>ld (ab .i64) b ((j.add 0).add 2) λ(L:Int)=>BN.sp L b λ(M:Int) d=>c d/\br (decide (K<M)) (R (0:Int) d) (IE.sp w d λ(N:Int) O=>R N O)
theorem Bb.of:∀{w l H R},Bb.vc w l H R->Bb.sp w l H R:=aU [(100008,[])] (by kernel_rfl)
def It.vc (s:Option Addr)(H:aa)(R:Kp ByteArray):Prop:=
 ae s λa=>ld (ab .i64) H (a.add 6) λ(x:Int)=>ae s λc=>st H (c.add 6) (.int .i64 (Ol.wrap (x+1))) λH1=>∃G:aa->Prop,G H1/\ae s λd=>dt aH G (d.add 1) λ(b:ByteArray)=>((b.size+(O2 #[126]).size:Nat):Int)<=9223372036854775807/\ae s λe=>ld (ab .i64) H1 (e.add 6) λ(f:Int)=>Ku.sp (Ol.wrap (f - 1)) H1 λ(r:ByteArray) g=>G g/\(((b++(O2 #[126])).size+r.size:Nat):Int)<=9223372036854775807/\R ((b++(O2 #[126]))++r) g
theorem It.of:∀{s H R},It.vc s H R->It.sp s H R:=aU [] (by kernel_rfl)
def HS.vc (s:Option Addr)(k:Int)(to:ByteArray)(H:aa)(R:Kp (Int×Int)):Prop:=
 ae s λa=>ld ak H (a.add 5) λ(x:Sl)=>(0<=k/\k<=(x.c:Int))/\ae s λd=>ld aw H (d.add 0) λ(f:Option Addr)=>ae s λg=>ld (ab .i64) H (g.add 2) λ(h:Int)=>Ha.sp f (Sl.mk (cE x.a x.c 0 1) (k.toNat - 0) (x.c - 0)) to h H λ(r:(Int×Int)) H1=>ax (Int×Int) (r.2,(0:Int)) H1 λnext z c=>br (decide (z.2<((k.toNat - 0:Nat):Int))) (ae (cE x.a x.c 0 1) λi=>(0<=z.2/\z.2<((k.toNat - 0:Nat):Int))/\ld aH c (i.add (z.2.toNat*1)) λ(name:ByteArray)=>br (z.1==0) (ae s λj=>ld aw c (j.add 0) λ(l:Option Addr)=>JI.sp l name c λ(e:Int) o=>next (e,Ol.wrap (z.2+1)) o) (next (z.1,Ol.wrap (z.2+1)) c)) (ae s λm=>ld ak c (m.add 5) λ(b:Sl)=>(0<=k/\k<=(b.n:Int))/\ae s λn=>st c (n.add 5) (.slice (cE b.a b.c k.toNat 1) (b.n - k.toNat) (b.c - k.toNat)) λp=>R (r.1,z.1) p)
theorem HS.of:∀{s k to H R},HS.vc s k to H R->HS.sp s k to H R:=aU [(4,[(10,(ab .i64)),(35,(ab .i64))])] (by kernel_rfl)
def JV.vc (s:Sl)(H:aa)(R:Kp Sl):Prop:=
 br s.a.isNone (R (Sl.mk none 0 0) H) (aJ H #[] dy λp H1=>bf ak Oj (Oq #[dM,dM] dM #[(.slice (some p) 0 0),s.v]) H1 λ(a:Sl) b=>R a b)
theorem JV.of:∀{s H R},JV.vc s H R->JV.sp s H R:=aU [] (by kernel_rfl)
def Ih.vc (width:Int)(H:aa)(R:Kp Int):Prop:=
 br (decide (width<0)) (br (decide (width<0)) (R (0:Int) H) (br (width==0) (R (1:Int) H) (R (Ol.wrap ((8:Int)*width)) H))) (br (decide (width>16)) (R (0:Int) H) (br (width==0) (R (1:Int) H) (R (Ol.wrap ((8:Int)*width)) H)))
theorem Ih.of:∀{width H R},Ih.vc width H R->Ih.sp width H R:=aU [] (by kernel_rfl)
def Iv.vc (p:Option Addr)(name:ByteArray)(width:Int)(H:aa)(R:Kp ((Option Addr×ByteArray×Int×Int×Int×Bool)×Int)):Prop:=
 aJ H (zc Oj rf) rf λc H1=>GR.sp width H1 λ(r:Int) m=>aJ m (zc Oj rf) rf λf n=>jo Oj (OI rf (.pointer (some f)) (.agg #[(.pointer p),(.string name),(.int .i64 width),(.int .i64 r),(.int .i64 0),(.bool false)])) n λg=>cut Unit (λJ=>br p.isNone (c9 (bR [aw,aH,(ab .i64),(ab .i64),(ab .i64),ay]) 6 g f λ(x:(Option Addr×ByteArray×Int×Int×Int×Bool))=>jo Oj (OI rf (.pointer (some c)) (.agg #[(.pointer x.1),(.string x.2.1),(.int .i64 x.2.2.1),(.int .i64 x.2.2.2.1),(.int .i64 x.2.2.2.2.1),(.bool x.2.2.2.2.2)])) g λi=>c9 (bR [aw,aH,(ab .i64),(ab .i64),(ab .i64),ay]) 6 i c λ(res:(Option Addr×ByteArray×Int×Int×Int×Bool))=>R ((res.1,res.2.1,res.2.2.1,res.2.2.2.1,res.2.2.2.2.1,res.2.2.2.2.2),(1:Int)) i) (ld (ab .i64) g (f.add 3) λ(h:Int)=>br (h==0) (c9 (bR [aw,aH,(ab .i64),(ab .i64),(ab .i64),ay]) 6 g f λ(d:(Option Addr×ByteArray×Int×Int×Int×Bool))=>jo Oj (OI rf (.pointer (some c)) (.agg #[(.pointer d.1),(.string d.2.1),(.int .i64 d.2.2.1),(.int .i64 d.2.2.2.1),(.int .i64 d.2.2.2.2.1),(.bool d.2.2.2.2.2)])) g λj=>c9 (bR [aw,aH,(ab .i64),(ab .i64),(ab .i64),ay]) 6 j c λ(a:(Option Addr×ByteArray×Int×Int×Int×Bool))=>R ((a.1,a.2.1,a.2.2.1,a.2.2.2.1,a.2.2.2.2.1,a.2.2.2.2.2),(60:Int)) j) (J () g))) λ(_:Unit) k=>c9 (bR [aw,aH,(ab .i64),(ab .i64),(ab .i64),ay]) 6 k f λ(e:(Option Addr×ByteArray×Int×Int×Int×Bool))=>jo Oj (OI rf (.pointer (some c)) (.agg #[(.pointer e.1),(.string e.2.1),(.int .i64 e.2.2.1),(.int .i64 e.2.2.2.1),(.int .i64 e.2.2.2.2.1),(.bool e.2.2.2.2.2)])) k λl=>c9 (bR [aw,aH,(ab .i64),(ab .i64),(ab .i64),ay]) 6 l c λ(b:(Option Addr×ByteArray×Int×Int×Int×Bool))=>R ((b.1,b.2.1,b.2.2.1,b.2.2.2.1,b.2.2.2.2.1,b.2.2.2.2.2),(0:Int)) l
theorem Iv.of:∀{p name width H R},Iv.vc p name width H R->Iv.sp p name width H R:=aU [(100006,[])] (by kernel_rfl)
def Hl.vc (p:Option Addr)(H:aa)(R:Kp (Option Addr)):Prop:=
 br p.isNone (R none H) (ae p λa=>ld aw H (a.add 0) λ(x:Option Addr)=>R x H)
theorem Hl.of:∀{p H R},Hl.vc p H R->Hl.sp p H R:=aU [] (by kernel_rfl)
def JQ.vc (d:Option Addr)(name:ByteArray)(H:aa)(R:Kp Int):Prop:=
 DJ.sp d H λ(e:Int) H1=>br (e !=0) (R e H1) (ae d λa=>ld bU H1 (a.add 0) λ(x:Option Nat)=>DK (aR [aw,ay]) Oj (PM yX (.map x) (.string name) true) H1 λ(f:(Option Addr×Bool))=>IM.sp name H1 λ(r:Bool) c=>br (!r) (R (2:Int) c) (br f.2 (R (10:Int) c) (ae d λg=>ld bU c (g.add 0) λ(h:Option Nat)=>AY c h λ(n:Nat)=>br ((n:Int)==4096) (R (3:Int) c) (DF.sp d c λ(b:Int) i=>br (b==0) (ae d λj=>ld bU i (j.add 0) λ(k:Option Nat)=>aJ i #[(.slice none 0 0),(.slice none 0 0),(.slice none 0 0)] C0 λp l=>jo Oj (Qt yX (.map k) (.string name) (.pointer (some p))) l λm=>R b m) (R b i)))))
theorem JQ.of:∀{d name H R},JQ.vc d name H R->JQ.sp d name H R:=aU [] (by kernel_rfl)
def G5.vc (b:Option Addr)(kind:Int)(p:Sl)(H:aa)(R:Kp Int):Prop:=
 ae b λa=>ld aw H (a.add 0) λ(x:Option Addr)=>ae b λc=>ld aH H (c.add 1) λ(d:ByteArray)=>Ji.sp x d H λ(r:(Int×Int×Int)) H1=>br ((r.2.2==0)&&(kind !=0)) (ae b λf=>ld aw H1 (f.add 0) λ(g:Option Addr)=>Ak.sp g r.1 kind p H1 λ(e:Int) h=>br (e==0) (ae b λi=>ld aw h (i.add 0) λ(j:Option Addr)=>DN.sp j r.1 h λ(k:Int) o=>R k o) (R e h)) (br (r.2.2==0) (ae b λl=>ld aw H1 (l.add 0) λ(m:Option Addr)=>DN.sp m r.1 H1 λ(n:Int) q=>R n q) (R r.2.2 H1))
theorem G5.of:∀{b kind p H R},G5.vc b kind p H R->G5.sp b kind p H R:=aU [] (by kernel_rfl)
def JO.vc (h:Option Addr)(U:Int)(B:Sl)(C:Option Addr)(H:aa)(R:Kp Unit):Prop:=
 aJ H #[(.int .i64 U),B.v,(.pointer C)] jZ λp H1=>∃G:aa->Prop,G H1/\ae h λa=>dt ak G (a.add 0) λ(x:Sl)=>c9 (bR [(ab .i64),ak,aw]) 3 H1 p λ(k:(Int×Sl×Option Addr))=>aJ H1 #[(.int .i64 k.1),k.2.1.v,(.pointer k.2.2)] jZ λD S=>G S/\bf ak Oj (Oq #[Mm,Mm] Mm #[x.v,(.slice (some D) 1 1)]) S λ(s:Sl) V=>ae h λE=>st V (E.add 0) s.v λT=>ae h λF=>ld ak T (F.add 0) λ(I:Sl)=>ax Int (Ol.wrap ((I.n:Int) - 1)) T λnext i l=>br (decide (i>0)) (ae h λJ=>ld gn l (J.add 1) λ(K:Value)=>ae h λL=>ld ak l (L.add 0) λ(o:Sl)=>ae o.a λM=>(0<=i/\i<(o.n:Int))/\c9 (bR [(ab .i64),ak,aw]) 3 l (M.add (i.toNat*3)) λ(m:(Int×Sl×Option Addr))=>ae h λN=>ld ak l (N.add 0) λ(q:Sl)=>ae q.a λO=>(0<=(Ol.wrap (Pe (Ol.wrap (i - 1)) (2:Int)))/\(Ol.wrap (Pe (Ol.wrap (i - 1)) (2:Int)))<(q.n:Int))/\c9 (bR [(ab .i64),ak,aw]) 3 l (O.add ((Ol.wrap (Pe (Ol.wrap (i - 1)) (2:Int))).toNat*3)) λ(n:(Int×Sl×Option Addr))=>yI Oj K [(.agg #[(.int .i64 m.1),m.2.1.v,(.pointer m.2.2)]),(.agg #[(.int .i64 n.1),n.2.1.v,(.pointer n.2.2)])] l λ(r:Bool) d=>br (!r) (R () d) (ae h λP=>ld ak d (P.add 0) λ(e:Sl)=>ae h λQ=>ld ak d (Q.add 0) λ(f:Sl)=>ae h λt=>ld ak d (t.add 0) λ(g:Sl)=>ae g.a λu=>(0<=(Ol.wrap (Pe (Ol.wrap (i - 1)) (2:Int)))/\(Ol.wrap (Pe (Ol.wrap (i - 1)) (2:Int)))<(g.n:Int))/\c9 (bR [(ab .i64),ak,aw]) 3 d (u.add ((Ol.wrap (Pe (Ol.wrap (i - 1)) (2:Int))).toNat*3)) λ(b:(Int×Sl×Option Addr))=>ae h λw=>ld ak d (w.add 0) λ(j:Sl)=>ae j.a λy=>(0<=i/\i<(j.n:Int))/\c9 (bR [(ab .i64),ak,aw]) 3 d (y.add (i.toNat*3)) λ(c:(Int×Sl×Option Addr))=>ae e.a λz=>(0<=i/\i<(e.n:Int))/\jo Oj (OI jZ (.pointer (some (z.add (i.toNat*3)))) (.agg #[(.int .i64 b.1),b.2.1.v,(.pointer b.2.2)])) d λW=>ae f.a λA=>(0<=(Ol.wrap (Pe (Ol.wrap (i - 1)) (2:Int)))/\(Ol.wrap (Pe (Ol.wrap (i - 1)) (2:Int)))<(f.n:Int))/\jo Oj (OI jZ (.pointer (some (A.add ((Ol.wrap (Pe (Ol.wrap (i - 1)) (2:Int))).toNat*3)))) (.agg #[(.int .i64 c.1),c.2.1.v,(.pointer c.2.2)])) W λX=>next (Ol.wrap (Pe (Ol.wrap (i - 1)) (2:Int))) X)) (R () l)
theorem JO.of:∀{h c a b H R},JO.vc h c a b H R->JO.sp h c a b H R:=aU [(3,[(4,(ab .i64))])] (by kernel_rfl)
def G2.vc (b:Option Addr)(H:aa)(R:Kp Int):Prop:=
 ae b λa=>ld (ab .i64) H (a.add 4) λ(x:Int)=>br (x !=0) (ae b λc=>ld (ab .i64) H (c.add 4) λ(d:Int)=>R d H) (ae b λe=>ld ay H (e.add 5) λ(f:Bool)=>br f (R (2:Int) H) (R (0:Int) H))
theorem G2.of:∀{b H R},G2.vc b H R->G2.sp b H R:=aU [] (by kernel_rfl)
def Ag.vc (l:Sl)(H:aa)(R:Kp Sl):Prop:=
 br ((l.n:Int)==0) (aJ H #[(.int .u8 0)] fD λp H1=>R (Sl.mk (some p) 1 1) H1) (bf ak Oj (Re dS (.int .i64 0) (.int .i64 (Ol.wrap ((8:Int)*(l.n:Int))))) H λ(out:Sl) e=>ax (Sl×Int) (out,(0:Int)) e λnext z d=>br (decide (z.2<(l.n:Int))) (ae l.a λa=>(0<=z.2/\z.2<(l.n:Int))/\ld (ab .u64) d (a.add (z.2.toNat*1)) λ(n:Int)=>Ky.sp (zc Oj Fy) n d λ(r:Array Value) f=>aJ f (zc Oj Fy) Fy λc g=>jo Oj (OI Fy (.pointer (some c)) (.agg r)) g λh=>bf ak Oj (Oq #[dS,dS] dS #[z.1.v,(.slice (cE (some c) 8 0 1) (8 - 0) (8 - 0))]) h λ(b:Sl) i=>next (b,Ol.wrap (z.2+1)) i) (R z.1 d))
theorem Ag.of:∀{l H R},Ag.vc l H R->Ag.sp l H R:=aU [(5,[(3,ak),(17,(ab .i64))])] (by kernel_rfl)
def I7.vc (w:Option Addr)(H:aa)(R:Kp Int):Prop:=
 ae w λa=>ld (ab .i64) H (a.add 7) λ(x:Int)=>br (x==0) (R (0:Int) H) (ae w λb=>ae w λc=>ld ak H (c.add 6) λ(d:Sl)=>G5.sp (some (b.add 0)) (1:Int) d H λ(e:Int) H1=>ae w λf=>st H1 (f.add 6) (.slice none 0 0) λi=>ae w λg=>st i (g.add 7) (.int .i64 0) λj=>ae w λh=>Ca.sp (some (h.add 0)) e j λ(r:Int) k=>R r k)
theorem I7.of:∀{w H R},I7.vc w H R->I7.sp w H R:=aU [] (by kernel_rfl)
def G7.vc (p:Option Addr)(name:ByteArray)(page:Int)(H:aa)(R:Kp (Int×Int)):Prop:=
 DR.sp p H λ(e:Int) H1=>br (e !=0) (R ((0:Int),e) H1) (aJ H1 (zc Oj wX) wX λb l=>jo Oj (OI wX (.pointer (some b)) (.agg #[(.string name),(.int .i64 page)])) l λd=>ae p λa=>ld bU d (a.add 2) λ(x:Option Nat)=>c9 (bR [aH,(ab .i64)]) 2 d b λ(f:(ByteArray×Int))=>DK (aR [aw,ay]) Oj (PM xX (.map x) (.agg #[(.string f.1),(.int .i64 f.2)]) true) d λ(g:(Option Addr×Bool))=>br g.2 (FH.sp p g.1 d λ(r:Int) m=>R (r,(0:Int)) m) (c9 (bR [aH,(ab .i64)]) 2 d b λ(h:(ByteArray×Int))=>KB.sp p h.1 h.2 d λ(c:(Option Addr×Int)) k=>br (c.2!=0) (vC.sp p c.2 k λ(i:Int) n=>R ((0:Int),i) n) (Cw.sp p c.1 k λ(j:Int) o=>R (j,(0:Int)) o)))
theorem G7.of:∀{p name page H R},G7.vc p name page H R->G7.sp p name page H R:=aU [] (by kernel_rfl)
def Ak.vc (p:Option Addr)(h kind:Int)(b:Sl)(H:aa)(R:Kp Int):Prop:=
 G1.sp p h H λ(r:(Option Addr×Int)) H1=>br (r.2!=0) (R r.2 H1) (br (decide ((b.n:Int)>504)) (R (2:Int) H1) (DQ.sp b H1 λ(c:Sl) f=>ae r.1 λa=>st f (a.add 2) (.int .u8 kind) λg=>ae r.1 λd=>st g (d.add 3) c.v λi=>ae r.1 λe=>st i (e.add 4) (.bool true) λj=>R (0:Int) j))
theorem Ak.of:∀{p h kind b H R},Ak.vc p h kind b H R->Ak.sp p h kind b H R:=aU [] (by kernel_rfl)
def DN.vc (p:Option Addr)(h:Int)(H:aa)(R:Kp Int):Prop:=
 G1.sp p h H λ(r:(Option Addr×Int)) H1=>br (r.2!=0) (R r.2 H1) (ae p λa=>ld bU H1 (a.add 3) λ(x:Option Nat)=>bf gn Oj (PV #[LW,iH] Ar #[(.map x),(.int .i64 h)]) H1 λ(_:Value) m=>ae p λb=>ld (ab .i64) m (b.add 5) λ(c:Int)=>ae p λd=>st m (d.add 5) (.int .i64 (Ol.wrap (c+1))) λe=>ae r.1 λf=>ld (ab .i64) e (f.add 5) λ(g:Int)=>ae p λi=>ld (ab .i64) e (i.add 5) λ(j:Int)=>ae r.1 λk=>st e (k.add 5) (.int .i64 (Ol.wrap (g - 1))) λn=>ae r.1 λl=>st n (l.add 6) (.int .i64 j) λo=>R (0:Int) o)
theorem DN.of:∀{p h H R},DN.vc p h H R->DN.sp p h H R:=aU [] (by kernel_rfl)
def IL.vc (p:Option Addr)(name:ByteArray)(H:aa)(R:Kp Int):Prop:=
 DR.sp p H λ(e:Int) H1=>br (e !=0) (R e H1) (ae p λa=>ld aw H1 (a.add 0) λ(x:Option Addr)=>DT.sp x name H1 λ(r:(Int×Int)) q=>br (r.2!=0) (vC.sp p r.2 q λ(g:Int) t=>R g t) (IW.sp p name q λ(b:Sl) u=>ax Int 0 u λnext z c=>br (decide (z<(b.n:Int))) (ae b.a λh=>(0<=z/\z<(b.n:Int))/\ld aw c (h.add (z.toNat*1)) λ(f:Option Addr)=>ae f λi=>ld ay c (i.add 4) λ(j:Bool)=>br (!j) (next (Ol.wrap (z+1)) c) (DM.sp p f c λ(d:Int) s=>br (d !=0) (vC.sp p d s λ(k:Int) v=>R k v) (next (Ol.wrap (z+1)) s))) (ae p λl=>ld aw c (l.add 0) λ(m:Option Addr)=>Kj.sp m name c λ(n:Int) w=>vC.sp p n w λ(o:Int) y=>R o y)))
theorem IL.of:∀{p name H R},IL.vc p name H R->IL.sp p name H R:=aU [(8,[(34,(ab .i64))])] (by kernel_rfl)
def Ca.vc (b:Option Addr)(e:Int)(H:aa)(R:Kp Int):Prop:=
 br (e !=0) (ae b λa=>st H (a.add 4) (.int .i64 e) λH1=>R e H1) (R e H)
theorem Ca.of:∀{b e H R},Ca.vc b e H R->Ca.sp b e H R:=aU [] (by kernel_rfl)
def JP.vc (s:Sl)(H:aa)(R:Kp Sl):Prop:=
 br (decide ((s.n:Int)<2)) (R s H) (ax Int 1 H λnext k H1=>br (decide (k<(s.n:Int))) (ae s.a λa=>(0<=k/\k<(s.n:Int))/\ld ak H1 (a.add (k.toNat*1)) λ(x:Sl)=>ae s.a λd=>(0<=(Ol.wrap (k - 1))/\(Ol.wrap (k - 1))<(s.n:Int))/\ld ak H1 (d.add ((Ol.wrap (k - 1)).toNat*1)) λ(e:Sl)=>Fa.sp x e H1 λ(r:Bool) p=>br r ((0<=k/\k<=(s.n:Int))/\ax (Int×Int) (k,(1:Int)) p λb z c=>br (decide (z.2<((s.n - k.toNat:Nat):Int))) (ae (cE s.a s.c k.toNat 1) λf=>(0<=z.2/\z.2<((s.n - k.toNat:Nat):Int))/\ld ak c (f.add (z.2.toNat*1)) λ(g:Sl)=>ae (cE s.a s.c k.toNat 1) λh=>(0<=(Ol.wrap (z.2 - 1))/\(Ol.wrap (z.2 - 1))<((s.n - k.toNat:Nat):Int))/\ld ak c (h.add ((Ol.wrap (z.2 - 1)).toNat*1)) λ(i:Sl)=>Fa.sp g i c λ(j:Bool) l=>br (!j) (ae (cE s.a s.c k.toNat 1) λm=>(0<=z.2/\z.2<((s.n - k.toNat:Nat):Int))/\ld ak l (m.add (z.2.toNat*1)) λ(n:Sl)=>ae s.a λo=>(0<=z.1/\z.1<(s.n:Int))/\st l (o.add (z.1.toNat*1)) n.v λq=>b (Ol.wrap (z.1+1),Ol.wrap (z.2+1)) q) (b (z.1,Ol.wrap (z.2+1)) l)) ((0<=z.1/\z.1<=(s.n:Int))/\bf gn Oj (TE #[fF] Ar #[(.slice (cE s.a s.c z.1.toNat 1) (s.n - z.1.toNat) (s.c - z.1.toNat))]) c λ(_:Value) t=>(0<=z.1/\z.1<=(s.c:Int))/\R (Sl.mk (cE s.a s.c 0 1) (z.1.toNat - 0) (s.c - 0)) t)) (next (Ol.wrap (k+1)) p)) (R s H1))
theorem JP.of:∀{s H R},JP.vc s H R->JP.sp s H R:=aU [(4,[(5,(ab .i64))]),(9,[(5,(ab .i64)),(7,(ab .i64))])] (by kernel_rfl)
def Fa.vc (a b:Sl)(H:aa)(R:Kp Bool):Prop:=
 w6.sp a b H λ(r:Int) H1=>R (r==0) H1
theorem Fa.of:∀{a b H R},Fa.vc a b H R->Fa.sp a b H R:=aU [] (by kernel_rfl)
def IJ.vc (b:Option Addr)(page:Int)(H:aa)(R:Kp (Int×Sl×Int)):Prop:=
 ae b λa=>ld aw H (a.add 0) λ(x:Option Addr)=>ae b λd=>ld aH H (d.add 1) λ(f:ByteArray)=>G7.sp x f page H λ(r:(Int×Int)) H1=>br (r.2!=0) (R ((0:Int),(Sl.mk none 0 0),r.2) H1) (ae b λg=>ld aw H1 (g.add 0) λ(h:Option Addr)=>Ke.sp h r.1 H1 λ(c:(Int×Sl×Int)) i=>br (c.2.2==0) (ae b λj=>ld aw i (j.add 0) λ(k:Option Addr)=>DN.sp k r.1 i λ(e:Int) l=>R (c.1,c.2.1,e) l) (R (c.1,c.2.1,c.2.2) i))
theorem IJ.of:∀{b page H R},IJ.vc b page H R->IJ.sp b page H R:=aU [] (by kernel_rfl)
def DT.vc (d:Option Addr)(name:ByteArray)(H:aa)(R:Kp (Int×Int)):Prop:=
 DL.sp d name H λ(r:(Option Addr×Int)) H1=>br (r.2!=0) (R ((0:Int),r.2) H1) (ae r.1 λa=>ld ak H1 (a.add 0) λ(x:Sl)=>R ((x.n:Int),(0:Int)) H1)
theorem DT.of:∀{d name H R},DT.vc d name H R->DT.sp d name H R:=aU [] (by kernel_rfl)
def GW.vc (b:Sl)(width:Int)(H:aa)(R:Kp (Sl×Int)):Prop:=
 aJ H #[(.int .i64 width)] iH λp H1=>aJ H1 (zc Oj fF) fF λe H2=>aJ H2 (zc Oj Lk) Lk λf H3=>ld (ab .i64) H3 p λ(x:Int)=>Ih.sp x H3 λ(n:Int) L=>br (n==0) (st L e (.slice none 0 0) λH5=>st H5 f (.int .i64 60) λM=>ld ak M e λ(res:Sl)=>ld (ab .i64) M f λ(t:Int)=>R (res,t) M) (n≠0/\br ((PE (b.n:Int) n)!=0) (st L e (.slice none 0 0) λH7=>st H7 f (.int .i64 60) λN=>ld ak N e λ(u:Sl)=>ld (ab .i64) N f λ(v:Int)=>R (u,v) N) (n≠0/\bf ak Oj (Re fF (.int .i64 0) (.int .i64 (Ol.wrap (Pe (b.n:Int) n)))) L λ(sl:Sl) H9=>aJ H9 (zc Oj fF) fF λj O=>st O j sl.v λP=>JK.sp b n P λ(r:Value) Q=>oV Oj r Q (λl rec vs h KK=>iR (dh.dec [ak] vs) λ(z:Sl)=>h[l]?=some (.loop (rec .ready none))/\cut Unit (λJ=>ld (ab .i64) (h.setIfInBounds l (.loop (rec .busy none))) p λ(S:Int)=>br (S==0) (ae z.a λa=>(0<=(0:Int)/\(0:Int)<(z.n:Int))/\ld (ab .u8) (h.setIfInBounds l (.loop (rec .busy none))) (a.add ((0:Int).toNat*1)) λ(T:Int)=>br (T !=0) (st (h.setIfInBounds l (.loop (rec .busy none))) e (.slice none 0 0) λU=>st U f (.int .i64 60) λE=>E[l]?=some (.loop (rec .busy none))/\KK false (E.setIfInBounds l (.loop (rec .done (some .ret))))) (J () (h.setIfInBounds l (.loop (rec .busy none))))) (J () (h.setIfInBounds l (.loop (rec .busy none))))) λ(_:Unit) F=>ld (ab .i64) F p λ(G:Int)=>bf ak Oj (Re fG (.int .i64 G) (.int .i64 G)) F λ(k:Sl) I=>ld (ab .i64) I p λ(V:Int)=>ax Int 0 I λnext d m=>br (decide (d<(Ol.wrap ((8:Int)*V)))) (ae k.a λW=>(0<=(Ol.wrap (Pe d (8:Int)))/\(Ol.wrap (Pe d (8:Int)))<(k.n:Int))/\ld (ab .u64) m (W.add ((Ol.wrap (Pe d (8:Int))).toNat*1)) λ(X:Int)=>ae z.a λY=>(0<=d/\d<(z.n:Int))/\ld (ab .u8) m (Y.add (d.toNat*1)) λ(Z:Int)=>ae k.a λaf=>(0<=(Ol.wrap (Pe d (8:Int)))/\(Ol.wrap (Pe d (8:Int)))<(k.n:Int))/\st m (af.add ((Ol.wrap (Pe d (8:Int))).toNat*1)) (.int .u64 (yZ .u64 (lg .u64 X (8:Int)) (OW.wrap Z))) λan=>next (Ol.wrap (d+1)) an) (ld ak m j λ(a1:Sl)=>aJ m #[k.v] fG λa6 a7=>bf ak Oj (Oq #[fF,fF] fF #[a1.v,(.slice (some a6) 1 1)]) a7 λ(s:Sl) a8=>st a8 j s.v λK=>K[l]?=some (.loop (rec .busy none))/\KK true (K.setIfInBounds l (.loop (rec .ready none))))) (λc g=>ld ak g j λ(bb:Sl)=>st g e bb.v λbd=>st bd f (.int .i64 0) λo=>o[c]?=some (.deferred (some []))/\ld ak (o.setIfInBounds c (.deferred none)) e λ(w:Sl)=>ld (ab .i64) (o.setIfInBounds c (.deferred none)) f λ(y:Int)=>R (w,y) (o.setIfInBounds c (.deferred none))) (λi c g=>bif OQ i 0 then ld ak g j λ(bl:Sl)=>st g e bl.v λbn=>st bn f (.int .i64 0) λq=>q[c]?=some (.deferred (some []))/\ld ak (q.setIfInBounds c (.deferred none)) e λ(A:Sl)=>ld (ab .i64) (q.setIfInBounds c (.deferred none)) f λ(B:Int)=>R (A,B) (q.setIfInBounds c (.deferred none)) else False) (λc g=>g[c]?=some (.deferred (some []))/\ld ak (g.setIfInBounds c (.deferred none)) e λ(C:Sl)=>ld (ab .i64) (g.setIfInBounds c (.deferred none)) f λ(D:Int)=>R (C,D) (g.setIfInBounds c (.deferred none)))))
theorem GW.of:∀{b width H R},GW.vc b width H R->GW.sp b width H R:=aU [(200007,[(30,ak)]),(100009,[]),(11,[(43,(ab .i64))])] (by kernel_rfl)
def Kf.vc (b:Option Addr)(n:Int)(H:aa)(R:Kp Int):Prop:=
 ae b λa=>ld (ab .i64) H (a.add 3) λ(x:Int)=>ae b λd=>ld (ab .i64) H (d.add 3) λ(c:Int)=>c≠0/\R (Ol.wrap (Pe (Ol.wrap ((Ol.wrap (n+x)) - 1)) c)) H
theorem Kf.of:∀{b n H R},Kf.vc b n H R->Kf.sp b n H R:=aU [] (by kernel_rfl)
def JB.vc (r:Option Addr)(k:Int)(H:aa)(R:Kp Int):Prop:=
 ae r λa=>ld (ab .i64) H (a.add 8) λ(x:Int)=>br (x==k) (R (0:Int) H) (ae r λi=>IJ.sp (some (i.add 0)) (Ol.wrap (k+1)) H λ(b:(Int×Sl×Int)) H1=>br (b.2.2!=0) (ae r λj=>Ca.sp (some (j.add 0)) b.2.2 H1 λ(l:Int) A=>R l A) (ae r λm=>ld (ab .i64) H1 ((m.add 0).add 2) λ(o:Int)=>GW.sp b.2.1 o H1 λ(c:(Sl×Int)) d=>br ((b.1!=1)||(c.2!=0)) (ae r λp=>Ca.sp (some (p.add 0)) (280:Int) d λ(q:Int) B=>R q B) (ae r λs=>ld (ab .i64) d ((s.add 0).add 3) λ(e:Int)=>ae r λt=>ld (ab .i64) d (t.add 6) λ(f:Int)=>ae r λu=>ld (ab .i64) d ((u.add 0).add 3) λ(g:Int)=>br ((c.1.n:Int)!=(if (Ol.wrap (f - (Ol.wrap (k*g))))<e then (Ol.wrap (f - (Ol.wrap (k*g)))) else e)) (ae r λw=>Ca.sp (some (w.add 0)) (280:Int) d λ(y:Int) C=>R y C) (ae r λz=>st d (z.add 8) (.int .i64 k) λD=>ae r λh=>st D (h.add 9) c.1.v λE=>R (0:Int) E))))
theorem JB.of:∀{r k H R},JB.vc r k H R->JB.sp r k H R:=aU [] (by kernel_rfl)
def DJ.vc (d:Option Addr)(H:aa)(R:Kp Int):Prop:=
 br d.isNone (R (1:Int) H) (ae d λa=>ld ay H (a.add 9) λ(x:Bool)=>br x (R (4:Int) H) (R (0:Int) H))
theorem DJ.of:∀{d H R},DJ.vc d H R->DJ.sp d H R:=aU [] (by kernel_rfl)
def KN.vc (seq:Value)(H:aa)(R:Kp Sl):Prop:=
 Lp.sp seq H λ(s:Sl) H1=>MM.sp s H1 λ(_:Unit) a=>R s a
theorem KN.of:∀{seq H R},KN.vc seq H R->KN.sp seq H R:=aU [] (by kernel_rfl)
def Ll.vc (m:Option Nat)(H:aa)(R:Kp Value):Prop:=
 aJ H #[(.map m)] yX λp H1=>R (.func (.func Fk.no) #[] #[(.pointer (some p))]) H1
theorem Ll.of:∀{m H R},Ll.vc m H R->Ll.sp m H R:=aU [] (by kernel_rfl)
def HJ.vc (x:Int)(H:aa)(R:Kp Bool):Prop:=
 R (x !=x) H
theorem HJ.of:∀{x H R},HJ.vc x H R->HJ.sp x H R:=aU [] (by kernel_rfl)
def Hj.vc (width:Int)(H:aa)(R:Kp Int):Prop:=
 br ((decide (width<0))||(decide (width>16))) (R (0:Int) H) (R (if (Ol.wrap ((8:Int)*width))>1 then (Ol.wrap ((8:Int)*width)) else (1:Int)) H)
theorem Hj.of:∀{width H R},Hj.vc width H R->Hj.sp width H R:=aU [] (by kernel_rfl)
def DI.vc (s:Sl)(H:aa)(R:Kp Sl):Prop:=
 br s.a.isNone (R (Sl.mk none 0 0) H) (bf ak Oj (PH Ix 0 #[]) H λ(sl:Sl) H1=>bf ak Oj (Oq #[Ix,Ix] Ix #[sl.v,s.v]) H1 λ(a:Sl) b=>R a b)
theorem DI.of:∀{s H R},DI.vc s H R->DI.sp s H R:=aU [] (by kernel_rfl)
def IS.vc (x:Sl)(target:Int)(H:aa)(R:Kp (Int×Bool)):Prop:=
 ax (Int×Int) ((0:Int),(x.n:Int)) H λnext z H1=>br (decide (z.1<z.2)) (ae x.a λa=>(0<=(Ol.wrap (dI .u64 (OW.wrap (Ol.wrap (z.1+z.2))) (1:Int)))/\(Ol.wrap (dI .u64 (OW.wrap (Ol.wrap (z.1+z.2))) (1:Int)))<(x.n:Int))/\ld (ab .i64) H1 (a.add ((Ol.wrap (dI .u64 (OW.wrap (Ol.wrap (z.1+z.2))) (1:Int))).toNat*1)) λ(b:Int)=>Jj.sp b target H1 λ(r:Bool) i=>br r (next (Ol.wrap ((Ol.wrap (dI .u64 (OW.wrap (Ol.wrap (z.1+z.2))) (1:Int)))+1),z.2) i) (next (z.1,Ol.wrap (dI .u64 (OW.wrap (Ol.wrap (z.1+z.2))) (1:Int))) i)) (br (decide (z.1<(x.n:Int))) (ae x.a λc=>(0<=z.1/\z.1<(x.n:Int))/\ld (ab .i64) H1 (c.add (z.1.toNat*1)) λ(d:Int)=>br (d==target) (R (z.1,true) H1) (ae x.a λe=>(0<=z.1/\z.1<(x.n:Int))/\ld (ab .i64) H1 (e.add (z.1.toNat*1)) λ(f:Int)=>Jd.sp f H1 λ(g:Bool) j=>br g (Jd.sp target j λ(h:Bool) k=>R (z.1,h) k) (R (z.1,false) j))) (R (z.1,false) H1))
theorem IS.of:∀{x target H R},IS.vc x target H R->IS.sp x target H R:=aU [(3,[(7,(ab .i64)),(8,(ab .i64))])] (by kernel_rfl)
def GL.vc (l:Sl)(page:Int)(b:Array Value)(H:aa)(R:Kp Sl):Prop:=
 aJ H b uL λp H1=>ax Sl l H1 λnext c d=>br (decide ((c.n:Int)<=page)) (bf ak Oj (PH Ix 1 #[(0,(.agg (zc Oj uL)))]) d λ(sl:Sl) f=>bf ak Oj (Oq #[Ix,Ix] Ix #[c.v,sl.v]) f λ(e:Sl) g=>next e g) (c9 jU 512 d p λ(x:Array Value)=>ae c.a λa=>(0<=page/\page<(c.n:Int))/\jo Oj (OI uL (.pointer (some (a.add (page.toNat*512)))) (.agg x)) d λh=>R c h)
theorem GL.of:∀{l page b H R},GL.vc l page b H R->GL.sp l page b H R:=aU [(1,[(0,ak)])] (by kernel_rfl)
def J9.vc (d:Option Addr)(no:Int)(H:aa)(R:Kp Int):Prop:=
 ax (Int×Int) ((0:Int),(0:Int)) H λnext z H1=>ae d λa=>ld ak H1 (a.add 0) λ(x:Sl)=>br (decide (z.2<(x.n:Int))) (ax (Int×Int) (z.1,(0:Int)) H1 λc b e=>ae d λi=>ld ak e (i.add 0) λ(f:Sl)=>ae f.a λj=>(0<=z.2/\z.2<(f.n:Int))/\ld ak e ((j.add (z.2.toNat*3)).add 2) λ(k:Sl)=>br (decide (b.2<(k.n:Int))) (ae d λl=>ld ak e (l.add 0) λ(g:Sl)=>ae g.a λm=>(0<=z.2/\z.2<(g.n:Int))/\ld ak e ((m.add (z.2.toNat*3)).add 2) λ(h:Sl)=>ae h.a λn=>(0<=b.2/\b.2<(h.n:Int))/\ld (ab .i64) e ((n.add (b.2.toNat*3)).add 0) λ(o:Int)=>br (decide (o<no)) (c (Ol.wrap (b.1+1),Ol.wrap (b.2+1)) e) (c (b.1,Ol.wrap (b.2+1)) e)) (next (b.1,Ol.wrap (z.2+1)) e)) (R z.1 H1)
theorem J9.of:∀{d no H R},J9.vc d no H R->J9.sp d no H R:=aU [(3,[(5,(ab .i64)),(6,(ab .i64))]),(6,[(5,(ab .i64)),(7,(ab .i64))])] (by kernel_rfl)
def Hu.vc (l:Sl)(k f:Int)(g:ByteArray)(H:aa)(R:Kp Sl):Prop:=
 aJ H #[(.int .i64 k),(.int .i64 f),(.string g)] y6 λp H1=>bf ak Oj (Oq #[dM,dM] dM #[(.slice none 0 0),l.v]) H1 λ(out:Sl) m=>ax Sl out m λnext b e=>ld (ab .i64) e (p.add 1) λ(x:Int)=>br (decide ((b.n:Int)<=x)) (bf ak Oj (Re dS (.int .i64 512) (.int .i64 512)) e λ(sl:Sl) j=>vU j sl.a sl.n λ(str:ByteArray)=>aJ j #[(.string str)] dy λh n=>bf ak Oj (Oq #[dM,dM] dM #[b.v,(.slice (some h) 1 1)]) n λ(c:Sl) o=>next c o) (ld (ab .i64) e (p.add 1) λ(d:Int)=>ld aH e (p.add 2) λ(i:ByteArray)=>ae b.a λa=>(0<=d/\d<(b.n:Int))/\st e (a.add (d.toNat*1)) (.string i) λq=>R b q)
theorem Hu.of:∀{l c a b H R},Hu.vc l c a b H R->Hu.sp l c a b H R:=aU [(3,[(5,ak)])] (by kernel_rfl)
def Be.vc (d:Option Addr)(name:ByteArray)(H:aa)(R:Kp Int):Prop:=
 ax Int 0 H λnext i H1=>ae d λa=>ld ak H1 (a.add 0) λ(x:Sl)=>br (decide (i<(x.n:Int))) (ae d λc=>ld ak H1 (c.add 0) λ(b:Sl)=>ae b.a λe=>(0<=i/\i<(b.n:Int))/\ld aH H1 ((e.add (i.toNat*3)).add 0) λ(f:ByteArray)=>br (f.toList==name.toList) (R i H1) (next (Ol.wrap (i+1)) H1)) (R (-1:Int) H1)
theorem Be.of:∀{d name H R},Be.vc d name H R->Be.sp d name H R:=aU [(2,[(5,(ab .i64))])] (by kernel_rfl)
def DU.vc (i:ByteArray)(e f:Sl)(H:aa)(R:Kp Sl):Prop:=
 aJ H #[(.string i),e.v,f.v] uo λp H1=>ld ak H1 (p.add 1) λ(x:Sl)=>bf ak Oj (Oq #[dM,dM] dM #[(.slice none 0 0),x.v]) H1 λ(l:Sl) j=>ax (Sl×Int) (l,(0:Int)) j λnext z c=>ld ak c (p.add 2) λ(g:Sl)=>br (decide (z.2<(g.n:Int))) (ld ak c (p.add 2) λ(d:Sl)=>ae d.a λa=>(0<=z.2/\z.2<(d.n:Int))/\c9 (bR [(ab .i64),(ab .i64),aH]) 3 c (a.add (z.2.toNat*3)) λ(b:(Int×Int×ByteArray))=>Hu.sp z.1 b.1 b.2.1 b.2.2 c λ(h:Sl) k=>next (h,Ol.wrap (z.2+1)) k) (R z.1 c)
theorem DU.of:∀{c a b H R},DU.vc c a b H R->DU.sp c a b H R:=aU [(4,[(3,ak),(4,(ab .i64))])] (by kernel_rfl)
def DL.vc (d:Option Addr)(name:ByteArray)(H:aa)(R:Kp (Option Addr×Int)):Prop:=
 DJ.sp d H λ(e:Int) H1=>br (e !=0) (R (none,e) H1) (ae d λa=>ld bU H1 (a.add 0) λ(x:Option Nat)=>DK (aR [aw,ay]) Oj (PM yX (.map x) (.string name) true) H1 λ(b:(Option Addr×Bool))=>br b.2 (R (b.1,(0:Int)) H1) (R (none,(11:Int)) H1))
theorem DL.of:∀{d name H R},DL.vc d name H R->DL.sp d name H R:=aU [] (by kernel_rfl)
def DQ.vc (s:Sl)(H:aa)(R:Kp Sl):Prop:=
 br s.a.isNone (R (Sl.mk none 0 0) H) (aJ H #[] fD λp H1=>bf ak Oj (Oq #[dS,dS] dS #[(.slice (some p) 0 0),s.v]) H1 λ(a:Sl) b=>R a b)
theorem DQ.of:∀{s H R},DQ.vc s H R->DQ.sp s H R:=aU [] (by kernel_rfl)
def Iu.vc (s:Option Addr)(H:aa)(R:Kp ByteArray):Prop:=
 ae s λa=>ld (ab .i64) H (a.add 6) λ(x:Int)=>ae s λc=>st H (c.add 6) (.int .i64 (Ol.wrap (x+1))) λH1=>∃G:aa->Prop,G H1/\ae s λd=>dt aH G (d.add 1) λ(b:ByteArray)=>((b.size+(O2 #[126]).size:Nat):Int)<=9223372036854775807/\ae s λe=>ld (ab .i64) H1 (e.add 6) λ(f:Int)=>Gq.sp (Ol.wrap (f - 1)) H1 λ(r:ByteArray) g=>G g/\(((b++(O2 #[126])).size+r.size:Nat):Int)<=9223372036854775807/\R ((b++(O2 #[126]))++r) g
theorem Iu.of:∀{s H R},Iu.vc s H R->Iu.sp s H R:=aU [] (by kernel_rfl)
def J0.vc (p:Option Addr)(name:ByteArray)(width:Int)(rows:Sl)(H:aa)(R:Kp Int):Prop:=
 Ht.sp p name width H λ(r:(Option Addr×Int)) H1=>ax (Int×Int) (r.2,(0:Int)) H1 λnext z b=>br ((decide (z.2<(rows.n:Int)))&&(z.1==0)) (ae rows.a λa=>(0<=z.2/\z.2<(rows.n:Int))/\ld ak b (a.add (z.2.toNat*1)) λ(x:Sl)=>Bb.sp r.1 x b λ(e:Int) d=>next (e,Ol.wrap (z.2+1)) d) (br (z.1==0) (Hc.sp r.1 b λ(c:(Int×Int)) f=>R c.2 f) (R z.1 b))
theorem J0.of:∀{p name width rows H R},J0.vc p name width rows H R->J0.sp p name width rows H R:=aU [(3,[(10,(ab .i64)),(11,(ab .i64))])] (by kernel_rfl)
def Jl.vc (rows:Sl)(H:aa)(R:Kp Sl):Prop:=
 ax (Sl×Int) ((Sl.mk none 0 0),(0:Int)) H λnext z H1=>br (decide (z.2<(rows.n:Int))) (ae rows.a λa=>(0<=z.2/\z.2<(rows.n:Int))/\ld ak H1 (a.add (z.2.toNat*1)) λ(x:Sl)=>J7.sp z.1 x H1 λ(out:Sl) b=>next (out,Ol.wrap (z.2+1)) b) (R z.1 H1)
theorem Jl.of:∀{rows H R},Jl.vc rows H R->Jl.sp rows H R:=aU [(3,[(3,ak),(4,(ab .i64))])] (by kernel_rfl)
def J1.vc (s:Option Addr)(H:aa)(R:Kp (Int×Int)):Prop:=
 cut Unit (λJ=>ae s λa=>ld ak H (a.add 4) λ(x:Sl)=>br (decide ((x.n:Int)>0)) (Gr.sp s H λ(e:Int) H2=>br (e !=0) (R ((0:Int),e) H2) (J () H2)) (ae s λL=>ld ak H (L.add 5) λ(M:Sl)=>br ((M.n:Int)==0) (Gr.sp s H λ(j:Int) H3=>br (j !=0) (R ((0:Int),j) H3) (J () H3)) (J () H))) λ(_:Unit) H1=>ax Unit () H1 λnext _ d=>ae s λN=>ld ak d (N.add 5) λ(O:Sl)=>ae s λP=>ld (ab .i64) d (P.add 3) λ(Q:Int)=>br (decide ((O.n:Int)>=Q)) (ae s λS=>ld ak d (S.add 5) λ(f:Sl)=>ae s λT=>ld (ab .i64) d (T.add 3) λ(g:Int)=>(0<=(Ol.wrap (g - 1))/\(Ol.wrap (g - 1))<=(f.c:Int))/\bf ak Oj (Oq #[dM,dM] dM #[(.slice none 0 0),(.slice (cE f.a f.c 0 1) (((Ol.wrap (g - 1)).toNat) - 0) (f.c - 0))]) d λ(first:Sl) H5=>Iu.sp s H5 λ(name:ByteArray) U=>ae s λV=>ld aw U (V.add 0) λ(W:Option Addr)=>ae s λX=>ld (ab .i64) U (X.add 2) λ(Y:Int)=>Ey.sp W first name Y U λ(r:(Int×Int)) H7=>cut Int (λk=>br (r.2==0) (IF.sp s first H7 λ(Z:Int) H9=>k Z H9) (k r.2 H7)) λ(l:Int) K=>br (l !=0) (R ((0:Int),l) K) (ae s λaf=>ld ak K (af.add 5) λ(b:Sl)=>ae s λan=>ld (ab .i64) K (an.add 3) λ(c:Int)=>(0<=(Ol.wrap (c - 1))/\(Ol.wrap (c - 1))<=(b.n:Int))/\ae s λm=>st K (m.add 5) (.slice (cE b.a b.c ((Ol.wrap (c - 1)).toNat) 1) (b.n - ((Ol.wrap (c - 1)).toNat)) (b.c - ((Ol.wrap (c - 1)).toNat))) λn=>ae s λo=>ld ak n (o.add 5) λ(q:Sl)=>aJ n #[(.string name)] dy λp a1=>bf ak Oj (Oq #[dM,dM] dM #[q.v,(.slice (some p) 1 1)]) a1 λ(a6:Sl) a7=>ae s λt=>st a7 (t.add 5) a6.v λa8=>next () a8)) (ae s λu=>ld aw d (u.add 0) λ(v:Option Addr)=>ae s λw=>ld ak d (w.add 5) λ(y:Sl)=>ae s λz=>ld aH d (z.add 1) λ(A:ByteArray)=>ae s λB=>ld (ab .i64) d (B.add 2) λ(C:Int)=>Ey.sp v y A C d λ(h:(Int×Int)) i=>cut Int (λD=>br (h.2==0) (ae s λE=>ld ak i (E.add 5) λ(F:Sl)=>IF.sp s F i λ(bb:Int) bd=>D bb bd) (D h.2 i)) λ(G:Int) I=>br (G !=0) (R ((0:Int),G) I) (R (h.1,(0:Int)) I))
theorem J1.of:∀{s H R},J1.vc s H R->J1.sp s H R:=aU [(100005,[]),(5,[]),(100012,[(8,(ab .i64))]),(100019,[(10,(ab .i64))])] (by kernel_rfl)
def HK.vc (b:Option Addr)(page:Int)(H:aa)(R:Kp (Int×Sl×Int)):Prop:=
 ae b λa=>ld aw H (a.add 0) λ(x:Option Addr)=>ae b λd=>ld aH H (d.add 1) λ(e:ByteArray)=>HF.sp x e page H λ(r:(Int×Int)) H1=>br (r.2!=0) (R ((0:Int),(Sl.mk none 0 0),r.2) H1) (ae b λf=>ld aw H1 (f.add 0) λ(g:Option Addr)=>Jp.sp g r.1 H1 λ(c:(Int×Sl×Int)) h=>br (c.2.2!=0) (R ((0:Int),(Sl.mk none 0 0),c.2.2) h) (ae b λi=>ld aw h (i.add 0) λ(j:Option Addr)=>Fb.sp j r.1 h λ(k:Int) l=>R (c.1,c.2.1,k) l))
theorem HK.of:∀{b page H R},HK.vc b page H R->HK.sp b page H R:=aU [] (by kernel_rfl)
def IX.vc (b:Sl)(width:Int)(H:aa)(R:Kp (Sl×Int)):Prop:=
 Hj.sp width H λ(n:Int) H1=>br (n==0) (R ((Sl.mk none 0 0),(60:Int)) H1) (n≠0/\br ((PE (b.n:Int) n)!=0) (R ((Sl.mk none 0 0),(60:Int)) H1) (ax (Sl×Int) ((Sl.mk none 0 0),(0:Int)) H1 λnext z g=>br (decide (z.2<(b.n:Int))) (cut Unit (λJ=>br (width==0) (ae b.a λa=>(0<=z.2/\z.2<(b.n:Int))/\ld (ab .u8) g (a.add (z.2.toNat*1)) λ(x:Int)=>br (x !=0) (R ((Sl.mk none 0 0),(60:Int)) g) (J () g)) (J () g)) λ(_:Unit) o=>ax (Sl×Int) ((Sl.mk none 0 0),(0:Int)) o λe c m=>br (decide (c.2<width)) (ax (Int×Int) ((0:Int),(0:Int)) m λf d h=>br (decide (d.2<8)) (ae b.a λi=>(0<=(Ol.wrap ((Ol.wrap (z.2+(Ol.wrap ((8:Int)*c.2))))+d.2))/\(Ol.wrap ((Ol.wrap (z.2+(Ol.wrap ((8:Int)*c.2))))+d.2))<(b.n:Int))/\ld (ab .u8) h (i.add ((Ol.wrap ((Ol.wrap (z.2+(Ol.wrap ((8:Int)*c.2))))+d.2)).toNat*1)) λ(j:Int)=>f (OW.wrap ((OW.wrap (d.1*256))+(OW.wrap j)),Ol.wrap (d.2+1)) h) (aJ h #[(.int .u64 d.1)] iV λp q=>bf ak Oj (Oq #[fG,fG] fG #[c.1.v,(.slice (some p) 1 1)]) q λ(l:Sl) r=>e (l,Ol.wrap (c.2+1)) r)) (aJ m #[c.1.v] fG λk s=>bf ak Oj (Oq #[fF,fF] fF #[z.1.v,(.slice (some k) 1 1)]) s λ(out:Sl) t=>next (out,Ol.wrap (z.2+n)) t)) (R (z.1,(0:Int)) g)))
theorem IX.of:∀{b width H R},IX.vc b width H R->IX.sp b width H R:=aU [(6,[(7,ak),(8,(ab .i64))]),(100011,[]),(12,[(9,ak),(10,(ab .i64))]),(16,[(11,(ab .u64)),(12,(ab .i64))])] (by kernel_rfl)
def Jw.vc (n room:Int)(H:aa)(R:Kp Int):Prop:=
 room≠0/\R (Ol.wrap (Pe (Ol.wrap ((Ol.wrap (n+room)) - 1)) room)) H
theorem Jw.of:∀{n room H R},Jw.vc n room H R->Jw.sp n room H R:=aU [] (by kernel_rfl)
def JG.vc (d:Option Addr)(name:ByteArray)(H:aa)(R:Kp Int):Prop:=
 ae d λa=>ld ay H (a.add 8) λ(x:Bool)=>br x (R (4:Int) H) (Jq.sp name H λ(r:Bool) H1=>br (!r) (R (2:Int) H1) (Be.sp d name H1 λ(c:Int) b=>br (decide (c>=0)) (R (10:Int) b) (ae d λf=>ld ak b (f.add 0) λ(g:Sl)=>br ((g.n:Int)==4096) (R (3:Int) b) (E0.sp d b λ(e:Int) h=>br (e==0) (ae d λi=>ld ak h (i.add 0) λ(j:Sl)=>aJ h #[(.string name),(.slice none 0 0),(.slice none 0 0)] uo λp l=>bf ak Oj (Oq #[Df,Df] Df #[j.v,(.slice (some p) 1 1)]) l λ(s:Sl) m=>ae d λk=>st m (k.add 0) s.v λn=>R e n) (R e h)))))
theorem JG.of:∀{d name H R},JG.vc d name H R->JG.sp d name H R:=aU [] (by kernel_rfl)
def I9.vc (b:Option Addr)(kind:Int)(p:Sl)(H:aa)(R:Kp Int):Prop:=
 ae b λa=>ld aw H (a.add 0) λ(x:Option Addr)=>ae b λc=>ld aH H (c.add 1) λ(d:ByteArray)=>KC.sp x d H λ(r:(Int×Int×Int)) H1=>br ((r.2.2==0)&&(kind !=0)) (ae b λf=>ld aw H1 (f.add 0) λ(g:Option Addr)=>Je.sp g r.1 kind p H1 λ(e:Int) h=>br (e==0) (ae b λi=>ld aw h (i.add 0) λ(j:Option Addr)=>Fb.sp j r.1 h λ(k:Int) o=>R k o) (R e h)) (br (r.2.2==0) (ae b λl=>ld aw H1 (l.add 0) λ(m:Option Addr)=>Fb.sp m r.1 H1 λ(n:Int) q=>R n q) (R r.2.2 H1))
theorem I9.of:∀{b kind p H R},I9.vc b kind p H R->I9.sp b kind p H R:=aU [] (by kernel_rfl)
def G6.vc (b:Option Addr)(H:aa)(R:Kp Int):Prop:=
 ae b λa=>ld (ab .i64) H (a.add 3) λ(x:Int)=>br (x !=0) (ae b λc=>ld (ab .i64) H (c.add 3) λ(d:Int)=>R d H) (ae b λe=>ld ay H (e.add 4) λ(f:Bool)=>br f (R (2:Int) H) (R (0:Int) H))
theorem G6.of:∀{b H R},G6.vc b H R->G6.sp b H R:=aU [] (by kernel_rfl)
def Jr.vc (r:Option Addr)(k:Int)(H:aa)(R:Kp Int):Prop:=
 ae r λa=>ld (ab .i64) H (a.add 7) λ(x:Int)=>br (x==(Ol.wrap (k+1))) (R (0:Int) H) (ae r λf=>ld (ab .i64) H ((f.add 0).add 2) λ(g:Int)=>BN.sp g H λ(room:Int) H1=>ae r λh=>HK.sp (some (h.add 0)) (Ol.wrap (k+1)) H1 λ(b:(Int×Sl×Int)) i=>br (b.2.2!=0) (ae r λj=>Cz.sp (some (j.add 0)) b.2.2 i λ(l:Int) z=>R l z) (ae r λm=>ld (ab .i64) i ((m.add 0).add 2) λ(o:Int)=>IX.sp b.2.1 o i λ(c:(Sl×Int)) e=>br ((b.1!=1)||(c.2!=0)) (ae r λp=>Cz.sp (some (p.add 0)) (280:Int) e λ(q:Int) A=>R q A) (ae r λs=>ld (ab .i64) e (s.add 5) λ(d:Int)=>br ((c.1.n:Int)!=(if (Ol.wrap (d - (Ol.wrap (k*room))))<room then (Ol.wrap (d - (Ol.wrap (k*room)))) else room)) (ae r λt=>Cz.sp (some (t.add 0)) (280:Int) e λ(u:Int) B=>R u B) (ae r λw=>st e (w.add 7) (.int .i64 (Ol.wrap (k+1))) λC=>ae r λy=>st C (y.add 8) c.1.v λD=>R (0:Int) D))))
theorem Jr.of:∀{r k H R},Jr.vc r k H R->Jr.sp r k H R:=aU [] (by kernel_rfl)
def IE.vc (w:Option Addr)(H:aa)(R:Kp Int):Prop:=
 ae w λa=>ld (ab .i64) H (a.add 6) λ(x:Int)=>br (x==0) (R (0:Int) H) (ae w λb=>ae w λc=>ld ak H (c.add 5) λ(d:Sl)=>I9.sp (some (b.add 0)) (1:Int) d H λ(e:Int) H1=>ae w λf=>st H1 (f.add 5) (.slice none 0 0) λi=>ae w λg=>st i (g.add 6) (.int .i64 0) λj=>ae w λh=>Cz.sp (some (h.add 0)) e j λ(r:Int) k=>R r k)
theorem IE.of:∀{w H R},IE.vc w H R->IE.sp w H R:=aU [] (by kernel_rfl)
def HF.vc (p:Option Addr)(name:ByteArray)(page:Int)(H:aa)(R:Kp (Int×Int)):Prop:=
 ae p λa=>ld (ab .i64) H (a.add 6) λ(x:Int)=>br (x !=0) (ae p λN=>ld (ab .i64) H (N.add 6) λ(O:Int)=>R ((0:Int),O) H) (Hw.sp p name page H λ(i:Int) H1=>br (decide (i>=0)) (GP.sp p i H1 λ(r:Int) H2=>R (r,(0:Int)) H2) (ae p λP=>ld aw H1 (P.add 0) λ(Q:Option Addr)=>Dh.sp Q name H1 λ(f:(Int×Int)) k=>br ((f.2==0)&&((decide (page<0))||(decide (page>=f.1)))) (br ((12:Int)==0) (GQ.sp p k λ(e:Int) S=>br (e !=0) (nE.sp p e S λ(T:Int) H5=>R ((0:Int),T) H5) (ae p λU=>ld aw S (U.add 0) λ(V:Option Addr)=>CR.sp V name page S λ(l:(Sl×Int)) H6=>br (l.2!=0) (nE.sp p l.2 H6 λ(W:Int) H7=>R ((0:Int),W) H7) (GH.sp l.1 H6 λ(g:(Int×Sl×Int)) X=>br (g.2.2!=0) (nE.sp p g.2.2 X λ(Y:Int) H9=>R ((0:Int),Y) H9) (vU X g.2.1.a g.2.1.n λ(str:ByteArray)=>Cg.sp p name page g.1 str false (Sl.mk none 0 0) (0:Int) X λ(Z:Int) af=>R (Z,(0:Int)) af)))) (br ((12:Int)!=0) (nE.sp p (12:Int) k λ(an:Int) a1=>R ((0:Int),an) a1) (ae p λa6=>ld aw k (a6.add 0) λ(a7:Option Addr)=>CR.sp a7 name page k λ(m:(Sl×Int)) w=>br (m.2!=0) (nE.sp p m.2 w λ(y:Int) a8=>R ((0:Int),y) a8) (GH.sp m.1 w λ(b:(Int×Sl×Int)) o=>br (b.2.2!=0) (nE.sp p b.2.2 o λ(z:Int) bb=>R ((0:Int),z) bb) (vU o b.2.1.a b.2.1.n λ(str_1:ByteArray)=>Cg.sp p name page b.1 str_1 false (Sl.mk none 0 0) (0:Int) o λ(A:Int) bd=>R (A,(0:Int)) bd))))) (br (f.2==0) (GQ.sp p k λ(B:Int) q=>br (B !=0) (nE.sp p B q λ(C:Int) bl=>R ((0:Int),C) bl) (ae p λbn=>ld aw q (bn.add 0) λ(bs:Option Addr)=>CR.sp bs name page q λ(h:(Sl×Int)) D=>br (h.2!=0) (nE.sp p h.2 D λ(E:Int) bx=>R ((0:Int),E) bx) (GH.sp h.1 D λ(c:(Int×Sl×Int)) s=>br (c.2.2!=0) (nE.sp p c.2.2 s λ(F:Int) bA=>R ((0:Int),F) bA) (vU s c.2.1.a c.2.1.n λ(t:ByteArray)=>Cg.sp p name page c.1 t false (Sl.mk none 0 0) (0:Int) s λ(G:Int) bB=>R (G,(0:Int)) bB)))) (br (f.2!=0) (nE.sp p f.2 k λ(I:Int) bC=>R ((0:Int),I) bC) (ae p λbD=>ld aw k (bD.add 0) λ(bM:Option Addr)=>CR.sp bM name page k λ(j:(Sl×Int)) J=>br (j.2!=0) (nE.sp p j.2 J λ(K:Int) bN=>R ((0:Int),K) bN) (GH.sp j.1 J λ(d:(Int×Sl×Int)) u=>br (d.2.2!=0) (nE.sp p d.2.2 u λ(L:Int) bO=>R ((0:Int),L) bO) (vU u d.2.1.a d.2.1.n λ(v:ByteArray)=>Cg.sp p name page d.1 v false (Sl.mk none 0 0) (0:Int) u λ(M:Int) b0=>R (M,(0:Int)) b0)))))))
theorem HF.of:∀{p name page H R},HF.vc p name page H R->HF.sp p name page H R:=aU [] (by kernel_rfl)
def Je.vc (p:Option Addr)(h kind:Int)(b:Sl)(H:aa)(R:Kp Int):Prop:=
 GU.sp p h H λ(i:Int) H1=>ae p λa=>ld (ab .i64) H1 (a.add 6) λ(x:Int)=>br (x !=0) (ae p λf=>ld (ab .i64) H1 (f.add 6) λ(g:Int)=>R g H1) (br (decide (i<0)) (R (32:Int) H1) (br (decide ((b.n:Int)>504)) (R (2:Int) H1) (ae p λj=>ld ak H1 (j.add 2) λ(c:Sl)=>ae c.a λk=>(0<=i/\i<(c.n:Int))/\st H1 ((k.add (i.toNat*7)).add 2) (.int .u8 kind) λl=>ae p λm=>ld ak l (m.add 2) λ(d:Sl)=>vU l b.a b.n λ(str:ByteArray)=>ae d.a λn=>(0<=i/\i<(d.n:Int))/\st l ((n.add (i.toNat*7)).add 3) (.string str) λr=>ae p λo=>ld ak r (o.add 2) λ(e:Sl)=>ae e.a λq=>(0<=i/\i<(e.n:Int))/\st r ((q.add (i.toNat*7)).add 4) (.bool true) λs=>R (0:Int) s)))
theorem Je.of:∀{p h kind b H R},Je.vc p h kind b H R->Je.sp p h kind b H R:=aU [] (by kernel_rfl)
def Kl.vc (width rows:Int)(H:aa)(R:Kp Sl):Prop:=
 aJ H #[(.int .u8 (Pn.wrap width))] fD λa H1=>aJ H1 #[(.int .u64 (OW.wrap rows))] iV λp b=>Iz.sp (Sl.mk (some p) 1 1) b λ(r:Sl) c=>bf ak Oj (Oq #[dS,dS] dS #[(.slice (some a) 1 1),r.v]) c λ(out:Sl) d=>R out d
theorem Kl.of:∀{width rows H R},Kl.vc width rows H R->Kl.sp width rows H R:=aU [] (by kernel_rfl)
def Fb.vc (p:Option Addr)(h:Int)(H:aa)(R:Kp Int):Prop:=
 GU.sp p h H λ(i:Int) H1=>ae p λa=>ld (ab .i64) H1 (a.add 6) λ(x:Int)=>br (x !=0) (ae p λy=>ld (ab .i64) H1 (y.add 6) λ(A:Int)=>R A H1) (br (decide (i<0)) (R (32:Int) H1) (ax (Sl×Int) ((Sl.mk none 0 0),(0:Int)) H1 λnext z b=>ae p λB=>ld ak b (B.add 2) λ(e:Sl)=>ae e.a λC=>(0<=i/\i<(e.n:Int))/\ld ak b ((C.add (i.toNat*7)).add 5) λ(D:Sl)=>br (decide (z.2<(D.n:Int))) (ae p λE=>ld ak b (E.add 2) λ(f:Sl)=>ae f.a λF=>(0<=i/\i<(f.n:Int))/\ld ak b ((F.add (i.toNat*7)).add 5) λ(g:Sl)=>ae g.a λG=>(0<=z.2/\z.2<(g.n:Int))/\ld (ab .i64) b (G.add (z.2.toNat*1)) λ(I:Int)=>br (I !=h) (ae p λJ=>ld ak b (J.add 2) λ(j:Sl)=>ae j.a λK=>(0<=i/\i<(j.n:Int))/\ld ak b ((K.add (i.toNat*7)).add 5) λ(k:Sl)=>ae k.a λL=>(0<=z.2/\z.2<(k.n:Int))/\ld (ab .i64) b (L.add (z.2.toNat*1)) λ(M:Int)=>aJ b #[(.int .i64 M)] iH λN Q=>bf ak Oj (Oq #[y9,y9] y9 #[z.1.v,(.slice (some N) 1 1)]) Q λ(l:Sl) S=>next (l,Ol.wrap (z.2+1)) S) (next (z.1,Ol.wrap (z.2+1)) b)) (ae p λm=>ld ak b (m.add 2) λ(c:Sl)=>ae c.a λn=>(0<=i/\i<(c.n:Int))/\st b ((n.add (i.toNat*7)).add 5) z.1.v λP=>ae p λo=>ld (ab .i64) P (o.add 4) λ(q:Int)=>ae p λr=>st P (r.add 4) (.int .i64 (Ol.wrap (q+1))) λO=>ae p λs=>ld ak O (s.add 2) λ(d:Sl)=>ae p λt=>ld (ab .i64) O (t.add 4) λ(u:Int)=>ae d.a λw=>(0<=i/\i<(d.n:Int))/\st O ((w.add (i.toNat*7)).add 6) (.int .i64 u) λT=>R (0:Int) T)))
theorem Fb.of:∀{p h H R},Fb.vc p h H R->Fb.sp p h H R:=aU [(8,[(6,ak),(7,(ab .i64))])] (by kernel_rfl)
def JA.vc (p:Option Addr)(name:ByteArray)(H:aa)(R:Kp Int):Prop:=
 ae p λa=>ld (ab .i64) H (a.add 6) λ(x:Int)=>br (x !=0) (ae p λd=>ld (ab .i64) H (d.add 6) λ(f:Int)=>R f H) (ae p λg=>ld aw H (g.add 0) λ(h:Option Addr)=>Dh.sp h name H λ(r:(Int×Int)) H1=>br (r.2!=0) (nE.sp p r.2 H1 λ(j:Int) y=>R j y) (ax Int 0 H1 λnext k l=>br (decide (k<r.1)) (Hw.sp p name k l λ(i:Int) b=>br (decide (i>=0)) (ae p λm=>ld ak b (m.add 2) λ(c:Sl)=>ae c.a λn=>(0<=i/\i<(c.n:Int))/\ld ay b ((n.add (i.toNat*7)).add 4) λ(o:Bool)=>br o (Ie.sp p i b λ(e:Int) w=>br (e !=0) (nE.sp p e w λ(q:Int) z=>R q z) (next (Ol.wrap (k+1)) w)) (next (Ol.wrap (k+1)) b)) (next (Ol.wrap (k+1)) b)) (ae p λs=>ld aw l (s.add 0) λ(t:Option Addr)=>Jg.sp t name l λ(u:Int) A=>nE.sp p u A λ(v:Int) B=>R v B)))
theorem JA.of:∀{p name H R},JA.vc p name H R->JA.sp p name H R:=aU [(7,[(7,(ab .i64))])] (by kernel_rfl)
def Cz.vc (b:Option Addr)(e:Int)(H:aa)(R:Kp Int):Prop:=
 br (e !=0) (ae b λa=>ld (ab .i64) H (a.add 3) λ(x:Int)=>br (x==0) (ae b λc=>st H (c.add 3) (.int .i64 e) λH1=>R e H1) (R e H)) (R e H)
theorem Cz.of:∀{b e H R},Cz.vc b e H R->Cz.sp b e H R:=aU [] (by kernel_rfl)
def Iz.vc (l:Sl)(H:aa)(R:Kp Sl):Prop:=
 br ((l.n:Int)==0) (aJ H #[(.int .u8 0)] fD λp H1=>R (Sl.mk (some p) 1 1) H1) (ax (Sl×Int) ((Sl.mk none 0 0),(0:Int)) H λnext z f=>br (decide (z.2<(l.n:Int))) (ax (Sl×Int) (z.1,(56:Int)) f λc b d=>br (decide (b.2>=0)) (ae l.a λa=>(0<=z.2/\z.2<(l.n:Int))/\ld (ab .u64) d (a.add (z.2.toNat*1)) λ(x:Int)=>0<=b.2/\aJ d #[(.int .u8 (Pn.wrap (dI .u64 x b.2)))] fD λe g=>bf ak Oj (Oq #[dS,dS] dS #[b.1.v,(.slice (some e) 1 1)]) g λ(out:Sl) h=>c (out,Ol.wrap (b.2 - 8)) h) (next (b.1,Ol.wrap (z.2+1)) d)) (R z.1 f))
theorem Iz.of:∀{l H R},Iz.vc l H R->Iz.sp l H R:=aU [(5,[(3,ak),(4,(ab .i64))]),(8,[(3,ak),(5,(ab .i64))])] (by kernel_rfl)
def Ku.vc (i:Int)(H:aa)(R:Kp ByteArray):Prop:=
 KW.sp i H λ(r:ByteArray) H1=>R r H1
theorem Ku.of:∀{i H R},Ku.vc i H R->Ku.sp i H R:=aU [] (by kernel_rfl)
def JI.vc (p:Option Addr)(name:ByteArray)(H:aa)(R:Kp Int):Prop:=
 DR.sp p H λ(e:Int) H1=>br (e !=0) (R e H1) (ae p λa=>ld aw H1 (a.add 0) λ(x:Option Addr)=>DT.sp x name H1 λ(r:(Int×Int)) s=>br (r.2!=0) (vC.sp p r.2 s λ(d:Int) u=>R d u) (IW.sp p name s λ(l:Sl) v=>Ks.sp l v λ(g:Bool) t=>br g (R (31:Int) t) (ax Int 0 t λnext z b=>br (decide (z<(l.n:Int))) (ae l.a λh=>(0<=z/\z<(l.n:Int))/\ld aw b (h.add (z.toNat*1)) λ(f:Option Addr)=>ae p λi=>ld bU b (i.add 2) λ(j:Option Nat)=>ae f λk=>c9 (bR [aH,(ab .i64)]) 2 b (k.add 0) λ(c:(ByteArray×Int))=>bf gn Oj (PV #[xX,wX] Ar #[(.map j),(.agg #[(.string c.1),(.int .i64 c.2)])]) b λ(_:Value) w=>next (Ol.wrap (z+1)) w) (ae p λm=>ld aw b (m.add 0) λ(n:Option Addr)=>JW.sp n name b λ(o:Int) y=>vC.sp p o y λ(q:Int) A=>R q A))))
theorem JI.of:∀{p name H R},JI.vc p name H R->JI.sp p name H R:=aU [(11,[(37,(ab .i64))])] (by kernel_rfl)
def IM.vc (s:ByteArray)(H:aa)(R:Kp Bool):Prop:=
 R ((!(s.toList==QI.toList))&&(decide ((s.size:Int)<=100))) H
theorem IM.of:∀{s H R},IM.vc s H R->IM.sp s H R:=aU [] (by kernel_rfl)
def DF.vc (d:Option Addr)(H:aa)(R:Kp Int):Prop:=
 ae d λa=>ld ay H ((a.add 6).add 0) λ(x:Bool)=>br x (ae d λb=>ld (ab .i64) H ((b.add 6).add 1) λ(c:Int)=>br (c==0) (ae d λe=>st H (e.add 9) (.bool true) λH1=>R (4:Int) H1) (ae d λf=>ld (ab .i64) H ((f.add 6).add 1) λ(g:Int)=>ae d λh=>st H ((h.add 6).add 1) (.int .i64 (Ol.wrap (g - 1))) λo=>ae d λi=>ld (ab .i64) o (i.add 4) λ(j:Int)=>ae d λk=>st o (k.add 4) (.int .i64 (Ol.wrap (j+1))) λp=>R (0:Int) p)) (ae d λl=>ld (ab .i64) H (l.add 4) λ(m:Int)=>ae d λn=>st H (n.add 4) (.int .i64 (Ol.wrap (m+1))) λq=>R (0:Int) q)
theorem DF.of:∀{d H R},DF.vc d H R->DF.sp d H R:=aU [] (by kernel_rfl)
def Ji.vc (p:Option Addr)(name:ByteArray)(H:aa)(R:Kp (Int×Int×Int)):Prop:=
 DR.sp p H λ(e:Int) H1=>br (e !=0) (R ((0:Int),(0:Int),e) H1) (ae p λa=>ld aw H1 (a.add 0) λ(x:Option Addr)=>DT.sp x name H1 λ(r:(Int×Int)) z=>br (r.2==0) (Hg.sp p z λ(c:Int) B=>aJ B #[(.string name),(.int .i64 r.1),(.int .u8 0),(.slice none 0 0),(.bool false),(.int .i64 0),(.int .i64 0)] KM λd j=>br (c==0) (DM.sp p (some d) j λ(g:Int) A=>br (g !=0) (vC.sp p g A λ(k:Int) C=>R ((0:Int),(0:Int),k) C) (Cw.sp p (some d) A λ(l:Int) D=>R (l,r.1,(0:Int)) D)) (br (c !=0) (vC.sp p c j λ(m:Int) E=>R ((0:Int),(0:Int),m) E) (Cw.sp p (some d) j λ(n:Int) F=>R (n,r.1,(0:Int)) F))) (aJ z #[(.string name),(.int .i64 r.1),(.int .u8 0),(.slice none 0 0),(.bool false),(.int .i64 0),(.int .i64 0)] KM λb f=>br (r.2==0) (DM.sp p (some b) f λ(h:Int) i=>br (h !=0) (vC.sp p h i λ(o:Int) q=>R ((0:Int),(0:Int),o) q) (Cw.sp p (some b) i λ(s:Int) t=>R (s,r.1,(0:Int)) t)) (br (r.2!=0) (vC.sp p r.2 f λ(u:Int) v=>R ((0:Int),(0:Int),u) v) (Cw.sp p (some b) f λ(w:Int) y=>R (w,r.1,(0:Int)) y))))
theorem Ji.of:∀{p name H R},Ji.vc p name H R->Ji.sp p name H R:=aU [] (by kernel_rfl)
def Ky.vc (b:Array Value)(n:Int)(H:aa)(R:Kp (Array Value)):Prop:=
 aJ H b Fy λp H1=>aJ H1 (zc Oj Fy) Fy λa e=>ax Int 0 e λnext z c=>br (decide (z<8)) (0<=(Ol.wrap ((56:Int) - (Ol.wrap ((8:Int)*z))))/\(0<=z/\z<((8:Nat):Int))/\st c (p.add (z.toNat*1)) (.int .u8 (Pn.wrap (dI .u64 n (Ol.wrap ((56:Int) - (Ol.wrap ((8:Int)*z))))))) λf=>next (Ol.wrap (z+1)) f) (c9 jU 8 c p λ(x:Array Value)=>jo Oj (OI Fy (.pointer (some a)) (.agg x)) c λd=>c9 jU 8 d a λ(res:Array Value)=>R res d)
theorem Ky.of:∀{b n H R},Ky.vc b n H R->Ky.sp b n H R:=aU [(2,[(6,(ab .i64))])] (by kernel_rfl)
def DR.vc (p:Option Addr)(H:aa)(R:Kp Int):Prop:=
 br p.isNone (R (1:Int) H) (ae p λa=>ld (ab .i64) H (a.add 7) λ(x:Int)=>R x H)
theorem DR.of:∀{p H R},DR.vc p H R->DR.sp p H R:=aU [] (by kernel_rfl)
def FH.vc (p f:Option Addr)(H:aa)(R:Kp Int):Prop:=
 ae f λa=>ld (ab .i64) H (a.add 5) λ(x:Int)=>ae f λb=>st H (b.add 5) (.int .i64 (Ol.wrap (x+1))) λH1=>ae p λc=>ld bU H1 (c.add 3) λ(d:Option Nat)=>ae p λe=>ld (ab .i64) H1 (e.add 4) λ(g:Int)=>jo Oj (Qt LW (.map d) (.int .i64 g) (.pointer f)) H1 λm=>ae p λh=>ld (ab .i64) m (h.add 4) λ(i:Int)=>ae p λj=>st m (j.add 4) (.int .i64 (Ol.wrap (i+1))) λn=>ae p λk=>ld (ab .i64) n (k.add 4) λ(l:Int)=>R (Ol.wrap (l - 1)) n
theorem FH.of:∀{p f H R},FH.vc p f H R->FH.sp p f H R:=aU [] (by kernel_rfl)
def KB.vc (p:Option Addr)(at_:ByteArray)(h:Int)(H:aa)(R:Kp (Option Addr×Int)):Prop:=
 aJ H #[(.string at_),(.int .i64 h)] wX λb H1=>ae p λa=>ld aw H1 (a.add 0) λ(x:Option Addr)=>ld aH H1 (b.add 0) λ(k:ByteArray)=>DT.sp x k H1 λ(r:(Int×Int)) g=>br (r.2!=0) (R (none,r.2) g) (ld (ab .i64) g (b.add 1) λ(l:Int)=>br (decide (l<0)) (R (none,(12:Int)) g) (ld (ab .i64) g (b.add 1) λ(m:Int)=>br (decide (m>=r.1)) (R (none,(12:Int)) g) (Hg.sp p g λ(e:Int) i=>br (e !=0) (R (none,e) i) (ae p λn=>ld aw i (n.add 0) λ(o:Option Addr)=>ld aH i (b.add 0) λ(q:ByteArray)=>ld (ab .i64) i (b.add 1) λ(s:Int)=>HI.sp o q s i λ(c:(Sl×Int)) t=>br (c.2!=0) (R (none,c.2) t) (c9 (bR [aH,(ab .i64)]) 2 t b λ(j:(ByteArray×Int))=>aJ t #[(.string j.1),(.int .i64 j.2),(.int .u8 0),(.slice none 0 0),(.bool false),(.int .i64 0),(.int .i64 0)] KM λd u=>JL.sp c.1 u λ(f:(Int×Sl×Int)) w=>st w (d.add 2) (.int .u8 f.1) λy=>st y (d.add 3) f.2.1.v λz=>R (some d,f.2.2) z)))))
theorem KB.of:∀{p at_ a H R},KB.vc p at_ a H R->KB.sp p at_ a H R:=aU [] (by kernel_rfl)
def vC.vc (p:Option Addr)(e:Int)(H:aa)(R:Kp Int):Prop:=
 br (e==4) (br (e==4) (ae p λa=>st H (a.add 7) (.int .i64 e) λH1=>R e H1) (R e H)) (br (e==5) (br (e==5) (ae p λb=>st H (b.add 7) (.int .i64 e) λd=>R e d) (R e H)) (br (e==20) (ae p λc=>st H (c.add 7) (.int .i64 e) λf=>R e f) (R e H)))
theorem vC.of:∀{p e H R},vC.vc p e H R->vC.sp p e H R:=aU [] (by kernel_rfl)
def Cw.vc (p f:Option Addr)(H:aa)(R:Kp Int):Prop:=
 ae p λa=>ld bU H (a.add 2) λ(x:Option Nat)=>ae f λd=>c9 (bR [aH,(ab .i64)]) 2 H (d.add 0) λ(b:(ByteArray×Int))=>jo Oj (Qt xX (.map x) (.agg #[(.string b.1),(.int .i64 b.2)]) (.pointer f)) H λH1=>ae p λe=>ld (ab .i64) H1 (e.add 6) λ(c:Int)=>ae p λg=>ld bU H1 (g.add 2) λ(h:Option Nat)=>AY H1 h λ(n:Nat)=>ae p λi=>st H1 (i.add 6) (.int .i64 (if (n:Int)>c then (n:Int) else c)) λj=>FH.sp p f j λ(r:Int) k=>R r k
theorem Cw.of:∀{p f H R},Cw.vc p f H R->Cw.sp p f H R:=aU [] (by kernel_rfl)
def G1.vc (p:Option Addr)(h:Int)(H:aa)(R:Kp (Option Addr×Int)):Prop:=
 DR.sp p H λ(e:Int) H1=>br (e !=0) (R (none,e) H1) (ae p λa=>ld bU H1 (a.add 3) λ(x:Option Nat)=>DK (aR [aw,ay]) Oj (PM LW (.map x) (.int .i64 h) true) H1 λ(b:(Option Addr×Bool))=>br b.2 (R (b.1,(0:Int)) H1) (R (none,(32:Int)) H1))
theorem G1.of:∀{p h H R},G1.vc p h H R->G1.sp p h H R:=aU [] (by kernel_rfl)
def IW.vc (p:Option Addr)(name:ByteArray)(H:aa)(R:Kp Sl):Prop:=
 aJ H #[(.string name)] dy λb H1=>ae p λa=>ld bU H1 (a.add 2) λ(x:Option Nat)=>KD.sp x H1 λ(r:Value) d=>K8.sp r d λ(c:Sl) e=>JX.sp c b e λ(l:Sl) f=>M5.sp l (.func (.func DW.no) #[] #[]) f λ(_:Unit) g=>R l g
theorem IW.of:∀{p name H R},IW.vc p name H R->IW.sp p name H R:=aU [] (by kernel_rfl)
def DM.vc (p f:Option Addr)(H:aa)(R:Kp Int):Prop:=
 ae f λa=>ld (ab .u8) H (a.add 2) λ(x:Int)=>ae f λb=>ld ak H (b.add 3) λ(c:Sl)=>Kc.sp x c H λ(r:(Sl×Int)) H1=>br (r.2!=0) (R r.2 H1) (ae p λd=>ld aw H1 (d.add 0) λ(g:Option Addr)=>ae f λh=>ld aH H1 ((h.add 0).add 0) λ(i:ByteArray)=>ae f λj=>ld (ab .i64) H1 ((j.add 0).add 1) λ(k:Int)=>Km.sp g i k r.1 H1 λ(e:Int) m=>br (e==0) (ae f λl=>st m (l.add 4) (.bool false) λn=>R e n) (R e m))
theorem DM.of:∀{p f H R},DM.vc p f H R->DM.sp p f H R:=aU [] (by kernel_rfl)
def Kj.vc (d:Option Addr)(name:ByteArray)(H:aa)(R:Kp Int):Prop:=
 DL.sp d name H λ(r:(Option Addr×Int)) H1=>br (r.2!=0) (R r.2 H1) (DF.sp d H1 λ(e:Int) b=>br (e==0) (ae r.1 λa=>ld ak b (a.add 0) λ(x:Sl)=>DI.sp x b λ(c:Sl) h=>ae r.1 λf=>st h (f.add 1) c.v λi=>ae r.1 λg=>st i (g.add 2) (.slice none 0 0) λj=>R e j) (R e b))
theorem Kj.of:∀{d name H R},Kj.vc d name H R->Kj.sp d name H R:=aU [] (by kernel_rfl)
def Ke.vc (p:Option Addr)(h:Int)(H:aa)(R:Kp (Int×Sl×Int)):Prop:=
 G1.sp p h H λ(r:(Option Addr×Int)) H1=>br (r.2!=0) (R ((0:Int),(Sl.mk none 0 0),r.2) H1) (∃G:aa->Prop,G H1/\ae r.1 λa=>dt (ab .u8) G (a.add 2) λ(x:Int)=>ae r.1 λb=>ld ak H1 (b.add 3) λ(c:Sl)=>DQ.sp c H1 λ(d:Sl) e=>G e/\R (x,d,(0:Int)) e)
theorem Ke.of:∀{p h H R},Ke.vc p h H R->Ke.sp p h H R:=aU [] (by kernel_rfl)
def JK.vc (s:Sl)(n:Int)(H:aa)(R:Kp Value):Prop:=
 aJ H #[s.v] dS λp H1=>aJ H1 #[(.int .i64 n)] iH λa b=>ld (ab .i64) b a λ(x:Int)=>br (decide (x<1)) (False) (R (.func (.func DP.no) #[] #[(.pointer (some p)),(.pointer (some a))]) b)
theorem JK.of:∀{s n H R},JK.vc s n H R->JK.sp s n H R:=aU [] (by kernel_rfl)
def Lp.vc (seq:Value)(H:aa)(R:Kp Sl):Prop:=
 JM.sp (Sl.mk none 0 0) seq H λ(r:Sl) H1=>R r H1
theorem Lp.of:∀{seq H R},Lp.vc seq H R->Lp.sp seq H R:=aU [] (by kernel_rfl)
def Fk.vc (l:Nat)(cap:Addr)(H:aa)(R:Kp Unit):Prop:=
 ld bU H cap λ(x:Option Nat)=>bf aw Oj (Qn yX (.map x)) H λ(it:Option Addr) H1=>ax Unit () H1 λnext _ d=>bf gd Oj (Qi (.pointer it) false Ar) d λ(e:Bool×List Value) a=>br e.1 (bf oM Oj (P5 (.pointer it)) a λ(f:Value×Value) g=>HT aH f.1 λ(k:ByteArray)=>b8 Oj l #[(.string k)] g λ(b:Bool) c=>br (!b) (R () c) (next () c)) (R () a)
theorem Fk.of:∀{l cap H R},Fk.vc l cap H R->Fk.sp l cap H R:=aU [(1,[])] (by kernel_rfl)
def Jj.vc (x y:Int)(H:aa)(R:Kp Bool):Prop:=
 JD.sp x H λ(r:Bool) H1=>br r (JD.sp y H1 λ(a:Bool) b=>R ((!a)||(decide (x<y))) b) (R (decide (x<y)) H1)
theorem Jj.of:∀{x y H R},Jj.vc x y H R->Jj.sp x y H R:=aU [] (by kernel_rfl)
def Jd.vc (x:Int)(H:aa)(R:Kp Bool):Prop:=
 R (x !=x) H
theorem Jd.of:∀{x H R},Jd.vc x H R->Jd.sp x H R:=aU [] (by kernel_rfl)
def Gq.vc (n:Int)(H:aa)(R:Kp ByteArray):Prop:=
 aJ H #[(.int .u8 (Pn.wrap (Ol.wrap ((48:Int)+(PE n (10:Int))))))] fD λp H1=>vU H1 (some p) 1 λ(s:ByteArray)=>br (decide (n>9)) (Gq.sp (Ol.wrap (Pe n (10:Int))) H1 λ(r:ByteArray) a=>((r.size+s.size:Nat):Int)<=9223372036854775807/\R (r++s) a) (R s H1)
theorem Gq.of:∀{n H R},Gq.vc n H R->Gq.sp n H R:=aU [] (by kernel_rfl)
def J7.vc (l x:Sl)(H:aa)(R:Kp Sl):Prop:=
 Jz.sp l x H λ(r:Int) H1=>br (decide (r<(l.n:Int))) (ae l.a λa=>(0<=r/\r<(l.n:Int))/\ld ak H1 (a.add (r.toNat*1)) λ(h:Sl)=>Az.sp h x H1 λ(j:Int) C=>br (j==0) (R l C) (bf ak Oj (Oq #[fG,fG] fG #[(.slice none 0 0),x.v]) C λ(own:Sl) D=>aJ D #[own.v] fG λp E=>bf ak Oj (Oq #[fF,fF] fF #[l.v,(.slice (some p) 1 1)]) E λ(b:Sl) F=>ax Int (Ol.wrap ((b.n:Int) - 1)) F λnext i k=>br (decide (i>r)) (ae b.a λm=>(0<=(Ol.wrap (i - 1))/\(Ol.wrap (i - 1))<(b.n:Int))/\ld ak k (m.add ((Ol.wrap (i - 1)).toNat*1)) λ(n:Sl)=>ae b.a λo=>(0<=i/\i<(b.n:Int))/\st k (o.add (i.toNat*1)) n.v λG=>next (Ol.wrap (i - 1)) G) (ae b.a λq=>(0<=r/\r<(b.n:Int))/\st k (q.add (r.toNat*1)) own.v λI=>R b I))) (bf ak Oj (Oq #[fG,fG] fG #[(.slice none 0 0),x.v]) H1 λ(e:Sl) J=>aJ J #[e.v] fG λs t=>bf ak Oj (Oq #[fF,fF] fF #[l.v,(.slice (some s) 1 1)]) t λ(c:Sl) u=>ax Int (Ol.wrap ((c.n:Int) - 1)) u λf d g=>br (decide (d>r)) (ae c.a λv=>(0<=(Ol.wrap (d - 1))/\(Ol.wrap (d - 1))<(c.n:Int))/\ld ak g (v.add ((Ol.wrap (d - 1)).toNat*1)) λ(w:Sl)=>ae c.a λy=>(0<=d/\d<(c.n:Int))/\st g (y.add (d.toNat*1)) w.v λz=>f (Ol.wrap (d - 1)) z) (ae c.a λA=>(0<=r/\r<(c.n:Int))/\st g (A.add (r.toNat*1)) e.v λB=>R c B))
theorem J7.of:∀{l x H R},J7.vc l x H R->J7.sp l x H R:=aU [(8,[(7,(ab .i64))])] (by kernel_rfl)
def IF.vc (s:Option Addr)(names:Sl)(H:aa)(R:Kp Int):Prop:=
 ax Int 0 H λnext i H1=>br (decide (i<(names.n:Int))) (ae s λa=>ld aw H1 (a.add 0) λ(x:Option Addr)=>ae names.a λb=>(0<=i/\i<(names.n:Int))/\ld aH H1 (b.add (i.toNat*1)) λ(c:ByteArray)=>Hd.sp x c H1 λ(e:Int) d=>br (e !=0) (R e d) (next (Ol.wrap (i+1)) d)) (R (0:Int) H1)
theorem IF.of:∀{s names H R},IF.vc s names H R->IF.sp s names H R:=aU [(2,[(5,(ab .i64))])] (by kernel_rfl)
def Jp.vc (p:Option Addr)(h:Int)(H:aa)(R:Kp (Int×Sl×Int)):Prop:=
 GU.sp p h H λ(i:Int) H1=>ae p λa=>ld (ab .i64) H1 (a.add 6) λ(x:Int)=>br (x !=0) (ae p λd=>ld (ab .i64) H1 (d.add 6) λ(e:Int)=>R ((0:Int),(Sl.mk none 0 0),e) H1) (br (decide (i<0)) (R ((0:Int),(Sl.mk none 0 0),(32:Int)) H1) (∃G:aa->Prop,G H1/\ae p λf=>dt ak G (f.add 2) λ(b:Sl)=>ae b.a λg=>(0<=i/\i<(b.n:Int))/\dt (ab .u8) G ((g.add (i.toNat*7)).add 2) λ(j:Int)=>ae p λk=>ld ak H1 (k.add 2) λ(c:Sl)=>ae c.a λl=>(0<=i/\i<(c.n:Int))/\ld aH H1 ((l.add (i.toNat*7)).add 3) λ(m:ByteArray)=>bf ak Oj (convert dy dS (.string m)) H1 λ(n:Sl) o=>G o/\R (j,n,(0:Int)) o))
theorem Jp.of:∀{p h H R},Jp.vc p h H R->Jp.sp p h H R:=aU [] (by kernel_rfl)
def Jq.vc (s:ByteArray)(H:aa)(R:Kp Bool):Prop:=
 R ((decide ((s.size:Int)>=1))&&(decide ((s.size:Int)<=100))) H
theorem Jq.of:∀{s H R},Jq.vc s H R->Jq.sp s H R:=aU [] (by kernel_rfl)
def E0.vc (d:Option Addr)(H:aa)(R:Kp Int):Prop:=
 ae d λa=>ld ay H (a.add 5) λ(x:Bool)=>br x (ae d λj=>ld (ab .i64) H (j.add 6) λ(k:Int)=>br (k==0) (ae d λl=>st H (l.add 8) (.bool true) λH1=>R (4:Int) H1) (ae d λm=>ld ay H (m.add 5) λ(n:Bool)=>br n (ae d λo=>ld (ab .i64) H (o.add 6) λ(p:Int)=>ae d λq=>st H (q.add 6) (.int .i64 (Ol.wrap (p - 1))) λC=>ae d λr=>ld (ab .i64) C (r.add 3) λ(s:Int)=>ae d λt=>st C (t.add 3) (.int .i64 (Ol.wrap (s+1))) λE=>R (0:Int) E) (ae d λu=>ld (ab .i64) H (u.add 3) λ(v:Int)=>ae d λw=>st H (w.add 3) (.int .i64 (Ol.wrap (v+1))) λF=>R (0:Int) F))) (ae d λb=>ld ay H (b.add 5) λ(y:Bool)=>br y (ae d λc=>ld (ab .i64) H (c.add 6) λ(z:Int)=>ae d λe=>st H (e.add 6) (.int .i64 (Ol.wrap (z - 1))) λD=>ae d λf=>ld (ab .i64) D (f.add 3) λ(A:Int)=>ae d λg=>st D (g.add 3) (.int .i64 (Ol.wrap (A+1))) λG=>R (0:Int) G) (ae d λh=>ld (ab .i64) H (h.add 3) λ(B:Int)=>ae d λi=>st H (i.add 3) (.int .i64 (Ol.wrap (B+1))) λI=>R (0:Int) I))
theorem E0.of:∀{d H R},E0.vc d H R->E0.sp d H R:=aU [] (by kernel_rfl)
def KC.vc (p:Option Addr)(name:ByteArray)(H:aa)(R:Kp (Int×Int×Int)):Prop:=
 ae p λa=>ld (ab .i64) H (a.add 6) λ(x:Int)=>br (x !=0) (ae p λf=>ld (ab .i64) H (f.add 6) λ(g:Int)=>R ((0:Int),(0:Int),g) H) (ae p λh=>ld aw H (h.add 0) λ(i:Option Addr)=>Dh.sp i name H λ(r:(Int×Int)) H1=>br (r.2==0) (GQ.sp p H1 λ(e:Int) A=>br (e !=0) (nE.sp p e A λ(j:Int) E=>R ((0:Int),(0:Int),j) E) (EF.sp (0:Int) (Sl.mk none 0 0) A λ(k:(Sl×Int)) B=>ae p λl=>ld aw B (l.add 0) λ(m:Option Addr)=>GX.sp m name r.1 k.1 B λ(b:Int) C=>br (b !=0) (nE.sp p b C λ(n:Int) F=>R ((0:Int),(0:Int),n) F) (Cg.sp p name r.1 (0:Int) QI false (Sl.mk none 0 0) (0:Int) C λ(o:Int) G=>R (o,r.1,(0:Int)) G))) (br (r.2!=0) (nE.sp p r.2 H1 λ(q:Int) I=>R ((0:Int),(0:Int),q) I) (EF.sp (0:Int) (Sl.mk none 0 0) H1 λ(s:(Sl×Int)) D=>ae p λt=>ld aw D (t.add 0) λ(u:Option Addr)=>GX.sp u name r.1 s.1 D λ(c:Int) d=>br (c !=0) (nE.sp p c d λ(v:Int) w=>R ((0:Int),(0:Int),v) w) (Cg.sp p name r.1 (0:Int) QI false (Sl.mk none 0 0) (0:Int) d λ(y:Int) z=>R (y,r.1,(0:Int)) z))))
theorem KC.of:∀{p name H R},KC.vc p name H R->KC.sp p name H R:=aU [] (by kernel_rfl)
def Hw.vc (p:Option Addr)(name:ByteArray)(page:Int)(H:aa)(R:Kp Int):Prop:=
 ax Int 0 H λnext i H1=>ae p λa=>ld ak H1 (a.add 2) λ(x:Sl)=>br (decide (i<(x.n:Int))) (ae p λd=>ld ak H1 (d.add 2) λ(b:Sl)=>ae b.a λe=>(0<=i/\i<(b.n:Int))/\ld aH H1 ((e.add (i.toNat*7)).add 0) λ(f:ByteArray)=>br (f.toList==name.toList) (ae p λg=>ld ak H1 (g.add 2) λ(c:Sl)=>ae c.a λh=>(0<=i/\i<(c.n:Int))/\ld (ab .i64) H1 ((h.add (i.toNat*7)).add 1) λ(j:Int)=>br (j==page) (R i H1) (next (Ol.wrap (i+1)) H1)) (next (Ol.wrap (i+1)) H1)) (R (-1:Int) H1)
theorem Hw.of:∀{p name page H R},Hw.vc p name page H R->Hw.sp p name page H R:=aU [(2,[(7,(ab .i64))])] (by kernel_rfl)
def GP.vc (p:Option Addr)(i:Int)(H:aa)(R:Kp Int):Prop:=
 ∃G:aa->Prop,G H/\ae p λa=>dt ak G (a.add 2) λ(x:Sl)=>ae p λc=>dt ak G (c.add 2) λ(b:Sl)=>ae b.a λd=>(0<=i/\i<(b.n:Int))/\dt ak G ((d.add (i.toNat*7)).add 5) λ(e:Sl)=>ae p λf=>ld (ab .i64) H (f.add 3) λ(g:Int)=>aJ H #[(.int .i64 g)] iH λh H1=>G H1/\bf ak Oj (Oq #[y9,y9] y9 #[e.v,(.slice (some h) 1 1)]) H1 λ(s:Sl) q=>G q/\ae x.a λj=>(0<=i/\i<(x.n:Int))/\st q ((j.add (i.toNat*7)).add 5) s.v λr=>ae p λk=>ld (ab .i64) r (k.add 3) λ(l:Int)=>ae p λm=>st r (m.add 3) (.int .i64 (Ol.wrap (l+1))) λt=>ae p λn=>ld (ab .i64) t (n.add 3) λ(o:Int)=>R (Ol.wrap (o - 1)) t
theorem GP.of:∀{p i H R},GP.vc p i H R->GP.sp p i H R:=aU [] (by kernel_rfl)
def GQ.vc (p:Option Addr)(H:aa)(R:Kp Int):Prop:=
 ae p λa=>ld ak H (a.add 2) λ(x:Sl)=>ae p λi=>ld (ab .i64) H (i.add 1) λ(j:Int)=>br (decide ((x.n:Int)<j)) (R (0:Int) H) (ax (Int×Int) ((-1:Int),(0:Int)) H λnext z H1=>ae p λk=>ld ak H1 (k.add 2) λ(l:Sl)=>br (decide (z.2<(l.n:Int))) (ae p λm=>ld ak H1 (m.add 2) λ(b:Sl)=>ae b.a λn=>(0<=z.2/\z.2<(b.n:Int))/\ld ak H1 ((n.add (z.2.toNat*7)).add 5) λ(o:Sl)=>br (((o.n:Int)==0)==true) (br (decide (z.1<0)) (next (z.2,Ol.wrap (z.2+1)) H1) (ae p λq=>ld ak H1 (q.add 2) λ(c:Sl)=>ae c.a λr=>(0<=z.2/\z.2<(c.n:Int))/\ld (ab .i64) H1 ((r.add (z.2.toNat*7)).add 6) λ(s:Int)=>ae p λt=>ld ak H1 (t.add 2) λ(d:Sl)=>ae d.a λu=>(0<=z.1/\z.1<(d.n:Int))/\ld (ab .i64) H1 ((u.add (z.1.toNat*7)).add 6) λ(v:Int)=>br (decide (s<v)) (next (z.2,Ol.wrap (z.2+1)) H1) (next (z.1,Ol.wrap (z.2+1)) H1))) (next (z.1,Ol.wrap (z.2+1)) H1)) (br (decide (z.1<0)) (R (31:Int) H1) (ae p λw=>ld ak H1 (w.add 2) λ(f:Sl)=>ae f.a λg=>(0<=z.1/\z.1<(f.n:Int))/\ld ay H1 ((g.add (z.1.toNat*7)).add 4) λ(h:Bool)=>br h (Ie.sp p z.1 H1 λ(e:Int) y=>br (e !=0) (R e y) (I4.sp p z.1 y λ(_:Unit) A=>R (0:Int) A)) (I4.sp p z.1 H1 λ(_:Unit) B=>R (0:Int) B))))
theorem GQ.of:∀{p H R},GQ.vc p H R->GQ.sp p H R:=aU [(5,[(3,(ab .i64)),(4,(ab .i64))])] (by kernel_rfl)
def nE.vc (p:Option Addr)(e:Int)(H:aa)(R:Kp Int):Prop:=
 br (((e==4)||(e==5))||(e==20)) (ae p λa=>st H (a.add 6) (.int .i64 e) λH1=>R e H1) (R e H)
theorem nE.of:∀{p e H R},nE.vc p e H R->nE.sp p e H R:=aU [] (by kernel_rfl)
def GH.vc (b:Sl)(H:aa)(R:Kp (Int×Sl×Int)):Prop:=
 br ((b.n:Int)!=512) (R ((0:Int),(Sl.mk none 0 0),(2:Int)) H) (ae b.a λa=>(0<=(4:Int)/\(4:Int)<(b.n:Int))/\ld (ab .u8) H (a.add ((4:Int).toNat*1)) λ(x:Int)=>ae b.a λe=>(0<=(5:Int)/\(5:Int)<(b.n:Int))/\ld (ab .u8) H (e.add ((5:Int).toNat*1)) λ(c:Int)=>br (decide ((Ol.wrap ((Ol.wrap x)+(Ol.wrap ((256:Int)*(Ol.wrap c)))))>504)) (R ((0:Int),(Sl.mk none 0 0),(20:Int)) H) ((0<=(Ol.wrap ((8:Int)+(Ol.wrap ((Ol.wrap x)+(Ol.wrap ((256:Int)*(Ol.wrap c)))))))/\(Ol.wrap ((8:Int)+(Ol.wrap ((Ol.wrap x)+(Ol.wrap ((256:Int)*(Ol.wrap c)))))))<=(b.c:Int))/\(0<=(8:Int)/\(8:Int)<=(Ol.wrap ((8:Int)+(Ol.wrap ((Ol.wrap x)+(Ol.wrap ((256:Int)*(Ol.wrap c))))))))/\bf ak Oj (Oq #[dS,dS] dS #[(.slice none 0 0),(.slice (cE b.a b.c ((8:Int).toNat) 1) (((Ol.wrap ((8:Int)+(Ol.wrap ((Ol.wrap x)+(Ol.wrap ((256:Int)*(Ol.wrap c))))))).toNat) - ((8:Int).toNat)) (b.c - ((8:Int).toNat)))]) H λ(s:Sl) H1=>ae b.a λf=>(0<=(6:Int)/\(6:Int)<(b.n:Int))/\ld (ab .u8) H1 (f.add ((6:Int).toNat*1)) λ(g:Int)=>EF.sp g s H1 λ(r:(Sl×Int)) d=>vU d r.1.a r.1.n λ(str:ByteArray)=>vU d b.a b.n λ(str_1:ByteArray)=>br (!(str.toList==str_1.toList)) (R ((0:Int),(Sl.mk none 0 0),(20:Int)) d) (ae b.a λh=>(0<=(6:Int)/\(6:Int)<(b.n:Int))/\ld (ab .u8) d (h.add ((6:Int).toNat*1)) λ(i:Int)=>R (i,s,(0:Int)) d)))
theorem GH.of:∀{b H R},GH.vc b H R->GH.sp b H R:=aU [] (by kernel_rfl)
def Cg.vc (p:Option Addr)(A:ByteArray)(e f:Int)(g:ByteArray)(h:Bool)(i:Sl)(j:Int)(H:aa)(R:Kp Int):Prop:=
 aJ H #[(.string A),(.int .i64 e),(.int .u8 f),(.string g),(.bool h),i.v,(.int .i64 j)] tX λk H1=>∃G:aa->Prop,G H1/\ae p λa=>dt ak G (a.add 2) λ(x:Sl)=>c9 (bR [aH,(ab .i64),(ab .u8),aH,ay,ak,(ab .i64)]) 7 H1 k λ(b:(ByteArray×Int×Int×ByteArray×Bool×Sl×Int))=>aJ H1 #[(.string b.1),(.int .i64 b.2.1),(.int .u8 b.2.2.1),(.string b.2.2.2.1),(.bool b.2.2.2.2.1),b.2.2.2.2.2.1.v,(.int .i64 b.2.2.2.2.2.2)] tX λl y=>G y/\bf ak Oj (Oq #[CQ,CQ] CQ #[x.v,(.slice (some l) 1 1)]) y λ(s:Sl) B=>ae p λm=>st B (m.add 2) s.v λn=>ae p λo=>ld (ab .i64) n (o.add 5) λ(c:Int)=>ae p λq=>ld ak n (q.add 2) λ(d:Sl)=>ae p λt=>st n (t.add 5) (.int .i64 (if (d.n:Int)>c then (d.n:Int) else c)) λz=>ae p λu=>ld ak z (u.add 2) λ(w:Sl)=>GP.sp p (Ol.wrap ((w.n:Int) - 1)) z λ(r:Int) C=>R r C
theorem Cg.of:∀{p g a b c d e f H R},Cg.vc p g a b c d e f H R->Cg.sp p g a b c d e f H R:=aU [] (by kernel_rfl)
def GU.vc (p:Option Addr)(h:Int)(H:aa)(R:Kp Int):Prop:=
 ax Int 0 H λnext i H1=>ae p λa=>ld ak H1 (a.add 2) λ(x:Sl)=>br (decide (i<(x.n:Int))) (ax Int 0 H1 λb k c=>ae p λg=>ld ak c (g.add 2) λ(d:Sl)=>ae d.a λj=>(0<=i/\i<(d.n:Int))/\ld ak c ((j.add (i.toNat*7)).add 5) λ(l:Sl)=>br (decide (k<(l.n:Int))) (ae p λm=>ld ak c (m.add 2) λ(e:Sl)=>ae e.a λn=>(0<=i/\i<(e.n:Int))/\ld ak c ((n.add (i.toNat*7)).add 5) λ(f:Sl)=>ae f.a λo=>(0<=k/\k<(f.n:Int))/\ld (ab .i64) c (o.add (k.toNat*1)) λ(q:Int)=>br (q==h) (R i c) (b (Ol.wrap (k+1)) c)) (next (Ol.wrap (i+1)) c)) (R (-1:Int) H1)
theorem GU.of:∀{p h H R},GU.vc p h H R->GU.sp p h H R:=aU [(2,[(5,(ab .i64))]),(5,[(6,(ab .i64))])] (by kernel_rfl)
def Ie.vc (p:Option Addr)(i:Int)(H:aa)(R:Kp Int):Prop:=
 ∃G:aa->Prop,G H/\ae p λa=>dt ak G (a.add 2) λ(x:Sl)=>ae x.a λj=>(0<=i/\i<(x.n:Int))/\dt (ab .u8) G ((j.add (i.toNat*7)).add 2) λ(k:Int)=>ae p λl=>ld ak H (l.add 2) λ(d:Sl)=>ae d.a λm=>(0<=i/\i<(d.n:Int))/\ld aH H ((m.add (i.toNat*7)).add 3) λ(n:ByteArray)=>bf ak Oj (convert dy dS (.string n)) H λ(o:Sl) H1=>G H1/\EF.sp k o H1 λ(r:(Sl×Int)) c=>ae p λq=>ld aw c (q.add 0) λ(s:Option Addr)=>ae p λt=>ld ak c (t.add 2) λ(f:Sl)=>ae f.a λu=>(0<=i/\i<(f.n:Int))/\ld aH c ((u.add (i.toNat*7)).add 0) λ(v:ByteArray)=>ae p λw=>ld ak c (w.add 2) λ(g:Sl)=>ae g.a λy=>(0<=i/\i<(g.n:Int))/\ld (ab .i64) c ((y.add (i.toNat*7)).add 1) λ(z:Int)=>GX.sp s v z r.1 c λ(e:Int) A=>br (e==0) (ae p λB=>ld ak A (B.add 2) λ(b:Sl)=>ae b.a λh=>(0<=i/\i<(b.n:Int))/\st A ((h.add (i.toNat*7)).add 4) (.bool false) λC=>R e C) (R e A)
theorem Ie.of:∀{p i H R},Ie.vc p i H R->Ie.sp p i H R:=aU [] (by kernel_rfl)
def Jg.vc (d:Option Addr)(name:ByteArray)(H:aa)(R:Kp Int):Prop:=
 Be.sp d name H λ(i:Int) H1=>ae d λa=>ld ay H1 (a.add 8) λ(x:Bool)=>br x (R (4:Int) H1) (br (decide (i<0)) (R (11:Int) H1) (E0.sp d H1 λ(e:Int) c=>br (e==0) (∃G:aa->Prop,G c/\ae d λj=>dt ak G (j.add 0) λ(f:Sl)=>ae d λk=>ld ak c (k.add 0) λ(g:Sl)=>ae g.a λl=>(0<=i/\i<(g.n:Int))/\c9 (bR [aH,ak,ak]) 3 c (l.add (i.toNat*3)) λ(b:(ByteArray×Sl×Sl))=>DU.sp b.1 b.2.1 b.2.2 c λ(r:Sl) p=>G p/\ae f.a λm=>(0<=i/\i<(f.n:Int))/\st p ((m.add (i.toNat*3)).add 1) r.v λq=>ae d λn=>ld ak q (n.add 0) λ(h:Sl)=>ae h.a λo=>(0<=i/\i<(h.n:Int))/\st q ((o.add (i.toNat*3)).add 2) (.slice none 0 0) λs=>R e s) (R e c)))
theorem Jg.of:∀{d name H R},Jg.vc d name H R->Jg.sp d name H R:=aU [] (by kernel_rfl)
def KW.vc (i:Int)(H:aa)(R:Kp ByteArray):Prop:=
 Ld.sp i (10:Int) H λ(r:ByteArray) H1=>R r H1
theorem KW.of:∀{i H R},KW.vc i H R->KW.sp i H R:=aU [] (by kernel_rfl)
def Ks.vc (s:Sl)(H:aa)(R:Kp Bool):Prop:=
 Jf.sp s H λ(r:Int) H1=>R (decide (r>=0)) H1
theorem Ks.of:∀{s H R},Ks.vc s H R->Ks.sp s H R:=aU [] (by kernel_rfl)
def Ev.vc (f:Option Addr)(H:aa)(R:Kp Bool):Prop:=
 ae f λa=>ld (ab .i64) H (a.add 5) λ(x:Int)=>R (decide (x>0)) H
theorem Ev.of:∀{f H R},Ev.vc f H R->Ev.sp f H R:=aU [] (by kernel_rfl)
def JW.vc (d:Option Addr)(name:ByteArray)(H:aa)(R:Kp Int):Prop:=
 DL.sp d name H λ(r:(Option Addr×Int)) H1=>br (r.2!=0) (R r.2 H1) (DF.sp d H1 λ(e:Int) a=>br (e==0) (Jo.sp d name a λ(_:Unit) b=>R e b) (R e a))
theorem JW.of:∀{d name H R},JW.vc d name H R->JW.sp d name H R:=aU [] (by kernel_rfl)
def Hg.vc (p:Option Addr)(H:aa)(R:Kp Int):Prop:=
 ae p λa=>ld bU H (a.add 2) λ(x:Option Nat)=>AY H x λ(n:Nat)=>ae p λg=>ld (ab .i64) H (g.add 1) λ(h:Int)=>br (decide ((n:Int)<h)) (R (0:Int) H) (JH.sp p H λ(f:Option Addr) H1=>br f.isNone (R (31:Int) H1) (ae f λi=>ld ay H1 (i.add 4) λ(j:Bool)=>br j (DM.sp p f H1 λ(e:Int) d=>br (e !=0) (R e d) (ae p λk=>ld bU d (k.add 2) λ(l:Option Nat)=>ae f λm=>c9 (bR [aH,(ab .i64)]) 2 d (m.add 0) λ(b:(ByteArray×Int))=>bf gn Oj (PV #[xX,wX] Ar #[(.map l),(.agg #[(.string b.1),(.int .i64 b.2)])]) d λ(_:Value) s=>R (0:Int) s)) (ae p λo=>ld bU H1 (o.add 2) λ(q:Option Nat)=>ae f λr=>c9 (bR [aH,(ab .i64)]) 2 H1 (r.add 0) λ(c:(ByteArray×Int))=>bf gn Oj (PV #[xX,wX] Ar #[(.map q),(.agg #[(.string c.1),(.int .i64 c.2)])]) H1 λ(_:Value) t=>R (0:Int) t)))
theorem Hg.of:∀{p H R},Hg.vc p H R->Hg.sp p H R:=aU [] (by kernel_rfl)
def JL.vc (b:Sl)(H:aa)(R:Kp (Int×Sl×Int)):Prop:=
 br ((b.n:Int)!=512) (R ((0:Int),(Sl.mk none 0 0),(2:Int)) H) ((0<=(4:Int)/\(4:Int)<=(b.n:Int))/\HP.sp (Sl.mk (cE b.a b.c ((4:Int).toNat) 1) (b.n - ((4:Int).toNat)) (b.c - ((4:Int).toNat))) H λ(n:Int) H1=>ax Int 0 H1 λnext z e=>br (decide (z<4)) (ae b.a λa=>(0<=z/\z<(b.n:Int))/\ld (ab .u8) e (a.add (z.toNat*1)) λ(x:Int)=>0<=(Ol.wrap ((8:Int)*z))/\br (x !=(Pn.wrap (dI .u32 n (Ol.wrap ((8:Int)*z))))) (R ((0:Int),(Sl.mk none 0 0),(20:Int)) e) (next (Ol.wrap (z+1)) e)) (ae b.a λf=>(0<=(4:Int)/\(4:Int)<(b.n:Int))/\ld (ab .u8) e (f.add ((4:Int).toNat*1)) λ(c:Int)=>ae b.a λg=>(0<=(5:Int)/\(5:Int)<(b.n:Int))/\ld (ab .u8) e (g.add ((5:Int).toNat*1)) λ(d:Int)=>br (decide ((yZ .i64 (Ol.wrap c) (lg .i64 (Ol.wrap d) (8:Int)))>504)) (R ((0:Int),(Sl.mk none 0 0),(20:Int)) e) (ae b.a λh=>(0<=(7:Int)/\(7:Int)<(b.n:Int))/\ld (ab .u8) e (h.add ((7:Int).toNat*1)) λ(i:Int)=>br (i !=157) (R ((0:Int),(Sl.mk none 0 0),(20:Int)) e) ((0<=(Ol.wrap ((8:Int)+(yZ .i64 (Ol.wrap c) (lg .i64 (Ol.wrap d) (8:Int)))))/\(Ol.wrap ((8:Int)+(yZ .i64 (Ol.wrap c) (lg .i64 (Ol.wrap d) (8:Int)))))<=(b.n:Int))/\JN.sp (Sl.mk (cE b.a b.c ((Ol.wrap ((8:Int)+(yZ .i64 (Ol.wrap c) (lg .i64 (Ol.wrap d) (8:Int))))).toNat) 1) (b.n - ((Ol.wrap ((8:Int)+(yZ .i64 (Ol.wrap c) (lg .i64 (Ol.wrap d) (8:Int))))).toNat)) (b.c - ((Ol.wrap ((8:Int)+(yZ .i64 (Ol.wrap c) (lg .i64 (Ol.wrap d) (8:Int))))).toNat))) e λ(r:Bool) j=>br r (R ((0:Int),(Sl.mk none 0 0),(20:Int)) j) (∃G:aa->Prop,G j/\ae b.a λk=>(0<=(6:Int)/\(6:Int)<(b.n:Int))/\dt (ab .u8) G (k.add ((6:Int).toNat*1)) λ(l:Int)=>(0<=(Ol.wrap ((8:Int)+(yZ .i64 (Ol.wrap c) (lg .i64 (Ol.wrap d) (8:Int)))))/\(Ol.wrap ((8:Int)+(yZ .i64 (Ol.wrap c) (lg .i64 (Ol.wrap d) (8:Int)))))<=(b.c:Int))/\(0<=(8:Int)/\(8:Int)<=(Ol.wrap ((8:Int)+(yZ .i64 (Ol.wrap c) (lg .i64 (Ol.wrap d) (8:Int))))))/\DQ.sp (Sl.mk (cE b.a b.c ((8:Int).toNat) 1) (((Ol.wrap ((8:Int)+(yZ .i64 (Ol.wrap c) (lg .i64 (Ol.wrap d) (8:Int))))).toNat) - ((8:Int).toNat)) (b.c - ((8:Int).toNat))) j λ(m:Sl) o=>G o/\R (l,m,(0:Int)) o)))))
theorem JL.of:∀{b H R},JL.vc b H R->JL.sp b H R:=aU [(5,[(14,(ab .i64))])] (by kernel_rfl)
def JX.vc (s:Sl)(cap:Addr)(H:aa)(R:Kp Sl):Prop:=
 JS.sp s cap H λ(i:Int) H1=>br (i==(-1:Int)) (R s H1) (ax (Int×Int) (i,Ol.wrap (i+1)) H1 λnext z b=>br (decide (z.2<(s.n:Int))) (ae s.a λa=>(0<=z.2/\z.2<(s.n:Int))/\ld aw b (a.add (z.2.toNat*1)) λ(v:Option Addr)=>DE.sp v cap b λ(r:Bool) d=>br (!r) (ae s.a λc=>(0<=z.1/\z.1<(s.n:Int))/\st d (c.add (z.1.toNat*1)) (.pointer v) λe=>next (Ol.wrap (z.1+1),Ol.wrap (z.2+1)) e) (next (z.1,Ol.wrap (z.2+1)) d)) ((0<=z.1/\z.1<=(s.n:Int))/\bf gn Oj (TE #[Ct] Ar #[(.slice (cE s.a s.c z.1.toNat 1) (s.n - z.1.toNat) (s.c - z.1.toNat))]) b λ(_:Value) f=>(0<=z.1/\z.1<=(s.c:Int))/\R (Sl.mk (cE s.a s.c 0 1) (z.1.toNat - 0) (s.c - 0)) f))
theorem JX.of:∀{s cap H R},JX.vc s cap H R->JX.sp s cap H R:=aU [(5,[(5,(ab .i64)),(6,(ab .i64))])] (by kernel_rfl)
def K8.vc (seq:Value)(H:aa)(R:Kp Sl):Prop:=
 Kt.sp (Sl.mk none 0 0) seq H λ(r:Sl) H1=>R r H1
theorem K8.of:∀{seq H R},K8.vc seq H R->K8.sp seq H R:=aU [] (by kernel_rfl)
def KD.vc (m:Option Nat)(H:aa)(R:Kp Value):Prop:=
 aJ H #[(.map m)] xX λp H1=>R (.func (.func FF.no) #[] #[(.pointer (some p))]) H1
theorem KD.of:∀{m H R},KD.vc m H R->KD.sp m H R:=aU [] (by kernel_rfl)
def DE.vc (f:Option Addr)(cap:Addr)(H:aa)(R:Kp Bool):Prop:=
 ae f λa=>ld aH H ((a.add 0).add 0) λ(x:ByteArray)=>ld aH H cap λ(b:ByteArray)=>R (!(x.toList==b.toList)) H
theorem DE.of:∀{f cap H R},DE.vc f cap H R->DE.sp f cap H R:=aU [] (by kernel_rfl)
def DW.vc (a b:Option Addr)(H:aa)(R:Kp Int):Prop:=
 ae a λc=>ld (ab .i64) H ((c.add 0).add 1) λ(x:Int)=>ae b λd=>ld (ab .i64) H ((d.add 0).add 1) λ(e:Int)=>R (Ol.wrap (x - e)) H
theorem DW.of:∀{a b H R},DW.vc a b H R->DW.sp a b H R:=aU [] (by kernel_rfl)
def Kc.vc (kind:Int)(b:Sl)(H:aa)(R:Kp (Sl×Int)):Prop:=
 br (decide ((b.n:Int)>504)) (R ((Sl.mk none 0 0),(2:Int)) H) (aJ H (zc Oj Ln) Ln λp H1=>(0<=(4:Int)/\(4:Int)<((512:Nat):Int))/\st H1 (p.add ((4:Int).toNat*1)) (.int .u8 (Pn.wrap (b.n:Int))) λd=>(0<=(5:Int)/\(5:Int)<((512:Nat):Int))/\st d (p.add ((5:Int).toNat*1)) (.int .u8 (Pn.wrap (dI .i64 (b.n:Int) (8:Int)))) λe=>(0<=(6:Int)/\(6:Int)<((512:Nat):Int))/\st e (p.add ((6:Int).toNat*1)) (.int .u8 kind) λf=>(0<=(7:Int)/\(7:Int)<((512:Nat):Int))/\st f (p.add ((7:Int).toNat*1)) (.int .u8 157) λg=>(0<=(8:Int)/\(8:Int)<=512)/\bf (ab .i64) Oj (Vd #[dS,dS] iH #[(.slice (cE (some p) 512 ((8:Int).toNat) 1) (512 - ((8:Int).toNat)) (512 - ((8:Int).toNat))),b.v]) g λ(_:Int) h=>(0<=(4:Int)/\(4:Int)<=512)/\HP.sp (Sl.mk (cE (some p) 512 ((4:Int).toNat) 1) (512 - ((4:Int).toNat)) (512 - ((4:Int).toNat))) h λ(n:Int) i=>ax Int 0 i λnext z c=>br (decide (z<4)) (0<=(Ol.wrap ((8:Int)*z))/\(0<=z/\z<((512:Nat):Int))/\st c (p.add (z.toNat*1)) (.int .u8 (Pn.wrap (dI .u32 n (Ol.wrap ((8:Int)*z))))) λj=>next (Ol.wrap (z+1)) j) (DQ.sp (Sl.mk (cE (some p) 512 0 1) (512 - 0) (512 - 0)) c λ(r:Sl) a=>R (r,(0:Int)) a))
theorem Kc.of:∀{kind b H R},Kc.vc kind b H R->Kc.sp kind b H R:=aU [(9,[(29,(ab .i64))])] (by kernel_rfl)
def Km.vc (d:Option Addr)(name:ByteArray)(page:Int)(b:Sl)(H:aa)(R:Kp Int):Prop:=
 DJ.sp d H λ(e:Int) H1=>br (e !=0) (R e H1) (br ((b.n:Int)!=512) (R (2:Int) H1) (DL.sp d name H1 λ(r:(Option Addr×Int)) c=>cut Unit (λJ=>br (r.2!=0) (R r.2 c) (br (decide (page<0)) (br (decide (page<0)) (R (12:Int) c) (ae r.1 λa=>ld ak c (a.add 0) λ(x:Sl)=>br (page==(x.n:Int)) (ae d λL=>ld (ab .i64) c (L.add 1) λ(M:Int)=>ae d λN=>ld (ab .i64) c (N.add 3) λ(O:Int)=>br (M==O) (R (5:Int) c) (J () c)) (J () c))) (ae r.1 λP=>ld ak c (P.add 0) λ(Q:Sl)=>br (decide (page>(Q.n:Int))) (R (12:Int) c) (ae r.1 λS=>ld ak c (S.add 0) λ(T:Sl)=>br (page==(T.n:Int)) (ae d λU=>ld (ab .i64) c (U.add 1) λ(V:Int)=>ae d λW=>ld (ab .i64) c (W.add 3) λ(X:Int)=>br (V==X) (R (5:Int) c) (J () c)) (J () c))))) λ(_:Unit) H3=>DF.sp d H3 λ(h:Int) i=>br (h !=0) (R h i) (cut Unit (λj=>ae r.1 λY=>ld ak i (Y.add 0) λ(Z:Sl)=>br (page==(Z.n:Int)) (ae d λaf=>ld (ab .i64) i (af.add 1) λ(an:Int)=>ae d λa1=>st i (a1.add 1) (.int .i64 (Ol.wrap (an+1))) λH6=>ae d λk=>ld (ab .i64) H6 (k.add 2) λ(l:Int)=>ae d λm=>ld (ab .i64) H6 (m.add 1) λ(f:Int)=>ae d λn=>st H6 (n.add 2) (.int .i64 (if f>l then f else l)) λH7=>j () H7) (j () i)) λ(_:Unit) H5=>∃G:aa->Prop,G H5/\ae r.1 λo=>dt ak G (o.add 2) λ(p:Sl)=>ae d λq=>ld (ab .i64) H5 (q.add 5) λ(t:Int)=>512<=b.n/\ae b.a λu=>Lj jU 512 G u λ(v:Array Value)=>rY jU Oj (Instr.build qZ #[(0,(.int .i64 t)),(1,(.int .i64 page)),(2,(.agg v))]) λ(y:Array Value)=>bf ak Oj (PH Lz 1 #[(0,(.agg y))]) H5 λ(sl:Sl) H8=>G H8/\bf ak Oj (Oq #[Lz,Lz] Lz #[p.v,sl.v]) H8 λ(s:Sl) H9=>ae r.1 λw=>st H9 (w.add 2) s.v λg=>ae r.1 λz=>ld ak g (z.add 0) λ(A:Sl)=>512<=b.n/\ae b.a λB=>c9 jU 512 g B λ(C:Array Value)=>GL.sp A page C g λ(a6:Sl) a7=>ae r.1 λD=>st a7 (D.add 0) a6.v λE=>ae d λF=>ld (ab .i64) E (F.add 5) λ(I:Int)=>ae d λK=>st E (K.add 5) (.int .i64 (Ol.wrap (I+1))) λa8=>R (0:Int) a8)))
theorem Km.of:∀{d name page b H R},Km.vc d name page b H R->Km.sp d name page b H R:=aU [(100014,[]),(100020,[])] (by kernel_rfl)
def DP.vc (l:Nat)(cap d:Addr)(H:aa)(R:Kp Unit):Prop:=
 ax Int 0 H λnext i H1=>ld ak H1 cap λ(x:Sl)=>br (decide (i<(x.n:Int))) (ld (ab .i64) H1 d λ(c:Int)=>ld ak H1 cap λ(a:Sl)=>(0<=i/\i<=(a.n:Int))/\ld ak H1 cap λ(e:Sl)=>(0<=(Ol.wrap (i+(if ((a.n - i.toNat:Nat):Int)<c then ((a.n - i.toNat:Nat):Int) else c)))/\(Ol.wrap (i+(if ((a.n - i.toNat:Nat):Int)<c then ((a.n - i.toNat:Nat):Int) else c)))<=(e.c:Int))/\(0<=(Ol.wrap (i+(if ((a.n - i.toNat:Nat):Int)<c then ((a.n - i.toNat:Nat):Int) else c)))/\(Ol.wrap (i+(if ((a.n - i.toNat:Nat):Int)<c then ((a.n - i.toNat:Nat):Int) else c)))<=(Ol.wrap (i+(if ((a.n - i.toNat:Nat):Int)<c then ((a.n - i.toNat:Nat):Int) else c))))/\(0<=i/\i<=(Ol.wrap (i+(if ((a.n - i.toNat:Nat):Int)<c then ((a.n - i.toNat:Nat):Int) else c))))/\b8 Oj l #[(.slice (cE e.a ((Ol.wrap (i+(if ((a.n - i.toNat:Nat):Int)<c then ((a.n - i.toNat:Nat):Int) else c))).toNat) i.toNat 1) ((Ol.wrap (i+(if ((a.n - i.toNat:Nat):Int)<c then ((a.n - i.toNat:Nat):Int) else c))).toNat - i.toNat) ((Ol.wrap (i+(if ((a.n - i.toNat:Nat):Int)<c then ((a.n - i.toNat:Nat):Int) else c))).toNat - i.toNat))] H1 λ(b:Bool) f=>br (!b) (R () f) (ld (ab .i64) f d λ(g:Int)=>next (Ol.wrap (i+g)) f)) (R () H1)
theorem DP.of:∀{l cap a H R},DP.vc l cap a H R->DP.sp l cap a H R:=aU [(1,[(4,(ab .i64))])] (by kernel_rfl)
def JM.vc (s:Sl)(seq:Value)(H:aa)(R:Kp Sl):Prop:=
 aJ H #[s.v] dM λp H1=>oV Oj seq H1 (λl rec vs b h=>iR (dh.dec [aH] vs) λ(z:ByteArray)=>b[l]?=some (.loop (rec .ready none))/\ld ak (b.setIfInBounds l (.loop (rec .busy none))) p λ(x:Sl)=>aJ (b.setIfInBounds l (.loop (rec .busy none))) #[(.string z)] dy λc j=>bf ak Oj (Oq #[dM,dM] dM #[x.v,(.slice (some c) 1 1)]) j λ(d:Sl) k=>st k p d.v λg=>g[l]?=some (.loop (rec .busy none))/\h true (g.setIfInBounds l (.loop (rec .ready none)))) (λr a=>ld ak a p λ(e:Sl)=>a[r]?=some (.deferred (some []))/\R e (a.setIfInBounds r (.deferred none))) (λi r a=>bif OQ i 0 then ld ak a p λ(f:Sl)=>a[r]?=some (.deferred (some []))/\R f (a.setIfInBounds r (.deferred none)) else False) (λr a=>a[r]?=some (.deferred (some []))/\R (Sl.mk none 0 0) (a.setIfInBounds r (.deferred none)))
theorem JM.of:∀{s seq H R},JM.vc s seq H R->JM.sp s seq H R:=aU [(200003,[(7,aH)])] (by kernel_rfl)
def JD.vc (x:Int)(H:aa)(R:Kp Bool):Prop:=
 R (x !=x) H
theorem JD.of:∀{x H R},JD.vc x H R->JD.sp x H R:=aU [] (by kernel_rfl)
def Jz.vc (l x:Sl)(H:aa)(R:Kp Int):Prop:=
 ax (Int×Int) ((0:Int),(l.n:Int)) H λnext z H1=>br (decide (z.1<z.2)) (ae l.a λa=>(0<=(Ol.wrap (Pe (Ol.wrap (z.1+z.2)) (2:Int)))/\(Ol.wrap (Pe (Ol.wrap (z.1+z.2)) (2:Int)))<(l.n:Int))/\ld ak H1 (a.add ((Ol.wrap (Pe (Ol.wrap (z.1+z.2)) (2:Int))).toNat*1)) λ(b:Sl)=>Az.sp b x H1 λ(r:Int) c=>br (decide (r<0)) (next (Ol.wrap ((Ol.wrap (Pe (Ol.wrap (z.1+z.2)) (2:Int)))+1),z.2) c) (next (z.1,Ol.wrap (Pe (Ol.wrap (z.1+z.2)) (2:Int))) c)) (R z.1 H1)
theorem Jz.of:∀{l x H R},Jz.vc l x H R->Jz.sp l x H R:=aU [(2,[(5,(ab .i64)),(6,(ab .i64))])] (by kernel_rfl)
def Hd.vc (p:Option Addr)(name:ByteArray)(H:aa)(R:Kp Int):Prop:=
 ae p λa=>ld (ab .i64) H (a.add 6) λ(x:Int)=>br (x !=0) (ae p λj=>ld (ab .i64) H (j.add 6) λ(k:Int)=>R k H) (ae p λm=>ld aw H (m.add 0) λ(n:Option Addr)=>Dh.sp n name H λ(r:(Int×Int)) H1=>br (r.2!=0) (nE.sp p r.2 H1 λ(o:Int) J=>R o J) (ax (Sl×Int) ((Sl.mk none 0 0),(0:Int)) H1 λnext z c=>ae p λq=>ld ak c (q.add 2) λ(s:Sl)=>br (decide (z.2<(s.n:Int))) (ae p λt=>ld ak c (t.add 2) λ(d:Sl)=>ae d.a λu=>(0<=z.2/\z.2<(d.n:Int))/\ld aH c ((u.add (z.2.toNat*7)).add 0) λ(w:ByteArray)=>br (!(w.toList==name.toList)) (ae p λy=>ld ak c (y.add 2) λ(e:Sl)=>ae e.a λA=>(0<=z.2/\z.2<(e.n:Int))/\c9 (bR [aH,(ab .i64),(ab .u8),aH,ay,ak,(ab .i64)]) 7 c (A.add (z.2.toNat*7)) λ(b:(ByteArray×Int×Int×ByteArray×Bool×Sl×Int))=>aJ c #[(.string b.1),(.int .i64 b.2.1),(.int .u8 b.2.2.1),(.string b.2.2.2.1),(.bool b.2.2.2.2.1),b.2.2.2.2.2.1.v,(.int .i64 b.2.2.2.2.2.2)] tX λB K=>bf ak Oj (Oq #[CQ,CQ] CQ #[z.1.v,(.slice (some B) 1 1)]) K λ(l:Sl) L=>next (l,Ol.wrap (z.2+1)) L) (ae p λC=>ld ak c (C.add 2) λ(f:Sl)=>ae f.a λD=>(0<=z.2/\z.2<(f.n:Int))/\ld ak c ((D.add (z.2.toNat*7)).add 5) λ(E:Sl)=>br (decide ((E.n:Int)>0)) (R (31:Int) c) (next (z.1,Ol.wrap (z.2+1)) c))) (ae p λg=>st c (g.add 2) z.1.v λI=>ae p λh=>ld aw I (h.add 0) λ(i:Option Addr)=>Kg.sp i name I λ(F:Int) M=>nE.sp p F M λ(G:Int) N=>R G N)))
theorem Hd.of:∀{p name H R},Hd.vc p name H R->Hd.sp p name H R:=aU [(8,[(7,ak),(8,(ab .i64))])] (by kernel_rfl)
def EF.vc (kind:Int)(b:Sl)(H:aa)(R:Kp (Sl×Int)):Prop:=
 br (decide ((b.n:Int)>504)) (R ((Sl.mk none 0 0),(2:Int)) H) (aJ H #[(.int .u8 (Pn.wrap (PE (b.n:Int) (256:Int)))),(.int .u8 (Pn.wrap (Ol.wrap (Pe (b.n:Int) (256:Int))))),(.int .u8 kind),(.int .u8 157)] fD λc H1=>bf ak Oj (Oq #[dS,dS] dS #[(.slice (some c) 4 4),b.v]) H1 λ(rest:Sl) f=>bf ak Oj (Oq #[dS,iH] dS #[rest.v,(.int .i64 (Ol.wrap ((508:Int) - (rest.n:Int))))]) f λ(a:Sl) g=>Jh.sp a g λ(n:Int) h=>ax (Sl×Int) ((Sl.mk none 0 0),(0:Int)) h λnext z e=>br (decide (z.2<4)) (0<=(Ol.wrap ((8:Int)*z.2))/\aJ e #[(.int .u8 (Pn.wrap (dI .u32 n (Ol.wrap ((8:Int)*z.2)))))] fD λp i=>bf ak Oj (Oq #[dS,dS] dS #[z.1.v,(.slice (some p) 1 1)]) i λ(out:Sl) j=>next (out,Ol.wrap (z.2+1)) j) (bf ak Oj (Oq #[dS,dS] dS #[z.1.v,a.v]) e λ(d:Sl) k=>R (d,(0:Int)) k))
theorem EF.of:∀{kind b H R},EF.vc kind b H R->EF.sp kind b H R:=aU [(9,[(8,ak),(9,(ab .i64))])] (by kernel_rfl)
def GX.vc (d:Option Addr)(name:ByteArray)(page:Int)(b:Sl)(H:aa)(R:Kp Int):Prop:=
 Be.sp d name H λ(i:Int) H1=>ae d λa=>ld ay H1 (a.add 8) λ(x:Bool)=>br x (R (4:Int) H1) (br ((b.n:Int)!=512) (R (2:Int) H1) (br (decide (i<0)) (R (11:Int) H1) (ae d λw=>ld ak H1 (w.add 0) λ(h:Sl)=>ae h.a λy=>(0<=i/\i<(h.n:Int))/\c9 (bR [aH,ak,ak]) 3 H1 (y.add (i.toNat*3)) λ(f:(ByteArray×Sl×Sl))=>DU.sp f.1 f.2.1 f.2.2 H1 λ(r:Sl) u=>cut Unit (λJ=>br ((decide (page<0))||(decide (page>(r.n:Int)))) (R (12:Int) u) (∃G:aa->Prop,G u/\br (page==(r.n:Int)) (Iq.sp d u λ(z:Int) A=>G A/\ae d λB=>dt (ab .i64) G (B.add 2) λ(C:Int)=>br (decide (z>=C)) (R (5:Int) A) (J () A)) (J () u))) λ(_:Unit) V=>E0.sp d V λ(e:Int) v=>br (e !=0) (R e v) (∃c:aa->Prop,c v/\ae d λD=>dt ak c (D.add 0) λ(j:Sl)=>ae d λE=>dt ak c (E.add 0) λ(k:Sl)=>ae k.a λF=>(0<=i/\i<(k.n:Int))/\dt ak c ((F.add (i.toNat*3)).add 2) λ(I:Sl)=>ae d λK=>ld (ab .i64) v (K.add 4) λ(L:Int)=>LJ c b.a b.n λ(str:ByteArray)=>aJ v #[(.int .i64 L),(.int .i64 page),(.string str)] y6 λp Q=>c Q/\bf ak Oj (Oq #[Mh,Mh] Mh #[I.v,(.slice (some p) 1 1)]) Q λ(s:Sl) S=>c S/\ae j.a λM=>(0<=i/\i<(j.n:Int))/\st S ((M.add (i.toNat*3)).add 2) s.v λT=>ae d λN=>ld (ab .i64) T (N.add 4) λ(O:Int)=>ae d λl=>st T (l.add 4) (.int .i64 (Ol.wrap (O+1))) λU=>∃g:aa->Prop,g U/\ae d λm=>dt (ab .i64) g (m.add 1) λ(n:Int)=>Iq.sp d U λ(o:Int) q=>g q/\ae d λt=>st q (t.add 1) (.int .i64 (if o>n then o else n)) λP=>R (0:Int) P))))
theorem GX.of:∀{d name page b H R},GX.vc d name page b H R->GX.sp d name page b H R:=aU [(100013,[])] (by kernel_rfl)
def I4.vc (p:Option Addr)(i:Int)(H:aa)(R:Kp Unit):Prop:=
 ae p λa=>ld ak H (a.add 2) λ(x:Sl)=>(0<=i/\i<=(x.c:Int))/\bf ak Oj (Oq #[CQ,CQ] CQ #[(.slice none 0 0),(.slice (cE x.a x.c 0 7) (i.toNat - 0) (x.c - 0))]) H λ(l:Sl) H1=>ae p λc=>ld ak H1 (c.add 2) λ(b:Sl)=>(0<=(Ol.wrap (i+1))/\(Ol.wrap (i+1))<=(b.n:Int))/\bf ak Oj (Oq #[CQ,CQ] CQ #[l.v,(.slice (cE b.a b.c ((Ol.wrap (i+1)).toNat) 7) (b.n - ((Ol.wrap (i+1)).toNat)) (b.c - ((Ol.wrap (i+1)).toNat)))]) H1 λ(d:Sl) f=>ae p λe=>st f (e.add 2) d.v λg=>R () g
theorem I4.of:∀{p i H R},I4.vc p i H R->I4.sp p i H R:=aU [] (by kernel_rfl)
def Ld.vc (i base:Int)(H:aa)(R:Kp ByteArray):Prop:=
 br (base==10) (br ((decide ((0:Int)<=i))&&(decide (i<100))) (Lr.sp i H λ(r:ByteArray) H1=>R r H1) (aJ H (zc Oj ML) ML λp h=>br (decide (i<0)) (MJ.sp (OW.wrap (0 - (OW.wrap i))) h λ(b:Int) l=>(0<=(Ol.wrap ((1:Int)+b))/\(Ol.wrap ((1:Int)+b))<=24)/\(0<=(1:Int)/\(1:Int)<=(Ol.wrap ((1:Int)+b)))/\MW.sp (Sl.mk (cE (some p) 24 ((1:Int).toNat) 1) (((Ol.wrap ((1:Int)+b)).toNat) - ((1:Int).toNat)) (24 - ((1:Int).toNat))) (OW.wrap (0 - (OW.wrap i))) l λ(_:Unit) e=>br (decide (i<0)) ((0<=(0:Int)/\(0:Int)<((24:Nat):Int))/\st e (p.add ((0:Int).toNat*1)) (.int .u8 45) λj=>(0<=(Ol.wrap ((1:Int)+b))/\(Ol.wrap ((1:Int)+b))<=24)/\vU j (cE (some p) 24 0 1) (((Ol.wrap ((1:Int)+b)).toNat) - 0) λ(str:ByteArray)=>R str j) ((0<=(Ol.wrap ((1:Int)+b))/\(Ol.wrap ((1:Int)+b))<=24)/\(0<=(1:Int)/\(1:Int)<=(Ol.wrap ((1:Int)+b)))/\vU e (cE (some p) 24 ((1:Int).toNat) 1) (((Ol.wrap ((1:Int)+b)).toNat) - ((1:Int).toNat)) λ(str_1:ByteArray)=>R str_1 e)) (MJ.sp (OW.wrap i) h λ(a:Int) m=>(0<=(Ol.wrap ((1:Int)+a))/\(Ol.wrap ((1:Int)+a))<=24)/\(0<=(1:Int)/\(1:Int)<=(Ol.wrap ((1:Int)+a)))/\MW.sp (Sl.mk (cE (some p) 24 ((1:Int).toNat) 1) (((Ol.wrap ((1:Int)+a)).toNat) - ((1:Int).toNat)) (24 - ((1:Int).toNat))) (OW.wrap i) m λ(_:Unit) f=>br (decide (i<0)) ((0<=(0:Int)/\(0:Int)<((24:Nat):Int))/\st f (p.add ((0:Int).toNat*1)) (.int .u8 45) λk=>(0<=(Ol.wrap ((1:Int)+a))/\(Ol.wrap ((1:Int)+a))<=24)/\vU k (cE (some p) 24 0 1) (((Ol.wrap ((1:Int)+a)).toNat) - 0) λ(c:ByteArray)=>R c k) ((0<=(Ol.wrap ((1:Int)+a))/\(Ol.wrap ((1:Int)+a))<=24)/\(0<=(1:Int)/\(1:Int)<=(Ol.wrap ((1:Int)+a)))/\vU f (cE (some p) 24 ((1:Int).toNat) 1) (((Ol.wrap ((1:Int)+a)).toNat) - ((1:Int).toNat)) λ(d:ByteArray)=>R d f)))) (M1.sp (Sl.mk none 0 0) (OW.wrap i) base (decide (i<0)) false H λ(g:(Sl×ByteArray)) n=>R g.2 n)
theorem Ld.of:∀{i base H R},Ld.vc i base H R->Ld.sp i base H R:=aU [] (by kernel_rfl)
def Jf.vc (s:Sl)(H:aa)(R:Kp Int):Prop:=
 ax Int 0 H λnext z H1=>br (decide (z<(s.n:Int))) (ae s.a λa=>(0<=z/\z<(s.n:Int))/\ld aw H1 (a.add (z.toNat*1)) λ(x:Option Addr)=>Ev.sp x H1 λ(r:Bool) b=>br r (R z b) (next (Ol.wrap (z+1)) b)) (R (-1:Int) H1)
theorem Jf.of:∀{s H R},Jf.vc s H R->Jf.sp s H R:=aU [(2,[(8,(ab .i64))])] (by kernel_rfl)
def JS.vc (s:Sl)(cap:Addr)(H:aa)(R:Kp Int):Prop:=
 ax Int 0 H λnext z H1=>br (decide (z<(s.n:Int))) (ae s.a λa=>(0<=z/\z<(s.n:Int))/\ld aw H1 (a.add (z.toNat*1)) λ(x:Option Addr)=>DE.sp x cap H1 λ(r:Bool) b=>br r (R z b) (next (Ol.wrap (z+1)) b)) (R (-1:Int) H1)
theorem JS.of:∀{s cap H R},JS.vc s cap H R->JS.sp s cap H R:=aU [(2,[(8,(ab .i64))])] (by kernel_rfl)
def Jo.vc (d:Option Addr)(name:ByteArray)(H:aa)(R:Kp Unit):Prop:=
 ae d λa=>ld bU H (a.add 0) λ(x:Option Nat)=>DK (aR [aw,ay]) Oj (PM yX (.map x) (.string name) true) H λ(b:(Option Addr×Bool))=>br b.2 (ae d λc=>ld (ab .i64) H (c.add 1) λ(e:Int)=>ae b.1 λf=>ld ak H (f.add 0) λ(g:Sl)=>ae d λh=>st H (h.add 1) (.int .i64 (Ol.wrap (e - (g.n:Int)))) λH1=>ae d λi=>ld bU H1 (i.add 0) λ(j:Option Nat)=>bf gn Oj (PV #[yX,dy] Ar #[(.map j),(.string name)]) H1 λ(_:Value) k=>R () k) (R () H)
theorem Jo.of:∀{d name H R},Jo.vc d name H R->Jo.sp d name H R:=aU [] (by kernel_rfl)
def JH.vc (p:Option Addr)(H:aa)(R:Kp (Option Addr)):Prop:=
 ae p λa=>ld bU H (a.add 2) λ(x:Option Nat)=>bf aw Oj (Qn xX (.map x)) H λ(it:Option Addr) H1=>ax (Option Addr) none H1 λnext jW g=>bf gd Oj (Qi (.pointer it) false Ar) g λ(h:Bool×List Value) d=>br h.1 (bf oM Oj (P5 (.pointer it)) d λ(i:Value×Value) j=>HT aw i.2 λ(f:Option Addr)=>HE.sp f j λ(r:Bool) b=>br r (br jW.isNone (next f b) (Hq.sp f jW b λ(c:Bool) e=>br c (next f e) (next jW e))) (next jW b)) (R jW d)
theorem JH.of:∀{p H R},JH.vc p H R->JH.sp p H R:=aU [(3,[(7,aw)])] (by kernel_rfl)
def HE.vc (f:Option Addr)(H:aa)(R:Kp Bool):Prop:=
 ae f λa=>ld (ab .i64) H (a.add 5) λ(x:Int)=>R (x==0) H
theorem HE.of:∀{f H R},HE.vc f H R->HE.sp f H R:=aU [] (by kernel_rfl)
def Hq.vc (a b:Option Addr)(H:aa)(R:Kp Bool):Prop:=
 ae a λc=>ld (ab .i64) H (c.add 6) λ(x:Int)=>ae b λd=>ld (ab .i64) H (d.add 6) λ(e:Int)=>R (decide (x<e)) H
theorem Hq.of:∀{a b H R},Hq.vc a b H R->Hq.sp a b H R:=aU [] (by kernel_rfl)
def HP.vc (b:Sl)(H:aa)(R:Kp Int):Prop:=
 ax (Int×Int) ((4294967295:Int),(0:Int)) H λnext z H1=>br (decide (z.2<(b.n:Int))) (ae b.a λa=>(0<=z.2/\z.2<(b.n:Int))/\ld (ab .u8) H1 (a.add (z.2.toNat*1)) λ(c:Int)=>(0<=(lQ .u32 (iS .u32 z.1 (P6.wrap c)) (15:Int))/\(lQ .u32 (iS .u32 z.1 (P6.wrap c)) (15:Int))<((16:Nat):Int))/\ld (ab .u32) H1 ((Yl 0 0 none).add ((lQ .u32 (iS .u32 z.1 (P6.wrap c)) (15:Int)).toNat*1)) λ(x:Int)=>(0<=(lQ .u32 (iS .u32 (dI .u32 (iS .u32 z.1 (P6.wrap c)) (4:Int)) x) (15:Int))/\(lQ .u32 (iS .u32 (dI .u32 (iS .u32 z.1 (P6.wrap c)) (4:Int)) x) (15:Int))<((16:Nat):Int))/\ld (ab .u32) H1 ((Yl 0 0 none).add ((lQ .u32 (iS .u32 (dI .u32 (iS .u32 z.1 (P6.wrap c)) (4:Int)) x) (15:Int)).toNat*1)) λ(d:Int)=>next (iS .u32 (dI .u32 (iS .u32 (dI .u32 (iS .u32 z.1 (P6.wrap c)) (4:Int)) x) (4:Int)) d,Ol.wrap (z.2+1)) H1) (R (iS .u32 (4294967295:Int) z.1) H1)
theorem HP.of:∀{b H R},HP.vc b H R->HP.sp b H R:=aU [(3,[(3,(ab .u32)),(8,(ab .i64))])] (by kernel_rfl)
def JN.vc (s:Sl)(H:aa)(R:Kp Bool):Prop:=
 KA.sp s H λ(r:Int) H1=>R (decide (r>=0)) H1
theorem JN.of:∀{s H R},JN.vc s H R->JN.sp s H R:=aU [] (by kernel_rfl)
def GS.vc (c:Int)(H:aa)(R:Kp Bool):Prop:=
 R (c !=0) H
theorem GS.of:∀{c H R},GS.vc c H R->GS.sp c H R:=aU [] (by kernel_rfl)
def Kt.vc (s:Sl)(seq:Value)(H:aa)(R:Kp Sl):Prop:=
 aJ H #[s.v] Ct λp H1=>oV Oj seq H1 (λl rec vs b h=>iR (dh.dec [aw] vs) λ(z:Option Addr)=>b[l]?=some (.loop (rec .ready none))/\ld ak (b.setIfInBounds l (.loop (rec .busy none))) p λ(x:Sl)=>aJ (b.setIfInBounds l (.loop (rec .busy none))) #[(.pointer z)] tJ λc j=>bf ak Oj (Oq #[Ct,Ct] Ct #[x.v,(.slice (some c) 1 1)]) j λ(d:Sl) k=>st k p d.v λg=>g[l]?=some (.loop (rec .busy none))/\h true (g.setIfInBounds l (.loop (rec .ready none)))) (λr a=>ld ak a p λ(e:Sl)=>a[r]?=some (.deferred (some []))/\R e (a.setIfInBounds r (.deferred none))) (λi r a=>bif OQ i 0 then ld ak a p λ(f:Sl)=>a[r]?=some (.deferred (some []))/\R f (a.setIfInBounds r (.deferred none)) else False) (λr a=>a[r]?=some (.deferred (some []))/\R (Sl.mk none 0 0) (a.setIfInBounds r (.deferred none)))
theorem Kt.of:∀{s seq H R},Kt.vc s seq H R->Kt.sp s seq H R:=aU [(200003,[(7,aw)])] (by kernel_rfl)
def FF.vc (l:Nat)(cap:Addr)(H:aa)(R:Kp Unit):Prop:=
 ld bU H cap λ(x:Option Nat)=>bf aw Oj (Qn xX (.map x)) H λ(it:Option Addr) H1=>ax Unit () H1 λnext _ d=>bf gd Oj (Qi (.pointer it) false Ar) d λ(e:Bool×List Value) a=>br e.1 (bf oM Oj (P5 (.pointer it)) a λ(f:Value×Value) g=>HT aw f.2 λ(v:Option Addr)=>b8 Oj l #[(.pointer v)] g λ(b:Bool) c=>br (!b) (R () c) (next () c)) (R () a)
theorem FF.of:∀{l cap H R},FF.vc l cap H R->FF.sp l cap H R:=aU [(1,[])] (by kernel_rfl)
def Kg.vc (d:Option Addr)(name:ByteArray)(H:aa)(R:Kp Int):Prop:=
 ae d λa=>ld ay H (a.add 8) λ(x:Bool)=>br x (R (4:Int) H) (Be.sp d name H λ(r:Int) H1=>br (decide (r<0)) (R (11:Int) H1) (E0.sp d H1 λ(e:Int) c=>br (e==0) (Be.sp d name c λ(b:Int) f=>Ki.sp d b f λ(_:Unit) g=>R e g) (R e c)))
theorem Kg.of:∀{d name H R},Kg.vc d name H R->Kg.sp d name H R:=aU [] (by kernel_rfl)
def Jh.vc (b:Sl)(H:aa)(R:Kp Int):Prop:=
 ax (Int×Int) ((4294967295:Int),(0:Int)) H λnext z H1=>br (decide (z.2<(b.n:Int))) (ae b.a λa=>(0<=z.2/\z.2<(b.n:Int))/\ld (ab .u8) H1 (a.add (z.2.toNat*1)) λ(x:Int)=>ax (Int×Int) (iS .u32 z.1 (P6.wrap x),(0:Int)) H1 λd c e=>br (decide (c.2<8)) (br ((lQ .u32 c.1 (1:Int))==1) (d (iS .u32 (dI .u32 c.1 (1:Int)) (3988292384:Int),Ol.wrap (c.2+1)) e) (d (dI .u32 c.1 (1:Int),Ol.wrap (c.2+1)) e)) (next (c.1,Ol.wrap (z.2+1)) e)) (R (iS .u32 z.1 (4294967295:Int)) H1)
theorem Jh.of:∀{b H R},Jh.vc b H R->Jh.sp b H R:=aU [(3,[(3,(ab .u32)),(4,(ab .i64))]),(7,[(3,(ab .u32)),(5,(ab .i64))])] (by kernel_rfl)
def Iq.vc (d:Option Addr)(H:aa)(R:Kp Int):Prop:=
 ax (Int×Int) ((0:Int),(0:Int)) H λnext z H1=>ae d λa=>ld ak H1 (a.add 0) λ(x:Sl)=>br (decide (z.2<(x.n:Int))) (ae d λe=>ld ak H1 (e.add 0) λ(c:Sl)=>ae c.a λf=>(0<=z.2/\z.2<(c.n:Int))/\c9 (bR [aH,ak,ak]) 3 H1 (f.add (z.2.toNat*3)) λ(b:(ByteArray×Sl×Sl))=>DU.sp b.1 b.2.1 b.2.2 H1 λ(r:Sl) g=>next (Ol.wrap (z.1+(r.n:Int)),Ol.wrap (z.2+1)) g) (R z.1 H1)
theorem Iq.of:∀{d H R},Iq.vc d H R->Iq.sp d H R:=aU [(3,[(3,(ab .i64)),(4,(ab .i64))])] (by kernel_rfl)
def Lr.vc (i:Int)(H:aa)(R:Kp ByteArray):Prop:=
 br (decide (i<10)) ((0<=(Ol.wrap (i+1))/\(Ol.wrap (i+1))<=(((O2 #[48,49,50,51,52,53,54,55,56,57,97,98,99,100,101,102,103,104,105,106,107,108,109,110,111,112,113,114,115,116,117,118,119,120,121,122]).size:Nat):Int))/\(0<=i/\i<=(Ol.wrap (i+1)))/\R ((O2 #[48,49,50,51,52,53,54,55,56,57,97,98,99,100,101,102,103,104,105,106,107,108,109,110,111,112,113,114,115,116,117,118,119,120,121,122]).extract i.toNat ((Ol.wrap (i+1)).toNat)) H) ((0<=(Ol.wrap ((Ol.wrap (i*2))+2))/\(Ol.wrap ((Ol.wrap (i*2))+2))<=(J8.size:Int))/\(0<=(Ol.wrap (i*2))/\(Ol.wrap (i*2))<=(Ol.wrap ((Ol.wrap (i*2))+2)))/\R (J8.extract ((Ol.wrap (i*2)).toNat) ((Ol.wrap ((Ol.wrap (i*2))+2)).toNat)) H)
theorem Lr.of:∀{i H R},Lr.vc i H R->Lr.sp i H R:=aU [] (by kernel_rfl)
def KA.vc (s:Sl)(H:aa)(R:Kp Int):Prop:=
 ax Int 0 H λnext z H1=>br (decide (z<(s.n:Int))) (ae s.a λa=>(0<=z/\z<(s.n:Int))/\ld (ab .u8) H1 (a.add (z.toNat*1)) λ(x:Int)=>GS.sp x H1 λ(r:Bool) b=>br r (R z b) (next (Ol.wrap (z+1)) b)) (R (-1:Int) H1)
theorem KA.of:∀{s H R},KA.vc s H R->KA.sp s H R:=aU [(2,[(8,(ab .i64))])] (by kernel_rfl)
def Ki.vc (d:Option Addr)(i:Int)(H:aa)(R:Kp Unit):Prop:=
 ae d λa=>ld ak H (a.add 0) λ(x:Sl)=>(0<=i/\i<=(x.c:Int))/\bf ak Oj (Oq #[Df,Df] Df #[(.slice none 0 0),(.slice (cE x.a x.c 0 3) (i.toNat - 0) (x.c - 0))]) H λ(l:Sl) H1=>ae d λc=>ld ak H1 (c.add 0) λ(b:Sl)=>(0<=(Ol.wrap (i+1))/\(Ol.wrap (i+1))<=(b.n:Int))/\bf ak Oj (Oq #[Df,Df] Df #[l.v,(.slice (cE b.a b.c ((Ol.wrap (i+1)).toNat) 3) (b.n - ((Ol.wrap (i+1)).toNat)) (b.c - ((Ol.wrap (i+1)).toNat)))]) H1 λ(e:Sl) g=>ae d λf=>st g (f.add 0) e.v λh=>R () h
theorem Ki.of:∀{d i H R},Ki.vc d i H R->Ki.sp d i H R:=aU [] (by kernel_rfl)
end Go.Proofs.YtmkbhnholcaghaaGreatDoor
