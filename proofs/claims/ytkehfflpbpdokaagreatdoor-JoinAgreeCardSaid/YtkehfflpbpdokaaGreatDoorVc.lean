/-
 Written by wip/tools/gen.py: what the walk of each function asks, in plain form, and that it is enough.
-/
import Derived.Test.YtkehfflpbpdokaaGreatDoorFxf
import Derived.Test.YtkehfflpbpdokaaGreatDoorProg
import Derived.KernelRfl
open ByteArray renaming mk->RV
open Go.Addr renaming mk->Yc
open Go.Builtin renaming append_->Qo,copy_->Rh,delete_->RN,clear_->WO
open Go.Instr renaming makeSlice->Rn,lookup->RK,storeAt->RL,buildSlice->Sh,mapUpdate->Sr,entry->Ui,next->Ux,range->UQ
open Go.IntKind renaming i64->Qe,u32->Qh,u8->QF,u64->Q0
open Go.Proofs.Tryz renaming prog->Qf
open Int renaming tdiv->Qy,tmod->QK
open Nat renaming beq->QQ
namespace Go.Proofs.YtkehfflpbpdokaaGreatDoor
set_option maxRecDepth 100000
theorem BB:Qf.follows .mixedOrders=true:=by kernel_rfl
theorem GZ:(Qf.funcs.toList.all λfn=>!(fn.name=="runtime.NumGoroutine"))=true:=by kernel_rfl
theorem JI:mL Qf:=by
 intro f fn a;have h1:=List.all_eq_true.1 GZ fn (by
  have:=Array.getElem?_eq_some_iff.1 a;obtain⟨h,e⟩:=this;rw[<-e];simp)
 simpa using h1
theorem bn {c:gz}{f:FuncId}(A:CL){args:List Value}{H:aa}{R:c.α->aa->Prop}{V:Prop}(e:N2 c Qf f A args H R=V)(h:V):an c Qf f args.toArray H R:=Au JI BB (A:=A) (Eq.mpr e h)
abbrev Kp (α:Type):=α->aa->Prop
@[reducible] def J3:TypeId:=0
abbrev bT:TypeId:=3
abbrev kJ:TypeId:=5
abbrev Ox:TypeId:=9
abbrev cW:TypeId:=22
abbrev gM:TypeId:=23
abbrev Mu:TypeId:=28
abbrev DD:TypeId:=31
abbrev dX:TypeId:=34
abbrev NT:TypeId:=35
abbrev cv:TypeId:=36
abbrev yC:TypeId:=55
abbrev K3:TypeId:=60
abbrev LK:TypeId:=69
abbrev Ms:TypeId:=73
abbrev AN:TypeId:=74
abbrev NP:TypeId:=75
abbrev DN:TypeId:=77
abbrev Oy:TypeId:=82
abbrev Dj:TypeId:=84
abbrev Mm:TypeId:=94
abbrev EY:TypeId:=96
abbrev NO:TypeId:=97
abbrev Oa:TypeId:=98
abbrev EL:TypeId:=103
abbrev xz:TypeId:=116
abbrev Dq:TypeId:=118
abbrev Pa:TypeId:=136
abbrev OR:TypeId:=139
abbrev AP:TypeId:=141
abbrev LN:TypeId:=142
abbrev II:TypeId:=144
abbrev MV:TypeId:=151
abbrev jJ:TypeId:=156
abbrev rq:TypeId:=185
abbrev N8:TypeId:=202
abbrev NW:TypeId:=203
abbrev MM:TypeId:=205
abbrev jX:TypeId:=209
abbrev Eu:TypeId:=225
abbrev uX:TypeId:=228
abbrev yE:TypeId:=230
abbrev MG:TypeId:=232
abbrev Ig:TypeId:=255
abbrev M9:TypeId:=257
abbrev Nf:TypeId:=307
abbrev Bd:TypeId:=309
abbrev JB:TypeId:=311
@[reducible] def gw:ByteArray:=RV #[0,1,2,2,3,3,3,3,4,4,4,4,4,4,4,4,5,5,5,5,5,5,5,5,5,5,5,5,5,5,5,5,6,6,6,6,6,6,6,6,6,6,6,6,6,6,6,6,6,6,6,6,6,6,6,6,6,6,6,6,6,6,6,6,7,7,7,7,7,7,7,7,7,7,7,7,7,7,7,7,7,7,7,7,7,7,7,7,7,7,7,7,7,7,7,7,7,7,7,7,7,7,7,7,7,7,7,7,7,7,7,7,7,7,7,7,7,7,7,7,7,7,7,7,7,7,7,7,8,8,8,8,8,8,8,8,8,8,8,8,8,8,8,8,8,8,8,8,8,8,8,8,8,8,8,8,8,8,8,8,8,8,8,8,8,8,8,8,8,8,8,8,8,8,8,8,8,8,8,8,8,8,8,8,8,8,8,8,8,8,8,8,8,8,8,8,8,8,8,8,8,8,8,8,8,8,8,8,8,8,8,8,8,8,8,8,8,8,8,8,8,8,8,8,8,8,8,8,8,8,8,8,8,8,8,8,8,8,8,8,8,8,8,8,8,8,8,8,8,8,8,8,8,8,8,8]
@[reducible] def bS:ByteArray:=RV #[48,48,48,49,48,50,48,51,48,52,48,53,48,54,48,55,48,56,48,57,49,48,49,49,49,50,49,51,49,52,49,53,49,54,49,55,49,56,49,57,50,48,50,49,50,50,50,51,50,52,50,53,50,54,50,55,50,56,50,57,51,48,51,49,51,50,51,51,51,52,51,53,51,54,51,55,51,56,51,57,52,48,52,49,52,50,52,51,52,52,52,53,52,54,52,55,52,56,52,57,53,48,53,49,53,50,53,51,53,52,53,53,53,54,53,55,53,56,53,57,54,48,54,49,54,50,54,51,54,52,54,53,54,54,54,55,54,56,54,57,55,48,55,49,55,50,55,51,55,52,55,53,55,54,55,55,55,56,55,57,56,48,56,49,56,50,56,51,56,52,56,53,56,54,56,55,56,56,56,57,57,48,57,49,57,50,57,51,57,52,57,53,57,54,57,55,57,56,57,57]
abbrev tN.no:FuncId:=15
abbrev IM.no:FuncId:=51
abbrev BO.no:FuncId:=60
abbrev GU.no:FuncId:=64
abbrev HH.no:FuncId:=65
abbrev AL.no:FuncId:=67
abbrev Gn.no:FuncId:=73
abbrev Hg.no:FuncId:=110
abbrev Ly.no:FuncId:=127
abbrev GX.no:FuncId:=157
abbrev EZ.no:FuncId:=195
abbrev E5.no:FuncId:=197
abbrev Kc.no:FuncId:=198
abbrev KM.no:FuncId:=215
abbrev JY.no:FuncId:=216
abbrev Fg.no:FuncId:=227
abbrev Hj.no:FuncId:=229
abbrev IN.no:FuncId:=239
abbrev Ml.sp (rows left:Sl)(H:aa)(R:Kp Bool):=an aC Qf 4 #[rows.v,left.v] H R
abbrev Ko.sp (quota:Int)(H:aa)(R:Kp (Option Addr)):=an aq Qf 7 #[(.int .i64 quota)] H R
abbrev It.sp (d:Option Addr)(aD:Int)(H:aa)(R:Kp (Option Addr×Int)):=an (bf [aq,(ai .i64)]) Qf 8 #[(.pointer d),(.int .i64 aD)] H R
abbrev JT.sp (p:Option Addr)(name:ByteArray)(width:Int)(a:Sl)(H:aa)(R:Kp (Option Addr×Int)):=an (bf [aq,(ai .i64)]) Qf 9 #[(.pointer p),(.string name),(.int .i64 width),a.v] H R
abbrev Fi.sp (r:Option Addr)(l:Sl)(H:aa)(R:Kp (Bool×Int)):=an (bf [aC,(ai .i64)]) Qf 10 #[(.pointer r),l.v] H R
abbrev Cy.sp (r:Option Addr)(H:aa)(R:Kp (Int×Int)):=an (bf [(ai .i64),(ai .i64)]) Qf 12 #[(.pointer r)] H R
abbrev LL.sp (a b:Sl)(H:aa)(R:Kp Bool):=an aC Qf 14 #[a.v,b.v] H R
abbrev tN.sp (a b:Sl)(H:aa)(R:Kp Int):=an (ai .i64) Qf 15 #[a.v,b.v] H R
abbrev Jd.sp (rows:Sl)(width:Int)(a:Sl)(H:aa)(R:Kp (Option Addr×Bool)):=an (bf [aq,aC]) Qf 19 #[rows.v,(.int .i64 width),a.v] H R
abbrev JV.sp (rows:Sl)(H:aa)(R:Kp Sl):=an au Qf 20 #[rows.v] H R
abbrev qz.sp (s:Option Addr)(H:aa)(R:Kp (Sl×Bool)):=an (bf [au,aC]) Qf 21 #[(.pointer s)] H R
abbrev yz.sp (left r:Option Addr)(part:Int)(a b:Sl)(H:aa)(R:Kp (Option Addr)):=an aq Qf 22 #[(.pointer left),(.pointer r),(.int .u8 part),a.v,b.v] H R
abbrev uY.sp (r:Option Addr)(part:Int)(H:aa)(R:Kp (Option Addr)):=an aq Qf 23 #[(.pointer r),(.int .u8 part)] H R
abbrev JE.sp (a b:Option Addr)(cols:Int)(H:aa)(R:Kp (Option Addr)):=an aq Qf 24 #[(.pointer a),(.pointer b),(.int .i64 cols)] H R
abbrev xU.sp (left r:Option Addr)(a b:Sl)(H:aa)(R:Kp (Option Addr)):=an aq Qf 25 #[(.pointer left),(.pointer r),a.v,b.v] H R
abbrev DW.sp (a b:Sl)(H:aa)(R:Kp Bool):=an aC Qf 26 #[a.v,b.v] H R
abbrev LU.sp (H:aa)(R:Kp Bool):=an aC Qf 27 #[] H R
abbrev Ir.sp (rows:Sl)(width:Int)(H:aa)(R:Kp (Option Addr)):=an aq Qf 32 #[rows.v,(.int .i64 width)] H R
abbrev HX.sp (width:Int)(H:aa)(R:Kp Int):=an (ai .i64) Qf 35 #[(.int .i64 width)] H R
abbrev LW.sp (x:Sl)(H:aa)(R:Kp Bool):=an aC Qf 36 #[x.v] H R
abbrev K4.sp (l:Sl)(width:Int)(H:aa)(R:Kp Bool):=an aC Qf 37 #[l.v,(.int .i64 width)] H R
abbrev DP.sp (s:Sl)(H:aa)(R:Kp Sl):=an au Qf 38 #[s.v] H R
abbrev Ff.sp (b:Option Addr)(H:aa)(R:Kp (Option Addr)):=an aq Qf 39 #[(.pointer b)] H R
abbrev Iu.sp (r:Option Addr)(H:aa)(R:Kp Int):=an (ai .i64) Qf 40 #[(.pointer r)] H R
abbrev KW.sp (r:Option Addr)(l parts:Sl)(H:aa)(R:Kp (Bool×Int)):=an (bf [aC,(ai .i64)]) Qf 41 #[(.pointer r),l.v,parts.v] H R
abbrev Kl.sp (t:Option Addr)(l:Sl)(p:Option Addr)(H:aa)(R:Kp Int):=an (ai .i64) Qf 42 #[(.pointer t),l.v,(.pointer p)] H R
abbrev Dx.sp (b:Option Addr)(e:Int)(H:aa)(R:Kp Int):=an (ai .i64) Qf 43 #[(.pointer b),(.int .i64 e)] H R
abbrev Im.sp (t:Option Addr)(low:Sl)(H:aa)(R:Kp (Option Addr)):=an aq Qf 44 #[(.pointer t),low.v] H R
abbrev Is.sp (c:Option Addr)(H:aa)(R:Kp (Sl×Bool×Int)):=an (bf [au,aC,(ai .i64)]) Qf 45 #[(.pointer c)] H R
abbrev Lq.sp (t:Option Addr)(H:aa)(R:Kp Int):=an (ai .i64) Qf 46 #[(.pointer t)] H R
abbrev Kk.sp (t:Option Addr)(H:aa)(R:Kp Int):=an (ai .i64) Qf 47 #[(.pointer t)] H R
abbrev Fe.sp (r:Option Addr)(part:Int)(cols words:Sl)(H:aa)(R:Kp (Option Addr)):=an aq Qf 48 #[(.pointer r),(.int .u8 part),cols.v,words.v] H R
abbrev vD.sp (c:Option Addr)(H:aa)(R:Kp (Sl×Bool×Int)):=an (bf [au,aC,(ai .i64)]) Qf 49 #[(.pointer c)] H R
abbrev Mg.sp (s1 s2:Sl)(H:aa)(R:Kp Int):=an (ai .i64) Qf 50 #[s1.v,s2.v,(.func (.func IM.no) #[] #[])] H R
abbrev IM.sp (x y:Int)(H:aa)(R:Kp Int):=an (ai .i64) Qf 51 #[(.int .u64 x),(.int .u64 y)] H R
abbrev LJ.sp (r:Option Addr)(n:Int)(H:aa)(R:Kp Sl):=an au Qf 52 #[(.pointer r),(.int .u8 n)] H R
abbrev L4.sp (width:Int)(a:Sl)(H:aa)(R:Kp (Option Addr×Int)):=an (bf [aq,(ai .i64)]) Qf 53 #[(.int .i64 width),a.v] H R
abbrev Lu.sp (r:Option Addr)(l:Sl)(H:aa)(R:Kp (Bool×Int)):=an (bf [aC,(ai .i64)]) Qf 54 #[(.pointer r),l.v] H R
abbrev Jw.sp (r:Option Addr)(H:aa)(R:Kp Int):=an (ai .i64) Qf 55 #[(.pointer r)] H R
abbrev sq.sp (s:Option Addr)(H:aa)(R:Kp (Sl×Bool×Int)):=an (bf [au,aC,(ai .i64)]) Qf 56 #[(.pointer s)] H R
abbrev IJ.sp (left r:Option Addr)(a:Sl)(width:Int)(fn:Fn)(b ca:Array Value)(H:aa)(R:Kp (Option Addr)):=an aq Qf 57 #[(.pointer left),(.pointer r),a.v,(.int .i64 width),(.func fn b ca)] H R
abbrev xI.sp (s:Option Addr)(H:aa)(R:Kp Int):=an (ai .i64) Qf 58 #[(.pointer s)] H R
abbrev JL.sp (r:Option Addr)(H:aa)(R:Kp Int):=an (ai .i64) Qf 59 #[(.pointer r)] H R
abbrev BO.sp (cap cap1 cap2 cap3 cap4 cap5 cap6:Addr)(H:aa)(R:Kp (Sl×Bool×Int)):=an (bf [au,aC,(ai .i64)]) Qf 60 #[(.pointer (some cap)),(.pointer (some cap1)),(.pointer (some cap2)),(.pointer (some cap3)),(.pointer (some cap4)),(.pointer (some cap5)),(.pointer (some cap6))] H R
abbrev GS.sp (l cols:Sl)(H:aa)(R:Kp (Sl×Int)):=an (bf [au,(ai .i64)]) Qf 61 #[l.v,cols.v] H R
abbrev EV.sp (a b:Sl)(H:aa)(R:Kp Sl):=an au Qf 62 #[a.v,b.v] H R
abbrev xm.sp (width:Int)(under:Sl)(e:Int)(fn:Fn)(a ca:Array Value)(H:aa)(R:Kp (Option Addr)):=an aq Qf 63 #[(.int .i64 width),under.v,(.int .i64 e),(.func fn a ca)] H R
abbrev GU.sp (cap cap1 cap2:Addr)(H:aa)(R:Kp (Sl×Bool×Int)):=an (bf [au,aC,(ai .i64)]) Qf 64 #[(.pointer (some cap)),(.pointer (some cap1)),(.pointer (some cap2))] H R
abbrev HH.sp (cap cap1 cap2 cap3 cap4:Addr)(H:aa)(R:Kp (Sl×Bool×Int)):=an (bf [au,aC,(ai .i64)]) Qf 65 #[(.pointer (some cap)),(.pointer (some cap1)),(.pointer (some cap2)),(.pointer (some cap3)),(.pointer (some cap4))] H R
abbrev DO.sp (r:Option Addr)(H:aa)(R:Kp Int):=an (ai .i64) Qf 66 #[(.pointer r)] H R
abbrev AL.sp (cap cap1 cap2 cap3:Addr)(H:aa)(R:Kp (Sl×Bool×Int)):=an (bf [au,aC,(ai .i64)]) Qf 67 #[(.pointer (some cap)),(.pointer (some cap1)),(.pointer (some cap2)),(.pointer (some cap3))] H R
abbrev Ix.sp (a b:Sl)(H:aa)(R:Kp Int):=an (ai .i64) Qf 71 #[a.v,b.v] H R
abbrev AO.sp (s:Sl)(H:aa)(R:Kp Sl):=an au Qf 72 #[s.v] H R
abbrev Gn.sp (cap cap1:Addr)(H:aa)(R:Kp (Sl×Bool×Int)):=an (bf [au,aC,(ai .i64)]) Qf 73 #[(.pointer (some cap)),(.pointer (some cap1))] H R
abbrev IV.sp (width:Int)(H:aa)(R:Kp Int):=an (ai .i64) Qf 75 #[(.int .i64 width)] H R
abbrev MB.sp (x y:Int)(H:aa)(R:Kp Bool):=an aC Qf 76 #[(.int .i64 x),(.int .i64 y)] H R
abbrev MY.sp (seq:Value)(H:aa)(R:Kp Sl):=an au Qf 77 #[seq] H R
abbrev MS.sp (s:Sl)(H:aa)(R:Kp Value):=an jF Qf 78 #[s.v] H R
abbrev Lg.sp (t:Option Addr)(l:Sl)(H:aa)(R:Kp (Bool×Int)):=an (bf [aC,(ai .i64)]) Qf 79 #[(.pointer t),l.v] H R
abbrev Iv.sp (p:Option Addr)(name:ByteArray)(width:Int)(H:aa)(R:Kp (Option Addr×Int)):=an (bf [aq,(ai .i64)]) Qf 80 #[(.pointer p),(.string name),(.int .i64 width)] H R
abbrev E6.sp (i:Int)(H:aa)(R:Kp ByteArray):=an dN Qf 81 #[(.int .i64 i)] H R
abbrev Iy.sp (t:Option Addr)(l:Sl)(H:aa)(R:Kp (Bool×Int)):=an (bf [aC,(ai .i64)]) Qf 82 #[(.pointer t),l.v] H R
abbrev J8.sp (b:Option Addr)(l:Sl)(order:Int)(H:aa)(R:Kp Sl):=an au Qf 83 #[(.pointer b),l.v,(.int .i64 order)] H R
abbrev GL.sp (t:Option Addr)(H:aa)(R:Kp Int):=an (ai .i64) Qf 84 #[(.pointer t)] H R
abbrev E4.sp (t:Option Addr)(ag above:Int)(b a low:Sl)(strict:Bool)(H:aa)(R:Kp (Sl×Int)):=an (bf [au,(ai .i64)]) Qf 85 #[(.pointer t),(.int .i64 ag),(.int .i64 above),(.agg #[b.v,a.v]),low.v,(.bool strict)] H R
abbrev wO.sp (t:Option Addr)(e:Int)(H:aa)(R:Kp Int):=an (ai .i64) Qf 86 #[(.pointer t),(.int .i64 e)] H R
abbrev Lb.sp (t:Option Addr)(H:aa)(R:Kp Int):=an (ai .i64) Qf 87 #[(.pointer t)] H R
abbrev IU.sp (t:Option Addr)(H:aa)(R:Kp Int):=an (ai .i64) Qf 88 #[(.pointer t)] H R
abbrev JD.sp (s:Sl)(v:Int)(H:aa)(R:Kp Bool):=an aC Qf 89 #[s.v,(.int .i64 v)] H R
abbrev Ld.sp (r:Option Addr)(cols:Sl)(H:aa)(R:Kp (Int×Bool)):=an (bf [(ai .i64),aC]) Qf 90 #[(.pointer r),cols.v] H R
abbrev Ja.sp (s:Sl)(v:Int)(H:aa)(R:Kp Int):=an (ai .i64) Qf 91 #[s.v,(.int .i64 v)] H R
abbrev KX.sp (c:Option Addr)(H:aa)(R:Kp (Sl×Int)):=an (bf [au,(ai .i64)]) Qf 92 #[(.pointer c)] H R
abbrev LG.sp (b:Option Addr)(l:Sl)(order:Int)(H:aa)(R:Kp Sl):=an au Qf 93 #[(.pointer b),l.v,(.int .i64 order)] H R
abbrev Kg.sp (s1 s2:Sl)(H:aa)(R:Kp Bool):=an aC Qf 94 #[s1.v,s2.v] H R
abbrev J4.sp (x:Int)(H:aa)(R:Kp Bool):=an aC Qf 95 #[(.int .u64 x)] H R
abbrev KR.sp (width:Int)(H:aa)(R:Kp Int):=an (ai .i64) Qf 96 #[(.int .i64 width)] H R
abbrev Lj.sp (l:Sl)(width:Int)(H:aa)(R:Kp Bool):=an aC Qf 97 #[l.v,(.int .i64 width)] H R
abbrev Ik.sp (l x:Sl)(H:aa)(R:Kp Bool):=an aC Qf 98 #[l.v,x.v] H R
abbrev JN.sp (l x:Sl)(H:aa)(R:Kp Sl):=an au Qf 99 #[l.v,x.v] H R
abbrev L3.sp (s:Option Addr)(l:Sl)(H:aa)(R:Kp Int):=an (ai .i64) Qf 100 #[(.pointer s),l.v] H R
abbrev Ii.sp (d:Option Addr)(H:aa)(R:Kp Int):=an (ai .i64) Qf 104 #[(.pointer d)] H R
abbrev Li.sp (x:Int)(H:aa)(R:Kp Bool):=an aC Qf 107 #[(.int .i64 x)] H R
abbrev Mv.sp (seq:Value)(H:aa)(R:Kp Sl):=an au Qf 108 #[seq] H R
abbrev Pc.sp (x:Sl)(H:aa)(R:Kp Unit):=an (bf []) Qf 109 #[x.v] H R
abbrev Hg.sp (l:Nat)(cap:Addr)(H:aa)(R:Kp Unit):=an (bf []) Qf 110 #[(.func (.yield l) #[] #[]),(.pointer (some cap))] H R
abbrev Kh.sp (t:Option Addr)(l:Sl)(H:aa)(R:Kp (Bool×Int)):=an (bf [aC,(ai .i64)]) Qf 111 #[(.pointer t),l.v] H R
abbrev K6.sp (p:Option Addr)(H:aa)(R:Kp (Option Addr)):=an aq Qf 112 #[(.pointer p)] H R
abbrev LP.sp (d:Option Addr)(name:ByteArray)(H:aa)(R:Kp Int):=an (ai .i64) Qf 113 #[(.pointer d),(.string name)] H R
abbrev LO.sp (t:Option Addr)(fresh:Bool)(H:aa)(R:Kp Int):=an (ai .i64) Qf 114 #[(.pointer t),(.bool fresh)] H R
abbrev yD.sp (t n:Option Addr)(H:aa)(R:Kp Int):=an (ai .i64) Qf 115 #[(.pointer t),(.pointer n)] H R
abbrev IQ.sp (i:Int)(H:aa)(R:Kp ByteArray):=an dN Qf 116 #[(.int .i64 i)] H R
abbrev GR.sp (t:Option Addr)(ag above:Int)(b a l:Sl)(H:aa)(R:Kp (Bool×Option Addr×Sl×Int)):=an (bf [aC,aq,au,(ai .i64)]) Qf 117 #[(.pointer t),(.int .i64 ag),(.int .i64 above),(.agg #[b.v,a.v]),l.v] H R
abbrev JF.sp (t:Option Addr)(ag above:Int)(b a:Sl)(H:aa)(R:Kp (Option Addr×Int)):=an (bf [aq,(ai .i64)]) Qf 118 #[(.pointer t),(.int .i64 ag),(.int .i64 above),(.agg #[b.v,a.v])] H R
abbrev Io.sp (x target:Sl)(H:aa)(R:Kp (Int×Bool)):=an (bf [(ai .i64),aC]) Qf 119 #[x.v,target.v,(.func (.func tN.no) #[] #[])] H R
abbrev KH.sp (n:Option Addr)(l:Sl)(H:aa)(R:Kp Int):=an (ai .i64) Qf 120 #[(.pointer n),l.v] H R
abbrev Ke.sp (b a:Sl)(n:Option Addr)(i:Int)(H:aa)(R:Kp (Sl×Sl)):=an (iD [au,au]) Qf 121 #[(.agg #[b.v,a.v]),(.pointer n),(.int .i64 i)] H R
abbrev Jl.sp (p:Option Addr)(name:ByteArray)(H:aa)(R:Kp Int):=an (ai .i64) Qf 122 #[(.pointer p),(.string name)] H R
abbrev Ip.sp (c:Option Addr)(i:Int)(H:aa)(R:Kp Int):=an (ai .i64) Qf 123 #[(.pointer c),(.int .i64 i)] H R
abbrev Ll.sp (width:Int)(H:aa)(R:Kp Int):=an (ai .i64) Qf 124 #[(.int .i64 width)] H R
abbrev Km.sp (l x:Sl)(H:aa)(R:Kp Int):=an (ai .i64) Qf 125 #[l.v,x.v] H R
abbrev Mn.sp (s:Sl)(f:Value)(H:aa)(R:Kp Bool):=an aC Qf 126 #[s.v,f] H R
abbrev Ly.sp (c:Int)(cap:Addr)(H:aa)(R:Kp Bool):=an aC Qf 127 #[(.int .i64 c),(.pointer (some cap))] H R
abbrev LH.sp (s:Sl)(seq:Value)(H:aa)(R:Kp Sl):=an au Qf 132 #[s.v,seq] H R
abbrev Qc.sp (data:Sl)(a b c:Int)(H:aa)(R:Kp Unit):=an (bf []) Qf 133 #[data.v,(.int .i64 a),(.int .i64 b),(.int .i64 c)] H R
abbrev Py.sp (x:Int)(H:aa)(R:Kp Int):=an (ai .i64) Qf 134 #[(.int .u64 x)] H R
abbrev Jh.sp (s:ByteArray)(H:aa)(R:Kp Bool):=an aC Qf 135 #[(.string s)] H R
abbrev FT.sp (d:Option Addr)(H:aa)(R:Kp Int):=an (ai .i64) Qf 136 #[(.pointer d)] H R
abbrev Je.sp (p:Option Addr)(name:ByteArray)(H:aa)(R:Kp (Int×Int×Int)):=an (bf [(ai .i64),(ai .i64),(ai .i64)]) Qf 137 #[(.pointer p),(.string name)] H R
abbrev IH.sp (p:Option Addr)(name:ByteArray)(ag:Int)(H:aa)(R:Kp (Int×Int)):=an (bf [(ai .i64),(ai .i64)]) Qf 138 #[(.pointer p),(.string name),(.int .i64 ag)] H R
abbrev IC.sp (n:Int)(H:aa)(R:Kp Sl):=an au Qf 139 #[(.int .i64 n)] H R
abbrev Hd.sp (p:Option Addr)(h kind:Int)(b:Sl)(H:aa)(R:Kp Int):=an (ai .i64) Qf 140 #[(.pointer p),(.int .i64 h),(.int .u8 kind),b.v] H R
abbrev E9.sp (l:Sl)(H:aa)(R:Kp Sl):=an au Qf 141 #[l.v] H R
abbrev Fh.sp (p:Option Addr)(h:Int)(H:aa)(R:Kp Int):=an (ai .i64) Qf 142 #[(.pointer p),(.int .i64 h)] H R
abbrev IW.sp (i base:Int)(H:aa)(R:Kp ByteArray):=an dN Qf 143 #[(.int .i64 i),(.int .i64 base)] H R
abbrev IF.sp (s:Sl)(i:Int)(v:Sl)(H:aa)(R:Kp Sl):=an au Qf 144 #[s.v,(.int .i64 i),v.v] H R
abbrev MF.sp (s:Sl)(i:Int)(v:Sl)(H:aa)(R:Kp Sl):=an au Qf 145 #[s.v,(.int .i64 i),v.v] H R
abbrev E3.sp (t:Option Addr)(H:aa)(R:Kp Int):=an (ai .i64) Qf 146 #[(.pointer t)] H R
abbrev Be.sp (t n:Option Addr)(H:aa)(R:Kp (Option Addr×Sl×Int)):=an (bf [aq,au,(ai .i64)]) Qf 147 #[(.pointer t),(.pointer n)] H R
abbrev Ks.sp (t:Option Addr)(ag:Int)(H:aa)(R:Kp (Int×Sl×Int)):=an (bf [(ai .u8),au,(ai .i64)]) Qf 148 #[(.pointer t),(.int .i64 ag)] H R
abbrev LF.sp (b:Sl)(H:aa)(R:Kp Int):=an (ai .i64) Qf 149 #[b.v] H R
abbrev K7.sp (b:Sl)(width:Int)(H:aa)(R:Kp (Sl×Int)):=an (bf [au,(ai .i64)]) Qf 150 #[b.v,(.int .i64 width)] H R
abbrev Lx.sp (b a l:Sl)(H:aa)(R:Kp Bool):=an aC Qf 151 #[(.agg #[b.v,a.v]),l.v] H R
abbrev Fj.sp (p:Option Addr)(H:aa)(R:Kp Int):=an (ai .i64) Qf 152 #[(.pointer p)] H R
abbrev IB.sp (d:Option Addr)(name:ByteArray)(H:aa)(R:Kp (Int×Int)):=an (bf [(ai .i64),(ai .i64)]) Qf 153 #[(.pointer d),(.string name)] H R
abbrev AM.sp (p:Option Addr)(e:Int)(H:aa)(R:Kp Int):=an (ai .i64) Qf 154 #[(.pointer p),(.int .i64 e)] H R
abbrev LY.sp (p:Option Addr)(name:ByteArray)(H:aa)(R:Kp Sl):=an au Qf 155 #[(.pointer p),(.string name)] H R
abbrev K9.sp (s:Sl)(H:aa)(R:Kp Bool):=an aC Qf 156 #[s.v,(.func (.func GX.no) #[] #[])] H R
abbrev GX.sp (f:Option Addr)(H:aa)(R:Kp Bool):=an aC Qf 157 #[(.pointer f)] H R
abbrev Lp.sp (d:Option Addr)(name:ByteArray)(H:aa)(R:Kp Int):=an (ai .i64) Qf 158 #[(.pointer d),(.string name)] H R
abbrev K5.sp (l p:Sl)(H:aa)(R:Kp Bool):=an aC Qf 159 #[l.v,p.v] H R
abbrev Nc.sp (s:Sl)(f:Value)(H:aa)(R:Kp Int):=an (ai .i64) Qf 160 #[s.v,f] H R
abbrev PN.sp (data:Sl)(a b:Int)(H:aa)(R:Kp Unit):=an (bf []) Qf 163 #[data.v,(.int .i64 a),(.int .i64 b)] H R
abbrev Px.sp (data:Sl)(a b:Int)(H:aa)(R:Kp Unit):=an (bf []) Qf 164 #[data.v,(.int .i64 a),(.int .i64 b)] H R
abbrev PU.sp (data:Sl)(a b:Int)(H:aa)(R:Kp Unit):=an (bf []) Qf 165 #[data.v,(.int .i64 a),(.int .i64 b)] H R
abbrev PJ.sp (data:Sl)(a b:Int)(H:aa)(R:Kp (Int×Int)):=an (bf [(ai .i64),(ai .i64)]) Qf 166 #[data.v,(.int .i64 a),(.int .i64 b)] H R
abbrev PF.sp (data:Sl)(a b:Int)(H:aa)(R:Kp Unit):=an (bf []) Qf 167 #[data.v,(.int .i64 a),(.int .i64 b)] H R
abbrev PR.sp (data:Sl)(a b:Int)(H:aa)(R:Kp Bool):=an aC Qf 168 #[data.v,(.int .i64 a),(.int .i64 b)] H R
abbrev Qd.sp (data:Sl)(a b pivot:Int)(H:aa)(R:Kp Int):=an (ai .i64) Qf 169 #[data.v,(.int .i64 a),(.int .i64 b),(.int .i64 pivot)] H R
abbrev PT.sp (data:Sl)(a b pivot:Int)(H:aa)(R:Kp (Int×Bool)):=an (bf [(ai .i64),aC]) Qf 170 #[data.v,(.int .i64 a),(.int .i64 b),(.int .i64 pivot)] H R
abbrev PL.sp (x:Int)(H:aa)(R:Kp Int):=an (ai .i64) Qf 171 #[(.int .u32 x)] H R
abbrev MQ.sp (x:Int)(H:aa)(R:Kp Int):=an (ai .i64) Qf 172 #[(.int .u64 x)] H R
abbrev JX.sp (p:Option Addr)(H:aa)(R:Kp Int):=an (ai .i64) Qf 173 #[(.pointer p)] H R
abbrev FA.sp (p f:Option Addr)(H:aa)(R:Kp Int):=an (ai .i64) Qf 174 #[(.pointer p),(.pointer f)] H R
abbrev Dm.sp (p f:Option Addr)(H:aa)(R:Kp Int):=an (ai .i64) Qf 175 #[(.pointer p),(.pointer f)] H R
abbrev GJ.sp (p f:Option Addr)(H:aa)(R:Kp Int):=an (ai .i64) Qf 176 #[(.pointer p),(.pointer f)] H R
abbrev LC.sp (p:Option Addr)(at_:ByteArray)(a:Int)(H:aa)(R:Kp (Option Addr×Int)):=an (bf [aq,(ai .i64)]) Qf 177 #[(.pointer p),(.agg #[(.string at_),(.int .i64 a)])] H R
abbrev Iq.sp (p:Option Addr)(h:Int)(H:aa)(R:Kp (Option Addr×Int)):=an (bf [aq,(ai .i64)]) Qf 178 #[(.pointer p),(.int .i64 h)] H R
abbrev EU.sp (s:Sl)(H:aa)(R:Kp Sl):=an au Qf 179 #[s.v] H R
abbrev K0.sp (b:Array Value)(n:Int)(H:aa)(R:Kp (Array Value)):=an rU Qf 180 #[(.agg b),(.int .u64 n)] H R
abbrev MJ.sp (i:Int)(H:aa)(R:Kp ByteArray):=an dN Qf 181 #[(.int .i64 i)] H R
abbrev KE.sp (d:Int)(H:aa)(R:Kp Int):=an (ai .i64) Qf 182 #[(.int .u64 d)] H R
abbrev KB.sp (a:Sl)(u:Int)(H:aa)(R:Kp Unit):=an (bf []) Qf 183 #[a.v,(.int .u64 u)] H R
abbrev Pp.sp (dst:Sl)(u base:Int)(neg append_:Bool)(H:aa)(R:Kp (Sl×ByteArray)):=an (bf [au,dN]) Qf 184 #[dst.v,(.int .u64 u),(.int .i64 base),(.bool neg),(.bool append_)] H R
abbrev O9.sp (s:Sl)(r:Int)(H:aa)(R:Kp Unit):=an (bf []) Qf 186 #[s.v,(.int .i64 r)] H R
abbrev Pe.sp (s:Sl)(r:Int)(H:aa)(R:Kp Unit):=an (bf []) Qf 188 #[s.v,(.int .i64 r)] H R
abbrev Lk.sp (p:Option Addr)(h:Int)(H:aa)(R:Kp (Int×Sl×Int)):=an (bf [(ai .u8),au,(ai .i64)]) Qf 189 #[(.pointer p),(.int .i64 h)] H R
abbrev Lr.sp (s:Sl)(n:Int)(H:aa)(R:Kp Value):=an jF Qf 190 #[s.v,(.int .i64 n)] H R
abbrev G0.sp (d:Option Addr)(name:ByteArray)(H:aa)(R:Kp (Option Addr×Int)):=an (bf [aq,(ai .i64)]) Qf 191 #[(.pointer d),(.string name)] H R
abbrev Lv.sp (s:Sl)(cap:Addr)(H:aa)(R:Kp Sl):=an au Qf 192 #[s.v,(.func (.func EZ.no) #[] #[(.pointer (some cap))])] H R
abbrev MU.sp (seq:Value)(H:aa)(R:Kp Sl):=an au Qf 193 #[seq] H R
abbrev M7.sp (m:Option Nat)(H:aa)(R:Kp Value):=an jF Qf 194 #[(.map m)] H R
abbrev EZ.sp (f:Option Addr)(cap:Addr)(H:aa)(R:Kp Bool):=an aC Qf 195 #[(.pointer f),(.pointer (some cap))] H R
abbrev Pm.sp (x:Sl)(cmp:Value)(H:aa)(R:Kp Unit):=an (bf []) Qf 196 #[x.v,cmp] H R
abbrev E5.sp (a b:Option Addr)(H:aa)(R:Kp Int):=an (ai .i64) Qf 197 #[(.pointer a),(.pointer b)] H R
abbrev Kc.sp (s:Sl)(H:aa)(R:Kp Int):=an (ai .i64) Qf 198 #[s.v,(.func (.func GX.no) #[] #[])] H R
abbrev L9.sp (s:Sl)(cap:Addr)(H:aa)(R:Kp Int):=an (ai .i64) Qf 198 #[s.v,(.func (.func EZ.no) #[] #[(.pointer (some cap))])] H R
abbrev LD.sp (d:Option Addr)(name:ByteArray)(H:aa)(R:Kp Unit):=an (bf []) Qf 199 #[(.pointer d),(.string name)] H R
abbrev PC.sp (data:Sl)(lo hi first:Int)(H:aa)(R:Kp Unit):=an (bf []) Qf 209 #[data.v,(.int .i64 lo),(.int .i64 hi),(.int .i64 first)] H R
abbrev P7.sp (length:Int)(H:aa)(R:Kp Int):=an (ai .u64) Qf 210 #[(.int .i64 length)] H R
abbrev PO.sp (r:Option Addr)(H:aa)(R:Kp Int):=an (ai .u64) Qf 211 #[(.pointer r)] H R
abbrev PW.sp (data:Sl)(a:Int)(b:Option Addr)(H:aa)(R:Kp Int):=an (ai .i64) Qf 212 #[data.v,(.int .i64 a),(.pointer b)] H R
abbrev Pz.sp (data:Sl)(a b c:Int)(d:Option Addr)(H:aa)(R:Kp Int):=an (ai .i64) Qf 213 #[data.v,(.int .i64 a),(.int .i64 b),(.int .i64 c),(.pointer d)] H R
abbrev KY.sp (p:Option Addr)(H:aa)(R:Kp (Option Addr)):=an aq Qf 214 #[(.pointer p),(.func (.func KM.no) #[] #[]),(.func (.func JY.no) #[] #[])] H R
abbrev KM.sp (f:Option Addr)(H:aa)(R:Kp Bool):=an aC Qf 215 #[(.pointer f)] H R
abbrev JY.sp (a b:Option Addr)(H:aa)(R:Kp Bool):=an aC Qf 216 #[(.pointer a),(.pointer b)] H R
abbrev LS.sp (kind:Int)(b:Sl)(H:aa)(R:Kp (Sl×Int)):=an (bf [au,(ai .i64)]) Qf 217 #[(.int .u8 kind),b.v] H R
abbrev Lf.sp (d:Option Addr)(name:ByteArray)(ag:Int)(b:Sl)(H:aa)(R:Kp Int):=an (ai .i64) Qf 218 #[(.pointer d),(.string name),(.int .i64 ag),b.v] H R
abbrev Lz.sp (d:Option Addr)(name:ByteArray)(ag:Int)(H:aa)(R:Kp (Sl×Int)):=an (bf [au,(ai .i64)]) Qf 219 #[(.pointer d),(.string name),(.int .i64 ag)] H R
abbrev Lc.sp (b:Sl)(H:aa)(R:Kp (Int×Sl×Int)):=an (bf [(ai .u8),au,(ai .i64)]) Qf 220 #[b.v] H R
abbrev LQ.sp (x:Int)(H:aa)(R:Kp Int):=an (ai .i64) Qf 221 #[(.int .i64 x)] H R
abbrev Ij.sp (b:Bool)(H:aa)(R:Kp Int):=an (ai .i64) Qf 222 #[(.bool b)] H R
abbrev Qa.sp (x:Int)(H:aa)(R:Kp Bool):=an aC Qf 223 #[(.int .i64 x)] H R
abbrev P8.sp (x:Int)(H:aa)(R:Kp Int):=an (ai .i64) Qf 224 #[(.int .u64 x)] H R
abbrev P9.sp (s:Sl)(r:Int)(H:aa)(R:Kp Unit):=an (bf []) Qf 225 #[s.v,(.int .i64 r)] H R
abbrev P0.sp (s:Sl)(r:Int)(H:aa)(R:Kp Unit):=an (bf []) Qf 226 #[s.v,(.int .i64 r)] H R
abbrev Fg.sp (l:Nat)(cap cap1:Addr)(H:aa)(R:Kp Unit):=an (bf []) Qf 227 #[(.func (.yield l) #[] #[]),(.pointer (some cap)),(.pointer (some cap1))] H R
abbrev Lw.sp (s:Sl)(seq:Value)(H:aa)(R:Kp Sl):=an au Qf 228 #[s.v,seq] H R
abbrev Hj.sp (l:Nat)(cap:Addr)(H:aa)(R:Kp Unit):=an (bf []) Qf 229 #[(.func (.yield l) #[] #[]),(.pointer (some cap))] H R
abbrev PY.sp (data:Sl)(a b c:Int)(cmp:Value)(H:aa)(R:Kp Unit):=an (bf []) Qf 230 #[data.v,(.int .i64 a),(.int .i64 b),(.int .i64 c),cmp] H R
abbrev PM.sp (data:Sl)(a b:Int)(c:Option Addr)(H:aa)(R:Kp (Int×Int)):=an (bf [(ai .i64),(ai .i64)]) Qf 235 #[data.v,(.int .i64 a),(.int .i64 b),(.pointer c)] H R
abbrev Jt.sp (b:Sl)(H:aa)(R:Kp Int):=an (ai .u32) Qf 236 #[b.v] H R
abbrev KS.sp (l:Sl)(ag:Int)(b:Array Value)(H:aa)(R:Kp Sl):=an au Qf 237 #[l.v,(.int .i64 ag),(.agg b)] H R
abbrev L7.sp (s:Sl)(H:aa)(R:Kp Bool):=an aC Qf 238 #[s.v,(.func (.func IN.no) #[] #[])] H R
abbrev IN.sp (c:Int)(H:aa)(R:Kp Bool):=an aC Qf 239 #[(.int .u8 c)] H R
abbrev PH.sp (x:Int)(H:aa)(R:Kp Int):=an (ai .i64) Qf 240 #[(.int .u32 x)] H R
abbrev P6.sp (x:Int)(H:aa)(R:Kp Int):=an (ai .i64) Qf 241 #[(.int .u64 x)] H R
abbrev PX.sp (s:Sl)(H:aa)(R:Kp Unit):=an (bf []) Qf 242 #[s.v] H R
abbrev PZ.sp (s:Sl)(H:aa)(R:Kp Unit):=an (bf []) Qf 243 #[s.v] H R
abbrev PQ.sp (data:Sl)(a b:Int)(cmp:Value)(H:aa)(R:Kp Unit):=an (bf []) Qf 244 #[data.v,(.int .i64 a),(.int .i64 b),cmp] H R
abbrev PI.sp (data:Sl)(a b:Int)(cmp:Value)(H:aa)(R:Kp Unit):=an (bf []) Qf 245 #[data.v,(.int .i64 a),(.int .i64 b),cmp] H R
abbrev Pv.sp (data:Sl)(a b:Int)(cmp:Value)(H:aa)(R:Kp Unit):=an (bf []) Qf 246 #[data.v,(.int .i64 a),(.int .i64 b),cmp] H R
abbrev PD.sp (data:Sl)(a b:Int)(cmp:Value)(H:aa)(R:Kp (Int×Int)):=an (bf [(ai .i64),(ai .i64)]) Qf 247 #[data.v,(.int .i64 a),(.int .i64 b),cmp] H R
abbrev PS.sp (data:Sl)(a b:Int)(cmp:Value)(H:aa)(R:Kp Unit):=an (bf []) Qf 248 #[data.v,(.int .i64 a),(.int .i64 b),cmp] H R
abbrev Qb.sp (data:Sl)(a b:Int)(cmp:Value)(H:aa)(R:Kp Bool):=an aC Qf 249 #[data.v,(.int .i64 a),(.int .i64 b),cmp] H R
abbrev PK.sp (data:Sl)(a b pivot:Int)(cmp:Value)(H:aa)(R:Kp Int):=an (ai .i64) Qf 250 #[data.v,(.int .i64 a),(.int .i64 b),(.int .i64 pivot),cmp] H R
abbrev PE.sp (data:Sl)(a b pivot:Int)(cmp:Value)(H:aa)(R:Kp (Int×Bool)):=an (bf [(ai .i64),aC]) Qf 251 #[data.v,(.int .i64 a),(.int .i64 b),(.int .i64 pivot),cmp] H R
abbrev LZ.sp (s:Sl)(H:aa)(R:Kp Int):=an (ai .i64) Qf 253 #[s.v,(.func (.func IN.no) #[] #[])] H R
abbrev PA.sp (data:Sl)(lo hi first:Int)(cmp:Value)(H:aa)(R:Kp Unit):=an (bf []) Qf 254 #[data.v,(.int .i64 lo),(.int .i64 hi),(.int .i64 first),cmp] H R
abbrev PV.sp (data:Sl)(a:Int)(b:Option Addr)(cmp:Value)(H:aa)(R:Kp Int):=an (ai .i64) Qf 255 #[data.v,(.int .i64 a),(.pointer b),cmp] H R
abbrev Pu.sp (data:Sl)(a b c:Int)(d:Option Addr)(cmp:Value)(H:aa)(R:Kp Int):=an (ai .i64) Qf 256 #[data.v,(.int .i64 a),(.int .i64 b),(.int .i64 c),(.pointer d),cmp] H R
abbrev PB.sp (data:Sl)(a b:Int)(c:Option Addr)(cmp:Value)(H:aa)(R:Kp (Int×Int)):=an (bf [(ai .i64),(ai .i64)]) Qf 257 #[data.v,(.int .i64 a),(.int .i64 b),(.pointer c),cmp] H R
def Ml.vc (rows left:Sl)(H:aa)(R:Kp Bool):Prop:=
 br ((decide ((rows.n:Int)>40))||(decide ((left.n:Int)>40))) (R true H) (JV.sp rows H λ(r:Sl) H1=>aB H1 #[(.int .i64 0),(.int .i64 1)] bT λp H2=>aB H2 #[(.int .i64 1),(.int .i64 0)] bT λfE H3=>aB H3 #[(.slice (some p) 2 2),(.slice (some fE) 2 2)] dX λfF H4=>Jd.sp r (2:Int) (Sl.mk (some fF) 2 2) H4 λ(l:(Option Addr×Bool)) H5=>JV.sp left H5 λ(fG:Sl) H6=>aB H6 #[(.int .i64 0),(.int .i64 1)] bT λga H7=>aB H7 #[(.slice (some ga) 2 2)] dX λgb H8=>Jd.sp fG (2:Int) (Sl.mk (some gb) 1 1) H8 λ(h:(Option Addr×Bool)) N=>br ((!l.2)||(!h.2)) (R false N) (br l.1.isNone (R false N) (br h.1.isNone (R false N) (cut (Sl×Bool) (λJ=>∃G:aa->Prop,G N/\ah h.1 λa=>bW aq G (a.add 1) λ(x:Option Addr)=>ah l.1 λgf=>bW aq G (gf.add 1) λ(i:Option Addr)=>(uY.sp x (1:Int) N λ(Y:Option Addr) O=>G O/\(aB O #[(.int .i64 0)] bT λgg Z=>G Z/\aB Z #[(.int .i64 0)] bT λgj ae=>G ae/\yz.sp Y i (1:Int) (Sl.mk (some gg) 1 1) (Sl.mk (some gj) 1 1) ae λ(gm:Option Addr) af=>G af/\qz.sp gm af λ(a1:(Sl×Bool)) a6=>G a6/\J (a1.1,a1.2) a6)/\(aB O #[(.int .i64 0)] bT λgn a7=>G a7/\aB a7 #[(.int .i64 0)] bT λha a8=>G a8/\yz.sp Y i (1:Int) (Sl.mk (some ha) 1 1) (Sl.mk (some gn) 1 1) a8 λ(hb:Option Addr) ba=>G ba/\qz.sp hb ba λ(bg:(Sl×Bool)) bl=>G bl/\J (bg.1,bg.2) bl)/\True)/\(aB N #[(.int .i64 0)] bT λbs P=>G P/\(uY.sp x (1:Int) P λ(hc:Option Addr) bA=>G bA/\aB bA #[(.int .i64 0)] bT λbB bC=>G bC/\yz.sp hc i (1:Int) (Sl.mk (some bs) 1 1) (Sl.mk (some bB) 1 1) bC λ(bD:Option Addr) bE=>G bE/\qz.sp bD bE λ(t:(Sl×Bool)) bG=>G bG/\J (t.1,t.2) bG)/\(aB P #[(.int .i64 0)] bT λb0 b1=>G b1/\uY.sp x (1:Int) b1 λ(b3:Option Addr) b4=>G b4/\yz.sp b3 i (1:Int) (Sl.mk (some bs) 1 1) (Sl.mk (some b0) 1 1) b4 λ(b5:Option Addr) b6=>G b6/\qz.sp b5 b6 λ(u:(Sl×Bool)) b7=>G b7/\J (u.1,u.2) b7)/\True)/\(aB N #[(.int .i64 0)] bT λv Q=>G Q/\(uY.sp x (1:Int) Q λ(b8:Option Addr) b9=>G b9/\aB b9 #[(.int .i64 0)] bT λcm cA=>G cA/\yz.sp b8 i (1:Int) (Sl.mk (some cm) 1 1) (Sl.mk (some v) 1 1) cA λ(cB:Option Addr) cF=>G cF/\qz.sp cB cF λ(w:(Sl×Bool)) c0=>G c0/\J (w.1,w.2) c0)/\(aB Q #[(.int .i64 0)] bT λc3 c4=>G c4/\uY.sp x (1:Int) c4 λ(c5:Option Addr) c6=>G c6/\yz.sp c5 i (1:Int) (Sl.mk (some c3) 1 1) (Sl.mk (some v) 1 1) c6 λ(c7:Option Addr) c8=>G c8/\qz.sp c7 c8 λ(y:(Sl×Bool)) c9=>G c9/\J (y.1,y.2) c9)/\True)/\True) λ(z:(Sl×Bool)) S=>∃T:aa->Prop,T S/\ah h.1 λhf=>ld aq S (hf.add 1) λ(hg:Option Addr)=>uY.sp hg (1:Int) S λ(dk:Option Addr) dt=>T dt/\ah l.1 λhh=>bW aq T (hh.add 1) λ(hj:Option Addr)=>uY.sp hj (1:Int) dt λ(dT:Option Addr) hl=>JE.sp dk dT (1:Int) hl λ(ea:Option Addr) hn=>qz.sp ea hn λ(A:(Sl×Bool)) q=>cut (Sl×Bool) (λj=>∃b:aa->Prop,b q/\ah h.1 λho=>bW aq b (ho.add 1) λ(m:Option Addr)=>ah l.1 λhp=>bW aq b (hp.add 1) λ(k:Option Addr)=>(uY.sp m (1:Int) q λ(B:Option Addr) U=>b U/\(aB U #[(.int .i64 0)] bT λeb ec=>b ec/\aB ec #[(.int .i64 0)] bT λed ee=>b ee/\xU.sp B k (Sl.mk (some eb) 1 1) (Sl.mk (some ed) 1 1) ee λ(eg:Option Addr) ei=>b ei/\qz.sp eg ei λ(C:(Sl×Bool)) ej=>b ej/\j (C.1,C.2) ej)/\(aB U #[(.int .i64 0)] bT λek en=>b en/\aB en #[(.int .i64 0)] bT λeo ep=>b ep/\xU.sp B k (Sl.mk (some eo) 1 1) (Sl.mk (some ek) 1 1) ep λ(er:Option Addr) et=>b et/\qz.sp er et λ(D:(Sl×Bool)) eu=>b eu/\j (D.1,D.2) eu)/\True)/\(aB q #[(.int .i64 0)] bT λE V=>b V/\(uY.sp m (1:Int) V λ(ev:Option Addr) ew=>b ew/\aB ew #[(.int .i64 0)] bT λey eA=>b eA/\xU.sp ev k (Sl.mk (some E) 1 1) (Sl.mk (some ey) 1 1) eA λ(eB:Option Addr) eC=>b eC/\qz.sp eB eC λ(F:(Sl×Bool)) eD=>b eD/\j (F.1,F.2) eD)/\(aB V #[(.int .i64 0)] bT λeE eF=>b eF/\uY.sp m (1:Int) eF λ(eG:Option Addr) eH=>b eH/\xU.sp eG k (Sl.mk (some E) 1 1) (Sl.mk (some eE) 1 1) eH λ(eI:Option Addr) eL=>b eL/\qz.sp eI eL λ(I:(Sl×Bool)) eP=>b eP/\j (I.1,I.2) eP)/\True)/\(aB q #[(.int .i64 0)] bT λK W=>b W/\(uY.sp m (1:Int) W λ(eR:Option Addr) eT=>b eT/\aB eT #[(.int .i64 0)] bT λeW e0=>b e0/\xU.sp eR k (Sl.mk (some eW) 1 1) (Sl.mk (some K) 1 1) e0 λ(e1:Option Addr) e3=>b e3/\qz.sp e1 e3 λ(L:(Sl×Bool)) e4=>b e4/\j (L.1,L.2) e4)/\(aB W #[(.int .i64 0)] bT λe5 e6=>b e6/\uY.sp m (1:Int) e6 λ(e7:Option Addr) e8=>b e8/\xU.sp e7 k (Sl.mk (some e5) 1 1) (Sl.mk (some K) 1 1) e8 λ(e9:Option Addr) fa=>b fa/\qz.sp e9 fa λ(M:(Sl×Bool)) fb=>b fb/\j (M.1,M.2) fb)/\True)/\True) λ(o:(Sl×Bool)) ff=>ah h.1 λhq=>ld aq ff (hq.add 1) λ(ht:Option Addr)=>uY.sp ht (1:Int) ff λ(fi:Option Addr) hv=>qz.sp fi hv λ(d:(Sl×Bool)) fj=>br ((((!z.2)||(!A.2))||(!o.2))||(!d.2)) (R false fj) (LL.sp z.1 A.1 fj λ(fl:Bool) fo=>br (!fl) (R false fo) (aF (Int×Int) ((0:Int),(0:Int)) fo λnext c X=>br (decide (c.2<(d.1.n:Int))) (aF (Bool×Int) (false,(0:Int)) X λg f e=>br (decide (f.2<(z.1.n:Int))) (br f.1 (g (true,Qe.wrap (f.2+1)) e) (ah z.1.a λhx=>(0<=f.2/\f.2<(z.1.n:Int))/\ld au e (hx.add (f.2.toNat*1)) λ(s:Sl)=>(0<=(2:Int)/\(2:Int)<=(s.c:Int))/\ah d.1.a λhy=>(0<=c.2/\c.2<(d.1.n:Int))/\ld au e (hy.add (c.2.toNat*1)) λ(hA:Sl)=>DW.sp (Sl.mk (bF s.a s.c 0 1) (((2:Int).toNat) - 0) (s.c - 0)) hA e λ(fv:Bool) hB=>g (fv,Qe.wrap (f.2+1)) hB)) (br (!f.1) (br (c.1==(o.1.n:Int)) (R false e) (ah o.1.a λhC=>(0<=c.1/\c.1<(o.1.n:Int))/\ld au e (hC.add (c.1.toNat*1)) λ(hD:Sl)=>ah d.1.a λfx=>(0<=c.2/\c.2<(d.1.n:Int))/\ld au e (fx.add (c.2.toNat*1)) λ(fy:Sl)=>DW.sp hD fy e λ(fA:Bool) fB=>br (!fA) (R false fB) (next (Qe.wrap (c.1+1),Qe.wrap (c.2+1)) fB))) (next (c.1,Qe.wrap (c.2+1)) e))) (br (c.1==(o.1.n:Int)) (LU.sp X λ(fD:Bool) hE=>R fD hE) (R false X))))))))
theorem Ml.of:∀{rows left H R},Ml.vc rows left H R->Ml.sp rows left H R:=bn [(100008,[(9,au),(10,aC)]),(300007,[(0,aC),(0,aC),(0,aC)]),(100010,[(13,au),(14,aC)]),(300009,[(0,aC),(0,aC),(0,aC)]),(15,[(17,(ai .i64)),(18,(ai .i64))]),(19,[(19,aC),(20,(ai .i64))])] (by kernel_rfl)
def Ko.vc (quota:Int)(H:aa)(R:Kp (Option Addr)):Prop:=
 FL H λm H1=>aB H1 #[(.map (some m)),(.int .i64 0),(.int .i64 0),(.int .i64 (if (1048576:Int)<(if (0:Int)>quota then (0:Int) else quota) then (1048576:Int) else (if (0:Int)>quota then (0:Int) else quota))),(.int .i64 0),(.int .i64 0),(.bool false),(.int .i64 0),(.int .u64 0),(.bool false)] Ms λp a=>R (some p) a
theorem Ko.of:∀{quota H R},Ko.vc quota H R->Ko.sp quota H R:=bn [] (by kernel_rfl)
def It.vc (d:Option Addr)(aD:Int)(H:aa)(R:Kp (Option Addr×Int)):Prop:=
 br d.isNone (R (none,(1:Int)) H) (br (decide (aD<8)) (R (none,(30:Int)) H) (br (decide (aD>4096)) (R (none,(3:Int)) H) (FL H λm H1=>FL H1 λa b=>aB b #[(.pointer d),(.int .i64 aD),(.map (some m)),(.map (some a)),(.int .i64 1),(.int .i64 0),(.int .i64 0),(.int .i64 0)] DN λp c=>R (some p,(0:Int)) c)))
theorem It.of:∀{d aD H R},It.vc d aD H R->It.sp d aD H R:=bn [] (by kernel_rfl)
def JT.vc (p:Option Addr)(name:ByteArray)(width:Int)(b:Sl)(H:aa)(R:Kp (Option Addr×Int)):Prop:=
 cut Unit (λJ=>br p.isNone (R (none,(1:Int)) H) (HX.sp width H λ(r:Int) e=>br (r==0) (R (none,(60:Int)) e) (br (decide ((b.n:Int)<1)) (br (decide ((b.n:Int)<1)) (R (none,(2:Int)) e) (J () e)) (br (decide ((b.n:Int)>16)) (br (decide ((b.n:Int)>16)) (R (none,(2:Int)) e) (J () e)) (ah b.a λa=>(0<=(0:Int)/\(0:Int)<(b.n:Int))/\ld au e (a.add ((0:Int).toNat*1)) λ(x:Sl)=>LW.sp x e λ(f:Bool) C=>br (!f) (R (none,(2:Int)) C) (J () C)))))) λ(_:Unit) H1=>aB H1 #[(.pointer p),(.string name),(.int .i64 width),(.slice none 0 0),(.int .i64 0),(.bool false),(.pointer none),(.pointer none),(.pointer none),(.int .i64 0),(.int .i64 0)] Dj λc F=>aF Int 0 F λnext d g=>br (decide (d<(b.n:Int))) (ah b.a λh=>(0<=d/\d<(b.n:Int))/\ld au g (h.add (d.toNat*1)) λ(l:Sl)=>K4.sp l width g λ(i:Bool) j=>br (!i) (R (none,(2:Int)) j) (∃G:aa->Prop,G j/\bW au G ((c.add 0).add 3) λ(k:Sl)=>DP.sp l j λ(m:Sl) D=>G D/\aB D #[m.v] dX λn E=>G E/\bI au Qf (Qo #[NT,NT] NT #[k.v,(.slice (some n) 1 1)]) E λ(s:Sl) I=>st I ((c.add 0).add 3) s.v λo=>next (Qe.wrap (d+1)) o)) (Ff.sp (some (c.add 0)) g λ(q:Option Addr) t=>Ff.sp (some (c.add 0)) t λ(u:Option Addr) v=>Ff.sp (some (c.add 0)) v λ(w:Option Addr) y=>st y (c.add 6) (.pointer q) λz=>st z (c.add 7) (.pointer u) λA=>st A (c.add 8) (.pointer w) λB=>R (some c,(0:Int)) B)
theorem JT.of:∀{p name width a H R},JT.vc p name width a H R->JT.sp p name width a H R:=bn [(100009,[]),(11,[(40,(ai .i64))])] (by kernel_rfl)
def Fi.vc (r:Option Addr)(l:Sl)(H:aa)(R:Kp (Bool×Int)):Prop:=
 Iu.sp r H λ(e:Int) H1=>br (e !=0) (R (false,e) H1) (ah r λa=>ld (ai .i64) H1 ((a.add 0).add 2) λ(x:Int)=>br ((l.n:Int)!=x) (R (false,(60:Int)) H1) (ah r λd=>ld aq H1 (d.add 6) λ(f:Option Addr)=>ah r λg=>ld aq H1 (g.add 7) λ(h:Option Addr)=>ah r λi=>ld aq H1 (i.add 8) λ(j:Option Addr)=>aB H1 #[(.pointer f),(.pointer h),(.pointer j)] Oy λp v=>KW.sp r l (Sl.mk (some p) 3 3) v λ(b:(Bool×Int)) k=>br ((b.2==0)&&(!b.1)) (ah r λm=>ld aq k (m.add 8) λ(n:Option Addr)=>ah r λo=>Kl.sp n l (some (o.add 9)) k λ(c:Int) w=>ah r λq=>Dx.sp (some (q.add 0)) c w λ(s:Int) y=>R (((c==0)&&(!b.1)),s) y) (ah r λt=>Dx.sp (some (t.add 0)) b.2 k λ(u:Int) z=>R (((b.2==0)&&(!b.1)),u) z)))
theorem Fi.of:∀{r l H R},Fi.vc r l H R->Fi.sp r l H R:=bn [] (by kernel_rfl)
def Cy.vc (r:Option Addr)(H:aa)(R:Kp (Int×Int)):Prop:=
 Iu.sp r H λ(e:Int) H1=>br (e !=0) (R ((0:Int),e) H1) (ah r λa=>ld (ai .i64) H1 (a.add 10) λ(x:Int)=>ah r λv=>st H1 (v.add 10) (.int .i64 (Qe.wrap (x+1))) λd=>cut Unit (λJ=>ah r λw=>ld aq d (w.add 7) λ(y:Option Addr)=>ah y λz=>ld au d (z.add 1) λ(A:Sl)=>br (decide ((A.n:Int)>0)) (ah r λB=>ld aq d (B.add 7) λ(C:Option Addr)=>ah C λD=>ld au d (D.add 1) λ(f:Sl)=>ah f.a λE=>(0<=(0:Int)/\(0:Int)<(f.n:Int))/\ld aq d (E.add ((0:Int).toNat*1)) λ(F:Option Addr)=>Im.sp F (Sl.mk none 0 0) d λ(c:Option Addr) H4=>aF Unit () H4 λnext _ H5=>Is.sp c H5 λ(b:(Sl×Bool×Int)) I=>cut Int (λg=>br ((b.2.2==0)&&b.2.1) (ah r λK=>ld aq I (K.add 6) λ(L:Option Addr)=>ah r λM=>Kl.sp L b.1 (some (M.add 9)) I λ(N:Int) H8=>g N H8) (g b.2.2 I)) λ(h:Int) u=>br (h !=0) (ah r λO=>Dx.sp (some (O.add 0)) h u λ(P:Int) H9=>R ((0:Int),P) H9) (br (!b.2.1) (ah r λi=>ld aq u (i.add 7) λ(Q:Option Addr)=>Lq.sp Q u λ(j:Int) k=>br (j !=0) (ah r λl=>Dx.sp (some (l.add 0)) j k λ(S:Int) T=>R ((0:Int),S) T) (J () k)) (next () u))) (J () d)) λ(_:Unit) H3=>∃G:aa->Prop,G H3/\ah r λm=>bW aq G (m.add 8) λ(U:Option Addr)=>ah r λn=>Ff.sp (some (n.add 0)) H3 λ(V:Option Addr) o=>G o/\ah r λp=>st o (p.add 7) (.pointer U) λW=>ah r λq=>st W (q.add 8) (.pointer V) λs=>ah r λt=>ld aq s (t.add 7) λ(X:Option Addr)=>Kk.sp X s λ(Y:Int) Z=>R (Y,(0:Int)) Z)
theorem Cy.of:∀{r H R},Cy.vc r H R->Cy.sp r H R:=bn [(100016,[]),(7,[]),(100010,[(8,(ai .i64))])] (by kernel_rfl)
def LL.vc (a b:Sl)(H:aa)(R:Kp Bool):Prop:=
 br ((a.n:Int)!=(b.n:Int)) (R false H) (aF Int 0 H λnext i H1=>br (decide (i<(a.n:Int))) (ah a.a λc=>(0<=i/\i<(a.n:Int))/\ld au H1 (c.add (i.toNat*1)) λ(x:Sl)=>ah b.a λd=>(0<=i/\i<(b.n:Int))/\ld au H1 (d.add (i.toNat*1)) λ(e:Sl)=>DW.sp x e H1 λ(r:Bool) f=>br (!r) (R false f) (next (Qe.wrap (i+1)) f)) (R true H1))
theorem LL.of:∀{a b H R},LL.vc a b H R->LL.sp a b H R:=bn [(4,[(5,(ai .i64))])] (by kernel_rfl)
def tN.vc (a b:Sl)(H:aa)(R:Kp Int):Prop:=
 Mg.sp a b H λ(r:Int) H1=>R r H1
theorem tN.of:∀{a b H R},tN.vc a b H R->tN.sp a b H R:=bn [] (by kernel_rfl)
def Jd.vc (rows:Sl)(width:Int)(b:Sl)(H:aa)(R:Kp (Option Addr×Bool)):Prop:=
 Ko.sp (100000:Int) H λ(d:Option Addr) H1=>It.sp d (12:Int) H1 λ(r:(Option Addr×Int)) u=>JT.sp r.1 (RV #[114]) width b u λ(c:(Option Addr×Int)) v=>L4.sp width b v λ(e:(Option Addr×Int)) q=>br (((r.2!=0)||(c.2!=e.2))||(c.2!=0)) (R (none,((r.2==0)&&(c.2==e.2))) q) (aB q #[(.pointer r.1),(.pointer c.1),(.pointer e.1),(.int .i64 0),(.bool false)] K3 λk w=>aF Int 0 w λnext i l=>br (decide (i<(rows.n:Int))) (ah rows.a λa=>(0<=i/\i<(rows.n:Int))/\ld au l (a.add (i.toNat*1)) λ(x:Sl)=>Fi.sp c.1 x l λ(f:(Bool×Int)) s=>ah rows.a λm=>(0<=i/\i<(rows.n:Int))/\ld au s (m.add (i.toNat*1)) λ(n:Sl)=>Lu.sp e.1 n s λ(g:(Bool×Int)) o=>br ((!(f.1==g.1))||(f.2!=g.2)) (R (none,false) o) (br ((i==(Qe.wrap (Qy (rows.n:Int) (2:Int))))||(i==(Qe.wrap (Qy (Qe.wrap ((rows.n:Int)*4)) (5:Int))))) (Cy.sp c.1 o λ(h:(Int×Int)) t=>br (h.2!=0) (R (none,false) t) (Jw.sp e.1 t λ(p:Int) j=>br (h.1!=p) (R (none,false) j) (next (Qe.wrap (i+1)) j))) (next (Qe.wrap (i+1)) o))) (R (some k,true) l))
theorem Jd.of:∀{rows width a H R},Jd.vc rows width a H R->Jd.sp rows width a H R:=bn [(9,[(16,(ai .i64))])] (by kernel_rfl)
def JV.vc (rows:Sl)(H:aa)(R:Kp Sl):Prop:=
 aF (Sl×Int) ((Sl.mk none 0 0),(0:Int)) H λnext z H1=>br (decide (z.2<(rows.n:Int))) (bI au Qf (Rn cv (.int .i64 2) (.int .i64 2)) H1 λ(l:Sl) b=>ah rows.a λa=>(0<=z.2/\z.2<(rows.n:Int))/\ld au b (a.add (z.2.toNat*1)) λ(x:Sl)=>bI (ai .i64) Qf (Rh #[cv,cv] bT #[l.v,x.v]) b λ(_:Int) c=>aB c #[l.v] cv λp d=>bI au Qf (Qo #[cW,cW] cW #[z.1.v,(.slice (some p) 1 1)]) d λ(out:Sl) e=>next (out,Qe.wrap (z.2+1)) e) (R z.1 H1)
theorem JV.of:∀{rows H R},JV.vc rows H R->JV.sp rows H R:=bn [(3,[(3,au),(4,(ai .i64))])] (by kernel_rfl)
def qz.vc (s:Option Addr)(H:aa)(R:Kp (Sl×Bool)):Prop:=
 aF Sl (Sl.mk none 0 0) H λnext out H1=>sq.sp s H1 λ(r:(Sl×Bool×Int)) b=>br ((r.2.2!=0)||(!r.2.1)) (R (out,r.2.2==0) b) (aB b #[r.1.v] cv λp c=>bI au Qf (Qo #[cW,cW] cW #[out.v,(.slice (some p) 1 1)]) c λ(a:Sl) d=>next a d)
theorem qz.of:∀{s H R},qz.vc s H R->qz.sp s H R:=bn [(2,[(4,au)])] (by kernel_rfl)
def yz.vc (left r:Option Addr)(part:Int)(a b:Sl)(H:aa)(R:Kp (Option Addr)):Prop:=
 aB H #[(.pointer left)] yC λp H1=>aB H1 #[(.pointer r)] DD λc z=>aB z #[(.int .u8 part)] kJ λi A=>DP.sp a A λ(j:Sl) B=>DP.sp b B λ(k:Sl) C=>aB C (zc Qf dX) dX λd D=>aB D (zc Qf dX) dX λf E=>st E d j.v λF=>st F f k.v λI=>aB I (zc Qf cv) cv λl m=>aB m (zc Qf EL) EL λn e=>∃G:aa->Prop,G e/\bW aq G p λ(x:Option Addr)=>bW aq G c λ(o:Option Addr)=>bW au G d λ(q:Sl)=>ld aq e p λ(s:Option Addr)=>xI.sp s e λ(t:Int) g=>G g/\bW aq G c λ(u:Option Addr)=>JL.sp u g λ(v:Int) h=>G h/\IJ.sp x o q (Qe.wrap (t+v)) (.func BO.no) #[] #[(.pointer (some n)),(.pointer (some p)),(.pointer (some l)),(.pointer (some d)),(.pointer (some c)),(.pointer (some i)),(.pointer (some f))] h λ(w:Option Addr) y=>R w y
theorem yz.of:∀{left r part a b H R},yz.vc left r part a b H R->yz.sp left r part a b H R:=bn [] (by kernel_rfl)
def uY.vc (r:Option Addr)(part:Int)(H:aa)(R:Kp (Option Addr)):Prop:=
 aB H #[(.pointer r)] DD λp H1=>aB H1 #[(.int .u8 part)] kJ λa f=>aB f (zc Qf EL) EL λb e=>ld aq e p λ(x:Option Addr)=>JL.sp x e λ(c:Int) g=>xm.sp c (Sl.mk none 0 0) (0:Int) (.func GU.no) #[] #[(.pointer (some b)),(.pointer (some p)),(.pointer (some a))] g λ(d:Option Addr) h=>R d h
theorem uY.of:∀{r part H R},uY.vc r part H R->uY.sp r part H R:=bn [] (by kernel_rfl)
def JE.vc (a b:Option Addr)(cols:Int)(H:aa)(R:Kp (Option Addr)):Prop:=
 aB H #[(.int .i64 cols)] bT λp H1=>∃G:aa->Prop,G H1/\ld (ai .i64) H1 p λ(x:Int)=>br (decide (x<0)) (aB H1 #[(.pointer a),(.slice none 0 0),(.bool false),(.bool false)] Dq λy H2=>aB H2 #[(.pointer b),(.slice none 0 0),(.bool false),(.bool false)] Dq λz H3=>aB H3 (zc Qf xz) xz λh H4=>aB H4 (zc Qf xz) xz λi H5=>st H5 h (.pointer (some y)) λH6=>st H6 i (.pointer (some z)) λH7=>aB H7 (zc Qf cW) cW λA H8=>aB H8 (zc Qf bT) bT λB H9=>xI.sp a H9 λ(r:Int) C=>xI.sp b C λ(D:Int) E=>aB E #[(.pointer a),(.pointer b)] yC λF I=>xm.sp (Qe.wrap (r+D)) (Sl.mk (some F) 2 2) (2:Int) (.func HH.no) #[] #[(.pointer (some i)),(.pointer (some B)),(.pointer (some A)),(.pointer (some h)),(.pointer (some p))] I λ(J:Option Addr) K=>R J K) (bW (ai .i64) G p λ(L:Int)=>xI.sp a H1 λ(j:Int) k=>G k/\xI.sp b k λ(l:Int) g=>G g/\br (decide (L>(if l<j then l else j))) (aB g #[(.pointer a),(.slice none 0 0),(.bool false),(.bool false)] Dq λM N=>aB N #[(.pointer b),(.slice none 0 0),(.bool false),(.bool false)] Dq λO P=>aB P (zc Qf xz) xz λc Q=>aB Q (zc Qf xz) xz λd S=>st S c (.pointer (some M)) λT=>st T d (.pointer (some O)) λU=>aB U (zc Qf cW) cW λm V=>aB V (zc Qf bT) bT λn W=>xI.sp a W λ(X:Int) Y=>xI.sp b Y λ(Z:Int) ae=>aB ae #[(.pointer a),(.pointer b)] yC λo af=>xm.sp (Qe.wrap (X+Z)) (Sl.mk (some o) 2 2) (2:Int) (.func HH.no) #[] #[(.pointer (some d)),(.pointer (some n)),(.pointer (some m)),(.pointer (some c)),(.pointer (some p))] af λ(a1:Option Addr) a6=>R a1 a6) (aB g #[(.pointer a),(.slice none 0 0),(.bool false),(.bool false)] Dq λq a7=>aB a7 #[(.pointer b),(.slice none 0 0),(.bool false),(.bool false)] Dq λs a8=>aB a8 (zc Qf xz) xz λe ba=>aB ba (zc Qf xz) xz λf bg=>st bg e (.pointer (some q)) λbl=>st bl f (.pointer (some s)) λbs=>aB bs (zc Qf cW) cW λt bA=>aB bA (zc Qf bT) bT λu bB=>xI.sp a bB λ(bC:Int) bD=>xI.sp b bD λ(bE:Int) bG=>aB bG #[(.pointer a),(.pointer b)] yC λv b0=>xm.sp (Qe.wrap (bC+bE)) (Sl.mk (some v) 2 2) (0:Int) (.func HH.no) #[] #[(.pointer (some f)),(.pointer (some u)),(.pointer (some t)),(.pointer (some e)),(.pointer (some p))] b0 λ(w:Option Addr) b1=>R w b1))
theorem JE.of:∀{a b cols H R},JE.vc a b cols H R->JE.sp a b cols H R:=bn [] (by kernel_rfl)
def xU.vc (left r:Option Addr)(a b:Sl)(H:aa)(R:Kp (Option Addr)):Prop:=
 aB H #[(.pointer left)] yC λp H1=>aB H1 #[(.pointer r)] DD λd q=>DP.sp a q λ(f:Sl) s=>DP.sp b s λ(g:Sl) t=>aB t (zc Qf dX) dX λc u=>aB u (zc Qf dX) dX λe v=>st v c f.v λw=>st w e g.v λh=>∃G:aa->Prop,G h/\bW aq G p λ(x:Option Addr)=>bW aq G d λ(i:Option Addr)=>bW au G c λ(j:Sl)=>ld aq h p λ(k:Option Addr)=>xI.sp k h λ(l:Int) o=>G o/\IJ.sp x i j l (.func AL.no) #[] #[(.pointer (some p)),(.pointer (some c)),(.pointer (some d)),(.pointer (some e))] o λ(m:Option Addr) n=>R m n
theorem xU.of:∀{left r a b H R},xU.vc left r a b H R->xU.sp left r a b H R:=bn [] (by kernel_rfl)
def DW.vc (a b:Sl)(H:aa)(R:Kp Bool):Prop:=
 br ((a.n:Int)!=(b.n:Int)) (R false H) (aF Int 0 H λnext i H1=>br (decide (i<(a.n:Int))) (ah a.a λc=>(0<=i/\i<(a.n:Int))/\ld (ai .u64) H1 (c.add (i.toNat*1)) λ(x:Int)=>ah b.a λd=>(0<=i/\i<(b.n:Int))/\ld (ai .u64) H1 (d.add (i.toNat*1)) λ(e:Int)=>br (x !=e) (R false H1) (next (Qe.wrap (i+1)) H1)) (R true H1))
theorem DW.of:∀{a b H R},DW.vc a b H R->DW.sp a b H R:=bn [(4,[(5,(ai .i64))])] (by kernel_rfl)
def LU.vc (H:aa)(R:Kp Bool):Prop:=
 Ko.sp (60:Int) H λ(d:Option Addr) H1=>It.sp d (8:Int) H1 λ(r:(Option Addr×Int)) H2=>aB H2 #[(.int .i64 0),(.int .i64 1)] bT λp H3=>aB H3 #[(.slice (some p) 2 2)] dX λv H4=>JT.sp r.1 (RV #[114]) (2:Int) (Sl.mk (some v) 1 1) H4 λ(c:(Option Addr×Int)) w=>br (c.2!=0) (R false w) (br c.1.isNone (R false w) (aB w #[(.int .u64 2),(.int .u64 7)] gM λx H6=>Fi.sp c.1 (Sl.mk (some x) 2 2) H6 λ(_:(Bool×Int)) H7=>aB H7 #[(.int .u64 2),(.int .u64 8)] gM λy H8=>Fi.sp c.1 (Sl.mk (some y) 2 2) H8 λ(_:(Bool×Int)) H9=>Cy.sp c.1 H9 λ(_:(Int×Int)) z=>aB z #[(.int .u64 1),(.int .u64 2)] gM λA B=>aB B #[(.int .u64 3),(.int .u64 3)] gM λC D=>aB D #[(.slice (some A) 2 2),(.slice (some C) 2 2)] cv λE F=>Ir.sp (Sl.mk (some E) 2 2) (2:Int) F λ(a:Option Addr) G=>aB G #[(.int .u64 1),(.int .u64 2)] gM λI J=>aB J #[(.int .u64 3),(.int .u64 3)] gM λK L=>aB L #[(.slice (some I) 2 2),(.slice (some K) 2 2)] cv λM N=>Ir.sp (Sl.mk (some M) 2 2) (2:Int) N λ(b:Option Addr) O=>aB O #[(.int .i64 1)] bT λi P=>aB P #[(.int .i64 0)] bT λj Q=>yz.sp a c.1 (1:Int) (Sl.mk (some i) 1 1) (Sl.mk (some j) 1 1) Q λ(e:Option Addr) S=>aB S #[(.int .i64 1)] bT λk T=>aB T #[(.int .i64 0)] bT λl U=>xU.sp b c.1 (Sl.mk (some k) 1 1) (Sl.mk (some l) 1 1) U λ(m:Option Addr) f=>br e.isNone (R false f) (br m.isNone (R false f) (sq.sp e f λ(g:(Sl×Bool×Int)) V=>sq.sp m V λ(h:(Sl×Bool×Int)) n=>br ((((g.2.2==0)&&(h.2.2==0))&&g.2.1)&&h.2.1) (xI.sp e n λ(W:Int) o=>br (W==4) (aB o #[(.int .u64 1),(.int .u64 2),(.int .u64 2),(.int .u64 7)] gM λq X=>DW.sp g.1 (Sl.mk (some q) 4 4) X λ(Y:Bool) s=>br Y (aB s #[(.int .u64 3),(.int .u64 3)] gM λt Z=>DW.sp h.1 (Sl.mk (some t) 2 2) Z λ(u:Bool) ae=>R u ae) (R false s)) (R false o)) (R false n)))))
theorem LU.of:∀{H R},LU.vc H R->LU.sp H R:=bn [] (by kernel_rfl)
def Ir.vc (rows:Sl)(width:Int)(H:aa)(R:Kp (Option Addr)):Prop:=
 aB H #[(.int .i64 width)] bT λp H1=>aB H1 (zc Qf cW) cW λb m=>aF Int 0 m λnext z c=>br (decide (z<(rows.n:Int))) (ah rows.a λa=>(0<=z/\z<(rows.n:Int))/\ld au c (a.add (z.toNat*1)) λ(x:Sl)=>∃G:aa->Prop,G c/\bW au G b λ(d:Sl)=>AO.sp x c λ(r:Sl) k=>G k/\aB k #[r.v] cv λe l=>G l/\bI au Qf (Qo #[cW,cW] cW #[d.v,(.slice (some e) 1 1)]) l λ(s:Sl) n=>st n b s.v λo=>next (Qe.wrap (z+1)) o) (ld (ai .i64) c p λ(f:Int)=>br (decide (f<0)) (ld (ai .i64) c p λ(g:Int)=>xm.sp g (Sl.mk none 0 0) (2:Int) (.func Gn.no) #[] #[(.pointer (some b)),(.pointer (some p))] c λ(h:Option Addr) q=>R h q) (ld (ai .i64) c p λ(i:Int)=>xm.sp i (Sl.mk none 0 0) (0:Int) (.func Gn.no) #[] #[(.pointer (some b)),(.pointer (some p))] c λ(j:Option Addr) t=>R j t))
theorem Ir.of:∀{rows width H R},Ir.vc rows width H R->Ir.sp rows width H R:=bn [(3,[(11,(ai .i64))])] (by kernel_rfl)
def HX.vc (width:Int)(H:aa)(R:Kp Int):Prop:=
 IV.sp width H λ(n:Int) H1=>br (decide (n>0)) (n≠0/\R (Qe.wrap (Qy (504:Int) n)) H1) (R (0:Int) H1)
theorem HX.of:∀{width H R},HX.vc width H R->HX.sp width H R:=bn [] (by kernel_rfl)
def LW.vc (x:Sl)(H:aa)(R:Kp Bool):Prop:=
 aF Int (Qe.wrap ((x.n:Int) - 1)) H λnext i H1=>br (decide (i>0)) (ah x.a λa=>(0<=i/\i<(x.n:Int))/\ld (ai .i64) H1 (a.add (i.toNat*1)) λ(b:Int)=>ah x.a λc=>(0<=(Qe.wrap (i - 1))/\(Qe.wrap (i - 1))<(x.n:Int))/\ld (ai .i64) H1 (c.add ((Qe.wrap (i - 1)).toNat*1)) λ(d:Int)=>MB.sp b d H1 λ(r:Bool) e=>br r (R false e) (next (Qe.wrap (i - 1)) e)) (R true H1)
theorem LW.of:∀{x H R},LW.vc x H R->LW.sp x H R:=bn [(2,[(3,(ai .i64))])] (by kernel_rfl)
def K4.vc (l:Sl)(width:Int)(H:aa)(R:Kp Bool):Prop:=
 MS.sp l H λ(r:Value) H1=>MY.sp r H1 λ(sorted:Sl) d=>aF Int 0 d λnext z b=>br (decide (z<(sorted.n:Int))) (ah sorted.a λa=>(0<=z/\z<(sorted.n:Int))/\ld (ai .i64) b (a.add (z.toNat*1)) λ(c:Int)=>br (z !=c) (R false b) (next (Qe.wrap (z+1)) b)) (R ((l.n:Int)==width) b)
theorem K4.of:∀{l width H R},K4.vc l width H R->K4.sp l width H R:=bn [(3,[(13,(ai .i64))])] (by kernel_rfl)
def DP.vc (s:Sl)(H:aa)(R:Kp Sl):Prop:=
 br s.a.isNone (R (Sl.mk none 0 0) H) (aB H #[] bT λp H1=>bI au Qf (Qo #[dX,dX] dX #[(.slice (some p) 0 0),s.v]) H1 λ(a:Sl) b=>R a b)
theorem DP.of:∀{s H R},DP.vc s H R->DP.sp s H R:=bn [] (by kernel_rfl)
def Ff.vc (b:Option Addr)(H:aa)(R:Kp (Option Addr)):Prop:=
 aB H #[(.pointer b),(.slice none 0 0)] EY λp H1=>R (some p) H1
theorem Ff.of:∀{b H R},Ff.vc b H R->Ff.sp b H R:=bn [] (by kernel_rfl)
def Iu.vc (r:Option Addr)(H:aa)(R:Kp Int):Prop:=
 br r.isNone (R (1:Int) H) (ah r λa=>ld (ai .i64) H ((a.add 0).add 4) λ(x:Int)=>br (x !=0) (ah r λb=>ld (ai .i64) H ((b.add 0).add 4) λ(c:Int)=>R c H) (ah r λd=>ld aC H ((d.add 0).add 5) λ(e:Bool)=>br e (R (2:Int) H) (R (0:Int) H)))
theorem Iu.of:∀{r H R},Iu.vc r H R->Iu.sp r H R:=bn [] (by kernel_rfl)
def KW.vc (r:Option Addr)(l parts:Sl)(H:aa)(R:Kp (Bool×Int)):Prop:=
 aF Int 0 H λnext z H1=>br (decide (z<(parts.n:Int))) (ah parts.a λa=>(0<=z/\z<(parts.n:Int))/\ld aq H1 (a.add (z.toNat*1)) λ(t:Option Addr)=>Lg.sp t l H1 λ(b:(Bool×Int)) c=>br (b.1||(b.2!=0)) (R (b.1,b.2) c) (next (Qe.wrap (z+1)) c)) (R (false,(0:Int)) H1)
theorem KW.of:∀{r l parts H R},KW.vc r l parts H R->KW.sp r l parts H R:=bn [(2,[(14,(ai .i64))])] (by kernel_rfl)
def Kl.vc (t:Option Addr)(l:Sl)(p:Option Addr)(H:aa)(R:Kp Int):Prop:=
 cut Unit (λJ=>ah t λa=>ld au H (a.add 1) λ(x:Sl)=>br ((x.n:Int)==0) (ah t λA=>ld aq H (A.add 0) λ(B:Option Addr)=>ah B λC=>ld au H (C.add 3) λ(D:Sl)=>aF (Sl×Int) ((Sl.mk none 0 0),(0:Int)) H λnext d y=>br (decide (d.2<(D.n:Int))) (∃G:aa->Prop,G y/\ah t λE=>bW aq G (E.add 0) λ(F:Option Addr)=>ah F λI=>bW aq G (I.add 0) λ(K:Option Addr)=>ah t λL=>bW aq G (L.add 0) λ(M:Option Addr)=>ah M λN=>bW dN G (N.add 1) λ(f:ByteArray)=>((f.size+(RV #[46]).size:Nat):Int)<=9223372036854775807/\ah p λO=>ld (ai .i64) y O λ(P:Int)=>E6.sp P y λ(r:ByteArray) H3=>G H3/\(((f++(RV #[46])).size+r.size:Nat):Int)<=9223372036854775807/\ah t λQ=>bW aq G (Q.add 0) λ(S:Option Addr)=>ah S λT=>bW (ai .i64) G (T.add 2) λ(U:Int)=>Iv.sp K ((f++(RV #[46]))++r) U H3 λ(g:(Option Addr×Int)) V=>br (g.2!=0) (R g.2 V) (ah p λh=>ld (ai .i64) V h λ(i:Int)=>ah p λj=>st V j (.int .i64 (Qe.wrap (i+1))) λH5=>aB H5 #[(.pointer g.1)] Oa λW H6=>bI au Qf (Qo #[Mm,Mm] Mm #[d.1.v,(.slice (some W) 1 1)]) H6 λ(X:Sl) H7=>next (X,Qe.wrap (d.2+1)) H7)) (ah t λk=>st y (k.add 1) d.1.v λH8=>J () H8)) (J () H)) λ(_:Unit) H1=>ah t λm=>ld au H1 (m.add 1) λ(c:Sl)=>aF Int 0 H1 λe b z=>br (decide (b<(c.n:Int))) (ah c.a λn=>(0<=b/\b<(c.n:Int))/\ld aq z (n.add (b.toNat*1)) λ(o:Option Addr)=>ah t λq=>ld aq z (q.add 0) λ(s:Option Addr)=>J8.sp s l b z λ(Y:Sl) Z=>Iy.sp o Y Z λ(u:(Bool×Int)) w=>br (u.2!=0) (R u.2 w) (e (Qe.wrap (b+1)) w)) (R (0:Int) z)
theorem Kl.of:∀{t l p H R},Kl.vc t l p H R->Kl.sp t l p H R:=bn [(100012,[]),(4,[(7,au),(28,(ai .i64))]),(13,[(83,(ai .i64))])] (by kernel_rfl)
def Dx.vc (b:Option Addr)(e:Int)(H:aa)(R:Kp Int):Prop:=
 br (e !=0) (ah b λa=>st H (a.add 4) (.int .i64 e) λH1=>R e H1) (R e H)
theorem Dx.of:∀{b e H R},Dx.vc b e H R->Dx.sp b e H R:=bn [] (by kernel_rfl)
def Im.vc (t:Option Addr)(low:Sl)(H:aa)(R:Kp (Option Addr)):Prop:=
 br t.isNone (R none H) (AO.sp low H λ(r:Sl) H1=>aB H1 #[(.pointer t),r.v,(.bool false)] Pa λp a=>R (some p) a)
theorem Im.of:∀{t low H R},Im.vc t low H R->Im.sp t low H R:=bn [] (by kernel_rfl)
def Is.vc (c:Option Addr)(H:aa)(R:Kp (Sl×Bool×Int)):Prop:=
 br c.isNone (R ((Sl.mk none 0 0),false,(1:Int)) H) (ah c λa=>ld aq H (a.add 0) λ(t:Option Addr)=>GL.sp t H λ(e:Int) H1=>br (e !=0) (R ((Sl.mk none 0 0),false,e) H1) (ah t λb=>ld (ai .i64) H1 (b.add 3) λ(x:Int)=>ah t λd=>ld (ai .i64) H1 (d.add 4) λ(f:Int)=>ah c λg=>ld au H1 (g.add 1) λ(h:Sl)=>ah c λi=>ld aC H1 (i.add 2) λ(j:Bool)=>E4.sp t x (Qe.wrap (f - 1)) (Sl.mk none 0 0) (Sl.mk none 0 0) h j H1 λ(r:(Sl×Int)) k=>br (r.2!=0) (wO.sp t r.2 k λ(l:Int) q=>R ((Sl.mk none 0 0),false,l) q) (br r.1.a.isNone (wO.sp t r.2 k λ(m:Int) s=>R ((Sl.mk none 0 0),false,m) s) (AO.sp r.1 k λ(n:Sl) u=>ah c λo=>st u (o.add 1) n.v λv=>ah c λp=>st v (p.add 2) (.bool true) λw=>R (r.1,true,(0:Int)) w))))
theorem Is.of:∀{c H R},Is.vc c H R->Is.sp c H R:=bn [] (by kernel_rfl)
def Lq.vc (t:Option Addr)(H:aa)(R:Kp Int):Prop:=
 ah t λa=>ld au H (a.add 1) λ(x:Sl)=>aF Int 0 H λnext z H1=>br (decide (z<(x.n:Int))) (ah x.a λb=>(0<=z/\z<(x.n:Int))/\ld aq H1 (b.add (z.toNat*1)) λ(c:Option Addr)=>Lb.sp c H1 λ(e:Int) f=>br (e !=0) (R e f) (next (Qe.wrap (z+1)) f)) (ah t λd=>st H1 (d.add 1) (.slice none 0 0) λg=>R (0:Int) g)
theorem Lq.of:∀{t H R},Lq.vc t H R->Lq.sp t H R:=bn [(2,[(11,(ai .i64))])] (by kernel_rfl)
def Kk.vc (t:Option Addr)(H:aa)(R:Kp Int):Prop:=
 ah t λa=>ld au H (a.add 1) λ(x:Sl)=>br ((x.n:Int)==0) (R (0:Int) H) (ah t λc=>ld au H (c.add 1) λ(b:Sl)=>ah b.a λd=>(0<=(0:Int)/\(0:Int)<(b.n:Int))/\ld aq H (d.add ((0:Int).toNat*1)) λ(e:Option Addr)=>IU.sp e H λ(r:Int) H1=>R r H1)
theorem Kk.of:∀{t H R},Kk.vc t H R->Kk.sp t H R:=bn [] (by kernel_rfl)
def Fe.vc (r:Option Addr)(part:Int)(cols words:Sl)(H:aa)(R:Kp (Option Addr)):Prop:=
 br r.isNone (R none H) (∃G:aa->Prop,G H/\DP.sp cols H λ(N:Sl) H1=>G H1/\AO.sp words H1 λ(O:Sl) H2=>G H2/\ah r λa=>bW (ai .i64) G (a.add 10) λ(x:Int)=>aB H2 #[(.pointer r),(.int .i64 0),(.slice none 0 0),N.v,O.v,(.slice none 0 0),(.slice none 0 0),(.int .i64 x),(.bool false),(.bool false)] II λb H3=>LJ.sp r part H3 λ(parts:Sl) P=>cut Unit (λJ=>br (parts.a.isNone||((cols.n:Int)!=(words.n:Int))) (st P (b.add 8) (.bool true) λH6=>J () H6) (ah r λQ=>ld (ai .i64) P ((Q.add 0).add 2) λ(S:Int)=>st P (b.add 8) (.bool (decide ((cols.n:Int)>S))) λH7=>J () H7)) λ(_:Unit) H5=>aF Int 0 H5 λnext c j=>br (decide (c<(cols.n:Int))) (ah cols.a λT=>(0<=c/\c<(cols.n:Int))/\ld (ai .i64) j (T.add (c.toNat*1)) λ(q:Int)=>ld aC j (b.add 8) λ(U:Bool)=>br (U||(decide (q<0))) (st j (b.add 8) (.bool true) λH9=>next (Qe.wrap (c+1)) H9) (ah r λV=>ld (ai .i64) j ((V.add 0).add 2) λ(W:Int)=>br (decide (q>=W)) (st j (b.add 8) (.bool true) λX=>next (Qe.wrap (c+1)) X) ((0<=c/\c<=(cols.c:Int))/\JD.sp (Sl.mk (bF cols.a cols.c 0 1) (c.toNat - 0) (cols.c - 0)) q j λ(Y:Bool) Z=>st Z (b.add 8) (.bool Y) λae=>next (Qe.wrap (c+1)) ae))) (ld aC j (b.add 8) λ(af:Bool)=>br af (R (some b) j) (Ld.sp r cols j λ(d:(Int×Bool)) a1=>st a1 (b.add 1) (.int .i64 d.1) λk=>cut Unit (λy=>br d.2 (ah r λa6=>ld au k ((a6.add 0).add 3) λ(z:Sl)=>ah z.a λa7=>(0<=d.1/\d.1<(z.n:Int))/\ld au k (a7.add (d.1.toNat*1)) λ(u:Sl)=>(0<=(cols.n:Int)/\(cols.n:Int)<=(u.c:Int))/\aF Int 0 k λl h m=>br (decide (h<((((cols.n:Int).toNat) - 0:Nat):Int))) (ah (bF u.a u.c 0 1) λa8=>(0<=h/\h<((((cols.n:Int).toNat) - 0:Nat):Int))/\ld (ai .i64) m (a8.add (h.toNat*1)) λ(ba:Int)=>∃n:aa->Prop,n m/\bW au n (b.add 2) λ(bg:Sl)=>Ja.sp cols ba m λ(v:Int) w=>n w/\ah words.a λbl=>(0<=v/\v<(words.n:Int))/\ld (ai .u64) w (bl.add (v.toNat*1)) λ(A:Int)=>aB w #[(.int .u64 A)] gM λp B=>n B/\bI au Qf (Qo #[cv,cv] cv #[bg.v,(.slice (some p) 1 1)]) B λ(s:Sl) bs=>st bs (b.add 2) s.v λbA=>l (Qe.wrap (h+1)) bA) (y () m)) (y () k)) λ(_:Unit) bB=>aF Int 0 bB λf g e=>br (decide (g<(parts.n:Int))) (ah parts.a λbC=>(0<=g/\g<(parts.n:Int))/\ld aq e (bC.add (g.toNat*1)) λ(t:Option Addr)=>ah t λbD=>ld au e (bD.add 1) λ(C:Sl)=>br (decide ((C.n:Int)>0)) (∃i:aa->Prop,i e/\bW au i (b.add 5) λ(D:Sl)=>ah t λE=>ld au e (E.add 1) λ(o:Sl)=>ah o.a λF=>(0<=d.1/\d.1<(o.n:Int))/\ld aq e (F.add (d.1.toNat*1)) λ(I:Option Addr)=>bW au i (b.add 2) λ(K:Sl)=>Im.sp I K e λ(bE:Option Addr) L=>i L/\aB L #[(.pointer bE)] NO λbG M=>i M/\bI au Qf (Qo #[LN,LN] LN #[D.v,(.slice (some bG) 1 1)]) M λ(b0:Sl) b1=>st b1 (b.add 5) b0.v λb3=>f (Qe.wrap (g+1)) b3) (f (Qe.wrap (g+1)) e)) (R (some b) e))))
theorem Fe.of:∀{r part cols words H R},Fe.vc r part cols words H R->Fe.sp r part cols words H R:=bn [(100006,[]),(7,[(59,(ai .i64))]),(100021,[]),(17,[(120,(ai .i64))]),(22,[(142,(ai .i64))])] (by kernel_rfl)
def vD.vc (c:Option Addr)(H:aa)(R:Kp (Sl×Bool×Int)):Prop:=
 br c.isNone (R ((Sl.mk none 0 0),false,(1:Int)) H) (ah c λa=>ld aq H (a.add 0) λ(x:Option Addr)=>Iu.sp x H λ(e:Int) H1=>br (e !=0) (R ((Sl.mk none 0 0),false,e) H1) (ah c λj=>ld aC H1 (j.add 8) λ(k:Bool)=>br k (R ((Sl.mk none 0 0),false,(2:Int)) H1) (ah c λm=>ld (ai .i64) H1 (m.add 7) λ(n:Int)=>ah c λo=>ld aq H1 (o.add 0) λ(p:Option Addr)=>ah p λq=>ld (ai .i64) H1 (q.add 10) λ(s:Int)=>br (n !=s) (R ((Sl.mk none 0 0),false,(2:Int)) H1) (aF Unit () H1 λnext _ M=>KX.sp c M λ(r:(Sl×Int)) b=>br (r.2!=0) (ah c λt=>ld aq b (t.add 0) λ(u:Option Addr)=>ah u λv=>Dx.sp (some (v.add 0)) r.2 b λ(w:Int) N=>R ((Sl.mk none 0 0),false,w) N) (br r.1.a.isNone (ah c λy=>ld aq b (y.add 0) λ(z:Option Addr)=>ah z λA=>Dx.sp (some (A.add 0)) r.2 b λ(B:Int) O=>R ((Sl.mk none 0 0),false,B) O) (ah c λC=>ld aq b (C.add 0) λ(D:Option Addr)=>ah D λd=>ah c λf=>ld (ai .i64) b (f.add 1) λ(E:Int)=>LG.sp (some (d.add 0)) r.1 E b λ(l:Sl) J=>ah c λg=>ld au J (g.add 3) λ(F:Sl)=>GS.sp l F J λ(G:(Sl×Int)) K=>ah c λh=>ld au K (h.add 4) λ(i:Sl)=>Kg.sp G.1 i K λ(I:Bool) L=>br I (R (l,true,(0:Int)) L) (next () L)))))))
theorem vD.of:∀{c H R},vD.vc c H R->vD.sp c H R:=bn [(8,[])] (by kernel_rfl)
def Mg.vc (s1 s2:Sl)(H:aa)(R:Kp Int):Prop:=
 aF Int 0 H λnext z H1=>br (decide (z<(s1.n:Int))) (ah s1.a λa=>(0<=z/\z<(s1.n:Int))/\ld (ai .u64) H1 (a.add (z.toNat*1)) λ(v1:Int)=>br (decide (z>=(s2.n:Int))) (R (1:Int) H1) (ah s2.a λb=>(0<=z/\z<(s2.n:Int))/\ld (ai .u64) H1 (b.add (z.toNat*1)) λ(v2:Int)=>IM.sp v1 v2 H1 λ(c:Int) d=>br (c !=0) (R c d) (next (Qe.wrap (z+1)) d))) (br (decide ((s1.n:Int)<(s2.n:Int))) (R (-1:Int) H1) (R (0:Int) H1))
theorem Mg.of:∀{s1 s2 H R},Mg.vc s1 s2 H R->Mg.sp s1 s2 H R:=bn [(2,[(13,(ai .i64))])] (by kernel_rfl)
def IM.vc (x y:Int)(H:aa)(R:Kp Int):Prop:=
 J4.sp x H λ(c:Bool) H1=>J4.sp y H1 λ(a:Bool) b=>br c (br a (R (0:Int) b) (R (-1:Int) b)) (br a (R (1:Int) b) (br (decide (x<y)) (R (-1:Int) b) (br (decide (x>y)) (R (1:Int) b) (R (0:Int) b))))
theorem IM.of:∀{x y H R},IM.vc x y H R->IM.sp x y H R:=bn [] (by kernel_rfl)
def LJ.vc (r:Option Addr)(n:Int)(H:aa)(R:Kp Sl):Prop:=
 br (n==1) (ah r λa=>ld aq H (a.add 6) λ(x:Option Addr)=>ah r λb=>ld aq H (b.add 7) λ(c:Option Addr)=>aB H #[(.pointer x),(.pointer c)] Oy λp H1=>R (Sl.mk (some p) 2 2) H1) (br (n==2) (ah r λd=>ld aq H (d.add 7) λ(e:Option Addr)=>aB H #[(.pointer e)] Oy λf j=>R (Sl.mk (some f) 1 1) j) (br (n==3) (ah r λg=>ld aq H (g.add 6) λ(h:Option Addr)=>aB H #[(.pointer h)] Oy λi k=>R (Sl.mk (some i) 1 1) k) (R (Sl.mk none 0 0) H)))
theorem LJ.of:∀{r n H R},LJ.vc r n H R->LJ.sp r n H R:=bn [] (by kernel_rfl)
def L4.vc (width:Int)(b:Sl)(H:aa)(R:Kp (Option Addr×Int)):Prop:=
 KR.sp width H λ(r:Int) H1=>br (r==0) (R (none,(60:Int)) H1) (br ((decide ((b.n:Int)<1))||(decide ((b.n:Int)>16))) (R (none,(2:Int)) H1) (aF Int 0 H1 λnext i g=>br (decide (i<(b.n:Int))) (ah b.a λa=>(0<=i/\i<(b.n:Int))/\ld au g (a.add (i.toNat*1)) λ(x:Sl)=>Lj.sp x width g λ(h:Bool) m=>br (!h) (R (none,(2:Int)) m) (next (Qe.wrap (i+1)) m)) (aF Int 0 g λd c e=>br (decide (c<width)) (ah b.a λj=>(0<=(0:Int)/\(0:Int)<(b.n:Int))/\ld au e (j.add ((0:Int).toNat*1)) λ(f:Sl)=>ah f.a λk=>(0<=c/\c<(f.n:Int))/\ld (ai .i64) e (k.add (c.toNat*1)) λ(l:Int)=>br (l !=c) (R (none,(2:Int)) e) (d (Qe.wrap (c+1)) e)) (aB e #[(.int .i64 width),b.v,(.slice none 0 0),(.slice none 0 0),(.slice none 0 0)] MV λp n=>R (some p,(0:Int)) n))))
theorem L4.of:∀{width a H R},L4.vc width a H R->L4.sp width a H R:=bn [(6,[(6,(ai .i64))]),(11,[(7,(ai .i64))])] (by kernel_rfl)
def Lu.vc (r:Option Addr)(l:Sl)(H:aa)(R:Kp (Bool×Int)):Prop:=
 ah r λa=>ld (ai .i64) H (a.add 0) λ(x:Int)=>br ((l.n:Int)!=x) (R (false,(60:Int)) H) (ah r λb=>ld au H (b.add 2) λ(c:Sl)=>Ik.sp c l H λ(d:Bool) H1=>br d (R (false,(0:Int)) H1) (ah r λe=>ld au H1 (e.add 3) λ(f:Sl)=>Ik.sp f l H1 λ(g:Bool) h=>br g (R (false,(0:Int)) h) (ah r λi=>ld au h (i.add 4) λ(j:Sl)=>Ik.sp j l h λ(k:Bool) m=>br k (R (false,(0:Int)) m) (ah r λn=>ld au m (n.add 4) λ(o:Sl)=>JN.sp o l m λ(p:Sl) s=>ah r λq=>st s (q.add 4) p.v λt=>R (true,(0:Int)) t))))
theorem Lu.of:∀{r l H R},Lu.vc r l H R->Lu.sp r l H R:=bn [] (by kernel_rfl)
def Jw.vc (r:Option Addr)(H:aa)(R:Kp Int):Prop:=
 aF Int 0 H λnext i H1=>ah r λa=>ld au H1 (a.add 3) λ(x:Sl)=>br (decide (i<(x.n:Int))) (ah r λc=>ld au H1 (c.add 2) λ(d:Sl)=>ah r λe=>ld au H1 (e.add 3) λ(b:Sl)=>ah b.a λf=>(0<=i/\i<(b.n:Int))/\ld au H1 (f.add (i.toNat*1)) λ(g:Sl)=>JN.sp d g H1 λ(h:Sl) s=>ah r λj=>st s (j.add 2) h.v λt=>next (Qe.wrap (i+1)) t) (ah r λk=>ld au H1 (k.add 4) λ(l:Sl)=>ah r λm=>st H1 (m.add 3) l.v λu=>ah r λn=>st u (n.add 4) (.slice none 0 0) λq=>ah r λo=>ld au q (o.add 3) λ(p:Sl)=>R (p.n:Int) q)
theorem Jw.of:∀{r H R},Jw.vc r H R->Jw.sp r H R:=bn [(2,[(3,(ai .i64))])] (by kernel_rfl)
def sq.vc (s:Option Addr)(H:aa)(R:Kp (Sl×Bool×Int)):Prop:=
 cut Unit (λJ=>br s.isNone (R ((Sl.mk none 0 0),false,(1:Int)) H) (ah s λa=>ld aC H (a.add 5) λ(x:Bool)=>br x (R ((Sl.mk none 0 0),false,(2:Int)) H) (cut Bool (λb=>ah s λd=>ld (ai .i64) H (d.add 3) λ(c:Int)=>br (c !=0) (b (c !=0) H) (ah s λe=>ld aC H (e.add 6) λ(f:Bool)=>b f H)) λ(g:Bool) h=>br g (ah s λi=>ld (ai .i64) h (i.add 3) λ(j:Int)=>R ((Sl.mk none 0 0),false,j) h) (J () h)))) λ(_:Unit) H1=>ah s λk=>ld jF H1 (k.add 1) λ(l:Value)=>pW (bf [au,aC,(ai .i64)]) Qf l [] H1 λ(r:(Sl×Bool×Int)) o=>br ((r.2.2!=0)||(!r.2.1)) (ah s λm=>st o (m.add 3) (.int .i64 r.2.2) λp=>ah s λn=>st p (n.add 6) (.bool true) λq=>R ((Sl.mk none 0 0),false,r.2.2) q) (R (r.1,true,(0:Int)) o)
theorem sq.of:∀{s H R},sq.vc s H R->sq.sp s H R:=bn [(100008,[]),(100007,[(16,aC)])] (by kernel_rfl)
def IJ.vc (left r:Option Addr)(a:Sl)(width:Int)(fn:Fn)(f ca:Array Value)(H:aa)(R:Kp (Option Addr)):Prop:=
 L3.sp left a H λ(e:Int) H1=>br r.isNone (aB H1 #[(.pointer left)] yC λp g=>xm.sp width (Sl.mk (some p) 1 1) (1:Int) fn f ca g λ(b:Option Addr) h=>R b h) (aB H1 #[(.pointer left)] yC λc i=>xm.sp width (Sl.mk (some c) 1 1) e fn f ca i λ(d:Option Addr) j=>R d j)
theorem IJ.of:∀{left r a width fn b ca H R},IJ.vc left r a width fn b ca H R->IJ.sp left r a width fn b ca H R:=bn [] (by kernel_rfl)
def xI.vc (s:Option Addr)(H:aa)(R:Kp Int):Prop:=
 br s.isNone (R (0:Int) H) (ah s λa=>ld (ai .i64) H (a.add 0) λ(x:Int)=>R x H)
theorem xI.of:∀{s H R},xI.vc s H R->xI.sp s H R:=bn [] (by kernel_rfl)
def JL.vc (r:Option Addr)(H:aa)(R:Kp Int):Prop:=
 br r.isNone (R (0:Int) H) (ah r λa=>ld (ai .i64) H ((a.add 0).add 2) λ(x:Int)=>R x H)
theorem JL.of:∀{r H R},JL.vc r H R->JL.sp r H R:=bn [] (by kernel_rfl)
def BO.vc (cap cap1 cap2 cap3 cap4 cap5 cap6:Addr)(H:aa)(R:Kp (Sl×Bool×Int)):Prop:=
 aF Unit () H λnext _ H1=>ld aq H1 cap λ(x:Option Addr)=>br x.isNone (ld aq H1 cap1 λ(h:Option Addr)=>sq.sp h H1 λ(r:(Sl×Bool×Int)) A=>st A cap2 r.1.v λe=>br ((r.2.2!=0)||(!r.2.1)) (R ((Sl.mk none 0 0),false,r.2.2) e) (ld au e cap2 λ(i:Sl)=>ld au e cap3 λ(j:Sl)=>GS.sp i j e λ(k:(Sl×Int)) f=>ld aq f cap4 λ(l:Option Addr)=>ld (ai .u8) f cap5 λ(m:Int)=>ld au f cap6 λ(n:Sl)=>Fe.sp l m n k.1 f λ(o:Option Addr) B=>st B cap (.pointer o) λz=>ld aq z cap λ(p:Option Addr)=>vD.sp p z λ(a:(Sl×Bool×Int)) g=>br (a.2.2!=0) (R ((Sl.mk none 0 0),false,a.2.2) g) (br a.2.1 (ld au g cap2 λ(q:Sl)=>EV.sp q a.1 g λ(s:Sl) C=>R (s,true,(0:Int)) C) (st g cap (.pointer none) λD=>next () D)))) (ld aq H1 cap λ(t:Option Addr)=>vD.sp t H1 λ(b:(Sl×Bool×Int)) c=>br (b.2.2!=0) (R ((Sl.mk none 0 0),false,b.2.2) c) (br b.2.1 (ld au c cap2 λ(d:Sl)=>EV.sp d b.1 c λ(u:Sl) w=>R (u,true,(0:Int)) w) (st c cap (.pointer none) λy=>next () y)))
theorem BO.of:∀{cap cap1 cap2 cap3 cap4 cap5 cap6 H R},BO.vc cap cap1 cap2 cap3 cap4 cap5 cap6 H R->BO.sp cap cap1 cap2 cap3 cap4 cap5 cap6 H R:=bn [(1,[])] (by kernel_rfl)
def GS.vc (l cols:Sl)(H:aa)(R:Kp (Sl×Int)):Prop:=
 bI au Qf (Rn cv (.int .i64 0) (.int .i64 (cols.n:Int))) H λ(out:Sl) H1=>aF (Sl×Int) (out,(0:Int)) H1 λnext z d=>br (decide (z.2<(cols.n:Int))) (ah cols.a λa=>(0<=z.2/\z.2<(cols.n:Int))/\ld (ai .i64) d (a.add (z.2.toNat*1)) λ(c:Int)=>br ((decide (c<0))||(decide (c>=(l.n:Int)))) (R ((Sl.mk none 0 0),(2:Int)) d) (ah l.a λe=>(0<=c/\c<(l.n:Int))/\ld (ai .u64) d (e.add (c.toNat*1)) λ(x:Int)=>aB d #[(.int .u64 x)] gM λp f=>bI au Qf (Qo #[cv,cv] cv #[z.1.v,(.slice (some p) 1 1)]) f λ(b:Sl) g=>next (b,Qe.wrap (z.2+1)) g)) (R (z.1,(0:Int)) d)
theorem GS.of:∀{l cols H R},GS.vc l cols H R->GS.sp l cols H R:=bn [(3,[(6,au),(14,(ai .i64))])] (by kernel_rfl)
def EV.vc (a b:Sl)(H:aa)(R:Kp Sl):Prop:=
 AO.sp a H λ(r:Sl) H1=>bI au Qf (Qo #[cv,cv] cv #[r.v,b.v]) H1 λ(s:Sl) c=>R s c
theorem EV.of:∀{a b H R},EV.vc a b H R->EV.sp a b H R:=bn [] (by kernel_rfl)
def xm.vc (width:Int)(under:Sl)(e:Int)(fn:Fn)(b ca:Array Value)(H:aa)(R:Kp (Option Addr)):Prop:=
 aF (Int×Int) (e,(0:Int)) H λnext z H1=>br (decide (z.2<(under.n:Int))) (ah under.a λa=>(0<=z.2/\z.2<(under.n:Int))/\ld aq H1 (a.add (z.2.toNat*1)) λ(u:Option Addr)=>br u.isNone (next ((1:Int),Qe.wrap (z.2+1)) H1) (next (z.1,Qe.wrap (z.2+1)) H1)) (aB H1 #[(.int .i64 width),(.func fn b ca),under.v,(.int .i64 z.1),.nilIface,(.bool false),(.bool false)] jJ λp c=>R (some p) c)
theorem xm.of:∀{width under e fn a ca H R},xm.vc width under e fn a ca H R->xm.sp width under e fn a ca H R:=bn [(2,[(2,(ai .i64)),(13,(ai .i64))])] (by kernel_rfl)
def GU.vc (cap cap1 cap2:Addr)(H:aa)(R:Kp (Sl×Bool×Int)):Prop:=
 ld aq H cap λ(x:Option Addr)=>br x.isNone (ld aq H cap1 λ(c:Option Addr)=>ld (ai .u8) H cap2 λ(d:Int)=>Fe.sp c d (Sl.mk none 0 0) (Sl.mk none 0 0) H λ(r:Option Addr) H1=>st H1 cap (.pointer r) λg=>ld aq g cap λ(e:Option Addr)=>vD.sp e g λ(a:(Sl×Bool×Int)) h=>R (a.1,a.2.1,a.2.2) h) (ld aq H cap λ(f:Option Addr)=>vD.sp f H λ(b:(Sl×Bool×Int)) i=>R (b.1,b.2.1,b.2.2) i)
theorem GU.of:∀{cap cap1 cap2 H R},GU.vc cap cap1 cap2 H R->GU.sp cap cap1 cap2 H R:=bn [] (by kernel_rfl)
def HH.vc (cap cap1 cap2 cap3 cap4:Addr)(H:aa)(R:Kp (Sl×Bool×Int)):Prop:=
 cut Unit (λJ=>ld aq H cap λ(x:Option Addr)=>ah x λa=>ld aC H (a.add 3) λ(bB:Bool)=>br (!bB) (ld aq H cap λ(bC:Option Addr)=>DO.sp bC H λ(e:Int) H2=>br (e !=0) (R ((Sl.mk none 0 0),false,e) H2) (J () H2)) (J () H)) λ(_:Unit) H1=>cut Unit (λD=>aF Unit () H1 λnext _ B=>cut Unit (λE=>ld (ai .i64) B cap1 λ(bD:Int)=>ld au B cap2 λ(bE:Sl)=>br (bD==(bE.n:Int)) (E () B) (ld aq B cap3 λ(bG:Option Addr)=>ah bG λb0=>ld aC B (b0.add 3) λ(b1:Bool)=>br (!b1) (E () B) (D () B))) λ(_:Unit) H5=>ld aq H5 cap3 λ(b3:Option Addr)=>DO.sp b3 H5 λ(C:Int) F=>br (C !=0) (R ((Sl.mk none 0 0),false,C) F) (ld aq F cap3 λ(b4:Option Addr)=>ah b4 λb5=>ld aC F (b5.add 2) λ(b6:Bool)=>br (!b6) (R ((Sl.mk none 0 0),false,C) F) (st F cap1 (.int .i64 0) λy=>cut Unit (λI=>ld au y cap2 λ(K:Sl)=>br (decide ((K.n:Int)>0)) (ld au y cap2 λ(z:Sl)=>ah z.a λb7=>(0<=(0:Int)/\(0:Int)<(z.n:Int))/\ld au y (b7.add ((0:Int).toNat*1)) λ(d:Sl)=>ld (ai .i64) y cap4 λ(n:Int)=>(0<=n/\n<=(d.c:Int))/\ld aq y cap3 λ(L:Option Addr)=>ah L λb8=>ld au y (b8.add 1) λ(f:Sl)=>ld (ai .i64) y cap4 λ(o:Int)=>(0<=o/\o<=(f.c:Int))/\tN.sp (Sl.mk (bF d.a d.c 0 1) (n.toNat - 0) (d.c - 0)) (Sl.mk (bF f.a f.c 0 1) (o.toNat - 0) (f.c - 0)) y λ(r:Int) H9=>br (r==0) (D () H9) (I () H9)) (I () y)) λ(_:Unit) H8=>st H8 cap2 (.slice none 0 0) λb9=>aF Unit () b9 λg _ b=>ld aq b cap λ(M:Option Addr)=>ah M λcm=>ld aC b (cm.add 2) λ(N:Bool)=>br N (ld aq b cap λ(O:Option Addr)=>ah O λcA=>ld au b (cA.add 1) λ(h:Sl)=>ld (ai .i64) b cap4 λ(q:Int)=>(0<=q/\q<=(h.c:Int))/\ld aq b cap3 λ(P:Option Addr)=>ah P λcB=>ld au b (cB.add 1) λ(i:Sl)=>ld (ai .i64) b cap4 λ(t:Int)=>(0<=t/\t<=(i.c:Int))/\tN.sp (Sl.mk (bF h.a h.c 0 1) (q.toNat - 0) (h.c - 0)) (Sl.mk (bF i.a i.c 0 1) (t.toNat - 0) (i.c - 0)) b λ(cF:Int) c=>br (decide (cF<=0)) (ld aq c cap λ(Q:Option Addr)=>ah Q λc0=>ld au c (c0.add 1) λ(j:Sl)=>ld (ai .i64) c cap4 λ(u:Int)=>(0<=u/\u<=(j.c:Int))/\ld aq c cap3 λ(S:Option Addr)=>ah S λc3=>ld au c (c3.add 1) λ(k:Sl)=>ld (ai .i64) c cap4 λ(v:Int)=>(0<=v/\v<=(k.c:Int))/\tN.sp (Sl.mk (bF j.a j.c 0 1) (u.toNat - 0) (j.c - 0)) (Sl.mk (bF k.a k.c 0 1) (v.toNat - 0) (k.c - 0)) c λ(c4:Int) l=>br (c4==0) (∃G:aa->Prop,G l/\bW au G cap2 λ(T:Sl)=>ld aq l cap λ(U:Option Addr)=>ah U λV=>ld au l (V.add 1) λ(W:Sl)=>aB l #[W.v] cv λp X=>G X/\bI au Qf (Qo #[cW,cW] cW #[T.v,(.slice (some p) 1 1)]) X λ(s:Sl) c5=>st c5 cap2 s.v λY=>ld aq Y cap λ(Z:Option Addr)=>DO.sp Z Y λ(ae:Int) af=>br (ae !=0) (R ((Sl.mk none 0 0),false,ae) af) (g () af)) (ld aq l cap λ(a1:Option Addr)=>DO.sp a1 l λ(a6:Int) a7=>br (a6 !=0) (R ((Sl.mk none 0 0),false,a6) a7) (g () a7))) (next () c)) (next () b)))) λ(_:Unit) H3=>ld (ai .i64) H3 cap1 λ(a8:Int)=>st H3 cap1 (.int .i64 (Qe.wrap (a8+1))) λm=>ld aq m cap3 λ(ba:Option Addr)=>ah ba λbg=>ld au m (bg.add 1) λ(bl:Sl)=>ld au m cap2 λ(A:Sl)=>ld (ai .i64) m cap1 λ(w:Int)=>ah A.a λbs=>(0<=(Qe.wrap (w - 1))/\(Qe.wrap (w - 1))<(A.n:Int))/\ld au m (bs.add ((Qe.wrap (w - 1)).toNat*1)) λ(bA:Sl)=>EV.sp bl bA m λ(c6:Sl) c7=>R (c6,true,(0:Int)) c7
theorem HH.of:∀{cap cap1 cap2 cap3 cap4 H R},HH.vc cap cap1 cap2 cap3 cap4 H R->HH.sp cap cap1 cap2 cap3 cap4 H R:=bn [(100005,[]),(100018,[]),(5,[]),(100006,[]),(100011,[]),(12,[])] (by kernel_rfl)
def DO.vc (r:Option Addr)(H:aa)(R:Kp Int):Prop:=
 ah r λa=>ld au H (a.add 1) λ(last:Sl)=>ah r λh=>ld aq H (h.add 0) λ(x:Option Addr)=>sq.sp x H λ(b:(Sl×Bool×Int)) H1=>br ((b.2.2==0)&&b.2.1) (ah r λi=>ld aC H1 (i.add 3) λ(j:Bool)=>br j (tN.sp b.1 last H1 λ(k:Int) A=>br (decide (k<=0)) (ah r λl=>st A (l.add 1) b.1.v λB=>ah r λm=>st B (m.add 2) (.bool b.2.1) λC=>ah r λn=>st C (n.add 3) (.bool true) λD=>R (70:Int) D) (ah r λo=>st A (o.add 1) b.1.v λE=>ah r λp=>st E (p.add 2) (.bool b.2.1) λF=>ah r λq=>st F (q.add 3) (.bool true) λG=>R b.2.2 G)) (ah r λs=>st H1 (s.add 1) b.1.v λI=>ah r λc=>st I (c.add 2) (.bool b.2.1) λt=>ah r λd=>st t (d.add 3) (.bool true) λu=>R b.2.2 u)) (ah r λe=>st H1 (e.add 1) b.1.v λw=>ah r λf=>st w (f.add 2) (.bool b.2.1) λy=>ah r λg=>st y (g.add 3) (.bool true) λz=>R b.2.2 z)
theorem DO.of:∀{r H R},DO.vc r H R->DO.sp r H R:=bn [] (by kernel_rfl)
def AL.vc (cap cap1 cap2 cap3:Addr)(H:aa)(R:Kp (Sl×Bool×Int)):Prop:=
 aF Unit () H λnext _ H1=>ld aq H1 cap λ(x:Option Addr)=>sq.sp x H1 λ(r:(Sl×Bool×Int)) b=>br ((r.2.2!=0)||(!r.2.1)) (R ((Sl.mk none 0 0),false,r.2.2) b) (ld au b cap1 λ(c:Sl)=>GS.sp r.1 c b λ(d:(Sl×Int)) e=>ld aq e cap2 λ(f:Option Addr)=>ld au e cap3 λ(g:Sl)=>Fe.sp f (1:Int) g d.1 e λ(h:Option Addr) j=>vD.sp h j λ(a:(Sl×Bool×Int)) i=>br ((a.2.2!=0)||(!a.2.1)) (R (r.1,a.2.2==0,a.2.2) i) (next () i))
theorem AL.of:∀{cap cap1 cap2 cap3 H R},AL.vc cap cap1 cap2 cap3 H R->AL.sp cap cap1 cap2 cap3 H R:=bn [(1,[])] (by kernel_rfl)
def Ix.vc (a b:Sl)(H:aa)(R:Kp Int):Prop:=
 aF Int 0 H λnext i H1=>br ((decide (i<(a.n:Int)))&&(decide (i<(b.n:Int)))) (ah a.a λc=>(0<=i/\i<(a.n:Int))/\ld (ai .u64) H1 (c.add (i.toNat*1)) λ(x:Int)=>ah b.a λd=>(0<=i/\i<(b.n:Int))/\ld (ai .u64) H1 (d.add (i.toNat*1)) λ(e:Int)=>br (decide (x<e)) (R (-1:Int) H1) (ah a.a λf=>(0<=i/\i<(a.n:Int))/\ld (ai .u64) H1 (f.add (i.toNat*1)) λ(g:Int)=>ah b.a λh=>(0<=i/\i<(b.n:Int))/\ld (ai .u64) H1 (h.add (i.toNat*1)) λ(j:Int)=>br (decide (g>j)) (R (1:Int) H1) (next (Qe.wrap (i+1)) H1))) (br (decide ((a.n:Int)<(b.n:Int))) (R (-1:Int) H1) (br (decide ((a.n:Int)>(b.n:Int))) (R (1:Int) H1) (R (0:Int) H1)))
theorem Ix.of:∀{a b H R},Ix.vc a b H R->Ix.sp a b H R:=bn [(2,[(5,(ai .i64))])] (by kernel_rfl)
def AO.vc (s:Sl)(H:aa)(R:Kp Sl):Prop:=
 br s.a.isNone (R (Sl.mk none 0 0) H) (aB H #[] gM λp H1=>bI au Qf (Qo #[cv,cv] cv #[(.slice (some p) 0 0),s.v]) H1 λ(a:Sl) b=>R a b)
theorem AO.of:∀{s H R},AO.vc s H R->AO.sp s H R:=bn [] (by kernel_rfl)
def Gn.vc (cap cap1:Addr)(H:aa)(R:Kp (Sl×Bool×Int)):Prop:=
 ld au H cap λ(x:Sl)=>br ((x.n:Int)==0) (R ((Sl.mk none 0 0),false,(0:Int)) H) (ld au H cap λ(c:Sl)=>ah c.a λa=>(0<=(0:Int)/\(0:Int)<(c.n:Int))/\ld au H (a.add ((0:Int).toNat*1)) λ(d:Sl)=>ld au H cap λ(b:Sl)=>(0<=(1:Int)/\(1:Int)<=(b.n:Int))/\st H cap (.slice (bF b.a b.c ((1:Int).toNat) 1) (b.n - ((1:Int).toNat)) (b.c - ((1:Int).toNat))) λH1=>ld (ai .i64) H1 cap1 λ(e:Int)=>br ((d.n:Int)!=e) (R ((Sl.mk none 0 0),false,(60:Int)) H1) (R (d,true,(0:Int)) H1))
theorem Gn.of:∀{cap cap1 H R},Gn.vc cap cap1 H R->Gn.sp cap cap1 H R:=bn [] (by kernel_rfl)
def IV.vc (width:Int)(H:aa)(R:Kp Int):Prop:=
 br (decide (width<0)) (br (decide (width<0)) (R (0:Int) H) (br (width==0) (R (1:Int) H) (R (Qe.wrap ((8:Int)*width)) H))) (br (decide (width>16)) (R (0:Int) H) (br (width==0) (R (1:Int) H) (R (Qe.wrap ((8:Int)*width)) H)))
theorem IV.of:∀{width H R},IV.vc width H R->IV.sp width H R:=bn [] (by kernel_rfl)
def MB.vc (x y:Int)(H:aa)(R:Kp Bool):Prop:=
 Li.sp x H λ(r:Bool) H1=>br r (Li.sp y H1 λ(a:Bool) b=>R ((!a)||(decide (x<y))) b) (R (decide (x<y)) H1)
theorem MB.of:∀{x y H R},MB.vc x y H R->MB.sp x y H R:=bn [] (by kernel_rfl)
def MY.vc (seq:Value)(H:aa)(R:Kp Sl):Prop:=
 Mv.sp seq H λ(s:Sl) H1=>Pc.sp s H1 λ(_:Unit) a=>R s a
theorem MY.of:∀{seq H R},MY.vc seq H R->MY.sp seq H R:=bn [] (by kernel_rfl)
def MS.vc (s:Sl)(H:aa)(R:Kp Value):Prop:=
 aB H #[s.v] dX λp H1=>R (.func (.func Hg.no) #[] #[(.pointer (some p))]) H1
theorem MS.of:∀{s H R},MS.vc s H R->MS.sp s H R:=bn [] (by kernel_rfl)
def Lg.vc (t:Option Addr)(l:Sl)(H:aa)(R:Kp (Bool×Int)):Prop:=
 ah t λa=>ld au H (a.add 1) λ(x:Sl)=>br ((x.n:Int)==0) (R (false,(0:Int)) H) (ah t λc=>ld au H (c.add 1) λ(b:Sl)=>ah b.a λd=>(0<=(0:Int)/\(0:Int)<(b.n:Int))/\ld aq H (d.add ((0:Int).toNat*1)) λ(e:Option Addr)=>Kh.sp e l H λ(r:(Bool×Int)) H1=>R (r.1,r.2) H1)
theorem Lg.of:∀{t l H R},Lg.vc t l H R->Lg.sp t l H R:=bn [] (by kernel_rfl)
def Iv.vc (p:Option Addr)(name:ByteArray)(width:Int)(H:aa)(R:Kp (Option Addr×Int)):Prop:=
 br p.isNone (R (none,(1:Int)) H) (HX.sp width H λ(r:Int) H1=>br (r==0) (R (none,(60:Int)) H1) (K6.sp p H1 λ(c:Option Addr) j=>LP.sp c name j λ(e:Int) g=>br (e !=0) (R (none,e) g) (aB g #[(.pointer p),(.string name),(.int .i64 width),(.int .i64 1),(.int .i64 1),(.int .i64 0),(.int .i64 0),(.bool false)] OR λa k=>LO.sp (some a) true k λ(b:Int) h=>cut Int (λJ=>br (b==0) (aB h #[(.int .i64 (-1)),(.slice none 0 0),(.slice none 0 0)] rq λd l=>yD.sp (some a) (some d) l λ(f:Int) m=>J f m) (J b h)) λ(z:Int) i=>br (z !=0) (R (none,z) i) (R (some a,(0:Int)) i))))
theorem Iv.of:∀{p name width H R},Iv.vc p name width H R->Iv.sp p name width H R:=bn [(100012,[(10,(ai .i64))])] (by kernel_rfl)
def E6.vc (i:Int)(H:aa)(R:Kp ByteArray):Prop:=
 IQ.sp i H λ(r:ByteArray) H1=>R r H1
theorem E6.of:∀{i H R},E6.vc i H R->E6.sp i H R:=bn [] (by kernel_rfl)
def Iy.vc (t:Option Addr)(l:Sl)(H:aa)(R:Kp (Bool×Int)):Prop:=
 GL.sp t H λ(e:Int) H1=>br (e !=0) (R (false,e) H1) (ah t λa=>ld (ai .i64) H1 (a.add 2) λ(x:Int)=>br ((l.n:Int)!=x) (R (false,(60:Int)) H1) (∃G:aa->Prop,G H1/\ah t λB=>bW (ai .i64) G (B.add 3) λ(C:Int)=>ah t λD=>bW (ai .i64) G (D.add 4) λ(E:Int)=>AO.sp l H1 λ(r:Sl) H2=>G H2/\GR.sp t C (Qe.wrap (E - 1)) (Sl.mk none 0 0) (Sl.mk none 0 0) r H2 λ(b:(Bool×Option Addr×Sl×Int)) j=>cut Int (λJ=>br (b.2.2.2==0) (br (!b.2.1.isNone) (∃c:aa->Prop,c j/\ah t λF=>bW (ai .i64) c (F.add 3) λ(k:Int)=>ah b.2.1 λI=>bW (ai .i64) c (I.add 0) λ(m:Int)=>(aB j #[(.int .i64 k),(.int .i64 m)] bT λp H5=>c H5/\aB H5 #[b.2.2.1.v] cv λK H6=>c H6/\aB H6 #[(.int .i64 (-1)),(.slice (some p) 2 2),(.slice (some K) 1 1)] rq λf H7=>c H7/\yD.sp t (some f) H7 λ(g:Int) L=>br (g==0) (ld (ai .i64) L (f.add 0) λ(M:Int)=>ah t λN=>st L (N.add 3) (.int .i64 M) λH9=>ah t λO=>ld (ai .i64) H9 (O.add 4) λ(P:Int)=>ah t λQ=>st H9 (Q.add 4) (.int .i64 (Qe.wrap (P+1))) λS=>J g S) (J g L))/\(aB j #[b.2.2.1.v] cv λT n=>c n/\aB n #[(.int .i64 k),(.int .i64 m)] bT λU o=>c o/\aB o #[(.int .i64 (-1)),(.slice (some U) 2 2),(.slice (some T) 1 1)] rq λd q=>c q/\yD.sp t (some d) q λ(h:Int) i=>br (h==0) (ld (ai .i64) i (d.add 0) λ(V:Int)=>ah t λW=>st i (W.add 3) (.int .i64 V) λs=>ah t λX=>ld (ai .i64) s (X.add 4) λ(Y:Int)=>ah t λu=>st s (u.add 4) (.int .i64 (Qe.wrap (Y+1))) λZ=>J h Z) (J h i))) (J b.2.2.2 j)) (J b.2.2.2 j)) λ(z:Int) A=>br (z !=0) (wO.sp t z A λ(ae:Int) af=>R (false,ae) af) (br b.1 (ah t λw=>ld (ai .i64) A (w.add 5) λ(a1:Int)=>ah t λy=>st A (y.add 5) (.int .i64 (Qe.wrap (a1+1))) λa6=>R (b.1,(0:Int)) a6) (R (b.1,(0:Int)) A))))
theorem Iy.of:∀{t l H R},Iy.vc t l H R->Iy.sp t l H R:=bn [(100013,[(10,(ai .i64))]),(300008,[(8,aC),(11,aC)])] (by kernel_rfl)
def J8.vc (b:Option Addr)(l:Sl)(order:Int)(H:aa)(R:Kp Sl):Prop:=
 ah b λa=>ld au H (a.add 3) λ(x:Sl)=>ah x.a λc=>(0<=order/\order<(x.n:Int))/\ld au H (c.add (order.toNat*1)) λ(d:Sl)=>GS.sp l d H λ(r:(Sl×Int)) H1=>R r.1 H1
theorem J8.of:∀{b l order H R},J8.vc b l order H R->J8.sp b l order H R:=bn [] (by kernel_rfl)
def GL.vc (t:Option Addr)(H:aa)(R:Kp Int):Prop:=
 br t.isNone (R (1:Int) H) (ah t λa=>ld (ai .i64) H (a.add 6) λ(x:Int)=>br (x !=0) (ah t λb=>ld (ai .i64) H (b.add 6) λ(c:Int)=>R c H) (ah t λd=>ld aC H (d.add 7) λ(e:Bool)=>br e (R (2:Int) H) (R (0:Int) H)))
theorem GL.of:∀{t H R},GL.vc t H R->GL.sp t H R:=bn [] (by kernel_rfl)
def E4.vc (t:Option Addr)(ag above:Int)(Y B low:Sl)(strict:Bool)(H:aa)(R:Kp (Sl×Int)):Prop:=
 aB H #[Y.v,B.v] AP λp H1=>kN (iD [au,au]) 2 H1 p λ(x:(Sl×Sl))=>JF.sp t ag above x.1 x.2 H1 λ(r:(Option Addr×Int)) A=>br (r.2!=0) (R ((Sl.mk none 0 0),r.2) A) (br (above==0) (ah r.1 λa=>ld au A (a.add 2) λ(C:Sl)=>Io.sp C low A λ(b:(Int×Bool)) d=>br (b.2&&strict) (ah r.1 λD=>ld au d (D.add 2) λ(E:Sl)=>br ((Qe.wrap (b.1+1))==(E.n:Int)) (R ((Sl.mk none 0 0),(0:Int)) d) (∃G:aa->Prop,G d/\ah t λF=>ld (ai .i64) d (F.add 2) λ(I:Int)=>bI au Qf (Rn cv (.int .i64 0) (.int .i64 (Qe.wrap (I+1)))) d λ(sl:Sl) W=>G W/\ah r.1 λJ=>bW au G (J.add 2) λ(k:Sl)=>ah k.a λK=>(0<=(Qe.wrap (b.1+1))/\(Qe.wrap (b.1+1))<(k.n:Int))/\bW au G (K.add ((Qe.wrap (b.1+1)).toNat*1)) λ(L:Sl)=>bI au Qf (Qo #[cv,cv] cv #[sl.v,L.v]) W λ(s:Sl) Z=>R (s,(0:Int)) Z)) (ah r.1 λM=>ld au d (M.add 2) λ(N:Sl)=>br (b.1==(N.n:Int)) (R ((Sl.mk none 0 0),(0:Int)) d) (∃e:aa->Prop,e d/\ah t λO=>ld (ai .i64) d (O.add 2) λ(P:Int)=>bI au Qf (Rn cv (.int .i64 0) (.int .i64 (Qe.wrap (P+1)))) d λ(l:Sl) X=>e X/\ah r.1 λQ=>bW au e (Q.add 2) λ(m:Sl)=>ah m.a λS=>(0<=b.1/\b.1<(m.n:Int))/\bW au e (S.add (b.1.toNat*1)) λ(T:Sl)=>bI au Qf (Qo #[cv,cv] cv #[l.v,T.v]) X λ(U:Sl) H7=>R (U,(0:Int)) H7))) (KH.sp r.1 low A λ(i:Int) H8=>aF Int i H8 λnext c n=>ah r.1 λV=>ld au n (V.add 1) λ(o:Sl)=>br (decide (c<(o.n:Int))) (∃f:aa->Prop,f n/\ah r.1 λq=>bW au f (q.add 1) λ(h:Sl)=>ah h.a λu=>(0<=c/\c<(h.n:Int))/\bW (ai .i64) f (u.add (c.toNat*1)) λ(v:Int)=>kN (iD [au,au]) 2 n p λ(j:(Sl×Sl))=>Ke.sp j.1 j.2 r.1 c n λ(w:(Sl×Sl)) y=>f y/\E4.sp t v (Qe.wrap (above - 1)) w.1 w.2 low strict y λ(g:(Sl×Int)) z=>br ((!g.1.a.isNone)||(g.2!=0)) (R (g.1,g.2) z) (next (Qe.wrap (c+1)) z)) (R ((Sl.mk none 0 0),(0:Int)) n)))
theorem E4.of:∀{t ag above b a low strict H R},E4.vc t ag above b a low strict H R->E4.sp t ag above b a low strict H R:=bn [(12,[(18,(ai .i64))])] (by kernel_rfl)
def wO.vc (t:Option Addr)(e:Int)(H:aa)(R:Kp Int):Prop:=
 br (e !=0) (ah t λa=>st H (a.add 6) (.int .i64 e) λH1=>R e H1) (R e H)
theorem wO.of:∀{t e H R},wO.vc t e H R->wO.sp t e H R:=bn [] (by kernel_rfl)
def Lb.vc (t:Option Addr)(H:aa)(R:Kp Int):Prop:=
 GL.sp t H λ(e:Int) H1=>br (e !=0) (R e H1) (ah t λa=>ld aq H1 (a.add 0) λ(x:Option Addr)=>ah t λc=>ld dN H1 (c.add 1) λ(d:ByteArray)=>Jl.sp x d H1 λ(b:Int) h=>br (b==0) (ah t λf=>st h (f.add 7) (.bool true) λi=>wO.sp t b i λ(r:Int) j=>R r j) (wO.sp t b h λ(g:Int) k=>R g k))
theorem Lb.of:∀{t H R},Lb.vc t H R->Lb.sp t H R:=bn [] (by kernel_rfl)
def IU.vc (t:Option Addr)(H:aa)(R:Kp Int):Prop:=
 br t.isNone (R (0:Int) H) (ah t λa=>ld aC H (a.add 7) λ(x:Bool)=>br x (R (0:Int) H) (ah t λb=>ld (ai .i64) H (b.add 5) λ(c:Int)=>R c H))
theorem IU.of:∀{t H R},IU.vc t H R->IU.sp t H R:=bn [] (by kernel_rfl)
def JD.vc (s:Sl)(v:Int)(H:aa)(R:Kp Bool):Prop:=
 Ja.sp s v H λ(r:Int) H1=>R (decide (r>=0)) H1
theorem JD.of:∀{s v H R},JD.vc s v H R->JD.sp s v H R:=bn [] (by kernel_rfl)
def Ld.vc (r:Option Addr)(cols:Sl)(H:aa)(R:Kp (Int×Bool)):Prop:=
 ah r λa=>ld au H ((a.add 0).add 3) λ(x:Sl)=>aF Int 0 H λnext z H1=>br (decide (z<(x.n:Int))) (ah x.a λe=>(0<=z/\z<(x.n:Int))/\ld au H1 (e.add (z.toNat*1)) λ(l:Sl)=>(0<=(cols.n:Int)/\(cols.n:Int)<=(l.c:Int))/\aF Int 0 H1 λd b f=>br (decide (b<((((cols.n:Int).toNat) - 0:Nat):Int))) (ah (bF l.a l.c 0 1) λg=>(0<=b/\b<((((cols.n:Int).toNat) - 0:Nat):Int))/\ld (ai .i64) f (g.add (b.toNat*1)) λ(c:Int)=>JD.sp cols c f λ(h:Bool) i=>br (!h) (next (Qe.wrap (z+1)) i) (d (Qe.wrap (b+1)) i)) (R (z,true) f)) (R ((0:Int),false) H1)
theorem Ld.of:∀{r cols H R},Ld.vc r cols H R->Ld.sp r cols H R:=bn [(2,[(16,(ai .i64))]),(5,[(26,(ai .i64))])] (by kernel_rfl)
def Ja.vc (s:Sl)(v:Int)(H:aa)(R:Kp Int):Prop:=
 aF Int 0 H λnext z H1=>br (decide (z<(s.n:Int))) (ah s.a λa=>(0<=z/\z<(s.n:Int))/\ld (ai .i64) H1 (a.add (z.toNat*1)) λ(x:Int)=>br (v==x) (R z H1) (next (Qe.wrap (z+1)) H1)) (R (-1:Int) H1)
theorem Ja.of:∀{s v H R},Ja.vc s v H R->Ja.sp s v H R:=bn [(2,[(8,(ai .i64))])] (by kernel_rfl)
def KX.vc (c:Option Addr)(H:aa)(R:Kp (Sl×Int)):Prop:=
 cut Unit (λJ=>ah c λa=>ld aC H (a.add 9) λ(x:Bool)=>br (!x) (ah c λn=>st H (n.add 9) (.bool true) λC=>ah c λo=>ld au C (o.add 5) λ(i:Sl)=>bI au Qf (Rn cW (.int .i64 (i.n:Int)) (.int .i64 (i.n:Int))) C λ(sl:Sl) I=>ah c λp=>st I (p.add 6) sl.v λD=>ah c λq=>ld au D (q.add 5) λ(s:Sl)=>aF Int 0 D λnext g E=>br (decide (g<(s.n:Int))) (Ip.sp c g E λ(e:Int) F=>br (e !=0) (R ((Sl.mk none 0 0),e) F) (next (Qe.wrap (g+1)) F)) (J () E)) (J () H)) λ(_:Unit) H1=>ah c λt=>ld au H1 (t.add 6) λ(h:Sl)=>aF (Int×Int) ((-1:Int),(0:Int)) H1 λd b f=>br (decide (b.2<(h.n:Int))) (ah h.a λu=>(0<=b.2/\b.2<(h.n:Int))/\ld au f (u.add (b.2.toNat*1)) λ(l:Sl)=>br ((!l.a.isNone)==true) (br (decide (b.1<0)) (d (b.2,Qe.wrap (b.2+1)) f) (ah c λv=>ld au f (v.add 6) λ(j:Sl)=>ah j.a λw=>(0<=b.1/\b.1<(j.n:Int))/\ld au f (w.add (b.1.toNat*1)) λ(y:Sl)=>tN.sp l y f λ(r:Int) G=>br (decide (r<0)) (d (b.2,Qe.wrap (b.2+1)) G) (d (b.1,Qe.wrap (b.2+1)) G))) (d (b.1,Qe.wrap (b.2+1)) f)) (br (decide (b.1<0)) (R ((Sl.mk none 0 0),(0:Int)) f) (ah c λz=>ld au f (z.add 6) λ(k:Sl)=>ah k.a λm=>(0<=b.1/\b.1<(k.n:Int))/\ld au f (m.add (b.1.toNat*1)) λ(A:Sl)=>Ip.sp c b.1 f λ(B:Int) K=>R (A,B) K))
theorem KX.of:∀{c H R},KX.vc c H R->KX.sp c H R:=bn [(100011,[]),(5,[(32,(ai .i64))]),(13,[(6,(ai .i64)),(47,(ai .i64))])] (by kernel_rfl)
def LG.vc (b:Option Addr)(l:Sl)(order:Int)(H:aa)(R:Kp Sl):Prop:=
 ah b λa=>ld (ai .i64) H (a.add 2) λ(x:Int)=>bI au Qf (Rn cv (.int .i64 x) (.int .i64 x)) H λ(out:Sl) H1=>ah b λg=>ld au H1 (g.add 3) λ(e:Sl)=>ah e.a λh=>(0<=order/\order<(e.n:Int))/\ld au H1 (h.add (order.toNat*1)) λ(d:Sl)=>aF Int 0 H1 λnext z f=>br (decide (z<(d.n:Int))) (ah d.a λi=>(0<=z/\z<(d.n:Int))/\ld (ai .i64) f (i.add (z.toNat*1)) λ(c:Int)=>ah l.a λj=>(0<=z/\z<(l.n:Int))/\ld (ai .u64) f (j.add (z.toNat*1)) λ(k:Int)=>ah out.a λm=>(0<=c/\c<(out.n:Int))/\st f (m.add (c.toNat*1)) (.int .u64 k) λn=>next (Qe.wrap (z+1)) n) (R out f)
theorem LG.of:∀{b l order H R},LG.vc b l order H R->LG.sp b l order H R:=bn [(3,[(23,(ai .i64))])] (by kernel_rfl)
def Kg.vc (s1 s2:Sl)(H:aa)(R:Kp Bool):Prop:=
 br ((s1.n:Int)!=(s2.n:Int)) (R false H) (aF Int 0 H λnext z H1=>br (decide (z<(s1.n:Int))) (ah s1.a λa=>(0<=z/\z<(s1.n:Int))/\ld (ai .u64) H1 (a.add (z.toNat*1)) λ(x:Int)=>ah s2.a λb=>(0<=z/\z<(s2.n:Int))/\ld (ai .u64) H1 (b.add (z.toNat*1)) λ(c:Int)=>br (x !=c) (R false H1) (next (Qe.wrap (z+1)) H1)) (R true H1))
theorem Kg.of:∀{s1 s2 H R},Kg.vc s1 s2 H R->Kg.sp s1 s2 H R:=bn [(4,[(13,(ai .i64))])] (by kernel_rfl)
def J4.vc (x:Int)(H:aa)(R:Kp Bool):Prop:=
 R (x !=x) H
theorem J4.of:∀{x H R},J4.vc x H R->J4.sp x H R:=bn [] (by kernel_rfl)
def KR.vc (width:Int)(H:aa)(R:Kp Int):Prop:=
 Ll.sp width H λ(n:Int) H1=>br (n==0) (R (0:Int) H1) (n≠0/\R (Qe.wrap (Qy (504:Int) n)) H1)
theorem KR.of:∀{width H R},KR.vc width H R->KR.sp width H R:=bn [] (by kernel_rfl)
def Lj.vc (l:Sl)(width:Int)(H:aa)(R:Kp Bool):Prop:=
 br ((l.n:Int)!=width) (R false H) (aF Int 0 H λnext c H1=>br (decide (c<width)) (aF (Bool×Int) (false,(0:Int)) H1 λb z d=>br (decide (z.2<width)) (br z.1 (b (true,Qe.wrap (z.2+1)) d) (ah l.a λa=>(0<=z.2/\z.2<(l.n:Int))/\ld (ai .i64) d (a.add (z.2.toNat*1)) λ(x:Int)=>b (x==c,Qe.wrap (z.2+1)) d)) (br (!z.1) (R false d) (next (Qe.wrap (c+1)) d))) (R true H1))
theorem Lj.of:∀{l width H R},Lj.vc l width H R->Lj.sp l width H R:=bn [(4,[(5,(ai .i64))]),(8,[(6,aC),(7,(ai .i64))])] (by kernel_rfl)
def Ik.vc (l x:Sl)(H:aa)(R:Kp Bool):Prop:=
 Km.sp l x H λ(r:Int) H1=>br (decide (r<(l.n:Int))) (ah l.a λa=>(0<=r/\r<(l.n:Int))/\ld au H1 (a.add (r.toNat*1)) λ(b:Sl)=>Ix.sp b x H1 λ(c:Int) d=>R (c==0) d) (R false H1)
theorem Ik.of:∀{l x H R},Ik.vc l x H R->Ik.sp l x H R:=bn [] (by kernel_rfl)
def JN.vc (l x:Sl)(H:aa)(R:Kp Sl):Prop:=
 Km.sp l x H λ(r:Int) H1=>br (decide (r<(l.n:Int))) (ah l.a λa=>(0<=r/\r<(l.n:Int))/\ld au H1 (a.add (r.toNat*1)) λ(h:Sl)=>Ix.sp h x H1 λ(j:Int) C=>br (j==0) (R l C) (bI au Qf (Qo #[cv,cv] cv #[(.slice none 0 0),x.v]) C λ(own:Sl) D=>aB D #[own.v] cv λp E=>bI au Qf (Qo #[cW,cW] cW #[l.v,(.slice (some p) 1 1)]) E λ(b:Sl) F=>aF Int (Qe.wrap ((b.n:Int) - 1)) F λnext i k=>br (decide (i>r)) (ah b.a λm=>(0<=(Qe.wrap (i - 1))/\(Qe.wrap (i - 1))<(b.n:Int))/\ld au k (m.add ((Qe.wrap (i - 1)).toNat*1)) λ(n:Sl)=>ah b.a λo=>(0<=i/\i<(b.n:Int))/\st k (o.add (i.toNat*1)) n.v λG=>next (Qe.wrap (i - 1)) G) (ah b.a λq=>(0<=r/\r<(b.n:Int))/\st k (q.add (r.toNat*1)) own.v λI=>R b I))) (bI au Qf (Qo #[cv,cv] cv #[(.slice none 0 0),x.v]) H1 λ(e:Sl) J=>aB J #[e.v] cv λs t=>bI au Qf (Qo #[cW,cW] cW #[l.v,(.slice (some s) 1 1)]) t λ(c:Sl) u=>aF Int (Qe.wrap ((c.n:Int) - 1)) u λf d g=>br (decide (d>r)) (ah c.a λv=>(0<=(Qe.wrap (d - 1))/\(Qe.wrap (d - 1))<(c.n:Int))/\ld au g (v.add ((Qe.wrap (d - 1)).toNat*1)) λ(w:Sl)=>ah c.a λy=>(0<=d/\d<(c.n:Int))/\st g (y.add (d.toNat*1)) w.v λz=>f (Qe.wrap (d - 1)) z) (ah c.a λA=>(0<=r/\r<(c.n:Int))/\st g (A.add (r.toNat*1)) e.v λB=>R c B))
theorem JN.of:∀{l x H R},JN.vc l x H R->JN.sp l x H R:=bn [(8,[(7,(ai .i64))])] (by kernel_rfl)
def L3.vc (s:Option Addr)(l:Sl)(H:aa)(R:Kp Int):Prop:=
 aB H #[(.pointer s)] yC λp H1=>Mn.sp l (.func (.func Ly.no) #[] #[(.pointer (some p))]) H1 λ(r:Bool) a=>br r (R (2:Int) a) (R (0:Int) a)
theorem L3.of:∀{s l H R},L3.vc s l H R->L3.sp s l H R:=bn [] (by kernel_rfl)
def Ii.vc (d:Option Addr)(H:aa)(R:Kp Int):Prop:=
 br d.isNone (R (1:Int) H) (ah d λa=>ld aC H (a.add 9) λ(x:Bool)=>br x (R (4:Int) H) (R (0:Int) H))
theorem Ii.of:∀{d H R},Ii.vc d H R->Ii.sp d H R:=bn [] (by kernel_rfl)
def Li.vc (x:Int)(H:aa)(R:Kp Bool):Prop:=
 R (x !=x) H
theorem Li.of:∀{x H R},Li.vc x H R->Li.sp x H R:=bn [] (by kernel_rfl)
def Mv.vc (seq:Value)(H:aa)(R:Kp Sl):Prop:=
 LH.sp (Sl.mk none 0 0) seq H λ(r:Sl) H1=>R r H1
theorem Mv.of:∀{seq H R},Mv.vc seq H R->Mv.sp seq H R:=bn [] (by kernel_rfl)
def Hg.vc (l:Nat)(cap:Addr)(H:aa)(R:Kp Unit):Prop:=
 ld au H cap λ(x:Sl)=>aF Int 0 H λnext z H1=>br (decide (z<(x.n:Int))) (ah x.a λa=>(0<=z/\z<(x.n:Int))/\ld (ai .i64) H1 (a.add (z.toNat*1)) λ(v:Int)=>cM Qf l #[(.int .i64 v)] H1 λ(b:Bool) c=>br (!b) (R () c) (next (Qe.wrap (z+1)) c)) (R () H1)
theorem Hg.of:∀{l cap H R},Hg.vc l cap H R->Hg.sp l cap H R:=bn [(1,[(7,(ai .i64))])] (by kernel_rfl)
def Kh.vc (t:Option Addr)(l:Sl)(H:aa)(R:Kp (Bool×Int)):Prop:=
 GL.sp t H λ(e:Int) H1=>br (e !=0) (R (false,e) H1) (ah t λa=>ld (ai .i64) H1 (a.add 2) λ(x:Int)=>br ((l.n:Int)!=x) (R (false,(60:Int)) H1) (ah t λb=>ld (ai .i64) H1 (b.add 3) λ(c:Int)=>ah t λd=>ld (ai .i64) H1 (d.add 4) λ(f:Int)=>E4.sp t c (Qe.wrap (f - 1)) (Sl.mk none 0 0) (Sl.mk none 0 0) l false H1 λ(r:(Sl×Int)) g=>br (r.2!=0) (wO.sp t r.2 g λ(h:Int) j=>R (false,h) j) (br (!r.1.a.isNone) (tN.sp r.1 l g λ(i:Int) k=>R (i==0,(0:Int)) k) (R (false,(0:Int)) g))))
theorem Kh.of:∀{t l H R},Kh.vc t l H R->Kh.sp t l H R:=bn [] (by kernel_rfl)
def K6.vc (p:Option Addr)(H:aa)(R:Kp (Option Addr)):Prop:=
 br p.isNone (R none H) (ah p λa=>ld aq H (a.add 0) λ(x:Option Addr)=>R x H)
theorem K6.of:∀{p H R},K6.vc p H R->K6.sp p H R:=bn [] (by kernel_rfl)
def LP.vc (d:Option Addr)(name:ByteArray)(H:aa)(R:Kp Int):Prop:=
 Ii.sp d H λ(e:Int) H1=>br (e !=0) (R e H1) (ah d λa=>ld dB H1 (a.add 0) λ(x:Option Nat)=>EW (bf [aq,aC]) Qf (RK LK (.map x) (.string name) true) H1 λ(f:(Option Addr×Bool))=>Jh.sp name H1 λ(r:Bool) c=>br (!r) (R (2:Int) c) (br f.2 (R (10:Int) c) (ah d λg=>ld dB c (g.add 0) λ(h:Option Nat)=>Eo c h λ(n:Nat)=>br ((n:Int)==4096) (R (3:Int) c) (FT.sp d c λ(b:Int) i=>br (b==0) (ah d λj=>ld dB i (j.add 0) λ(k:Option Nat)=>aB i #[(.slice none 0 0),(.slice none 0 0),(.slice none 0 0)] MM λp l=>xJ Qf (Sr LK (.map k) (.string name) (.pointer (some p))) l λm=>R b m) (R b i)))))
theorem LP.of:∀{d name H R},LP.vc d name H R->LP.sp d name H R:=bn [] (by kernel_rfl)
def LO.vc (t:Option Addr)(fresh:Bool)(H:aa)(R:Kp Int):Prop:=
 cut (Int×Int) (λJ=>br fresh (ah t λa=>ld aq H (a.add 0) λ(x:Option Addr)=>ah t λF=>ld dN H (F.add 1) λ(I:ByteArray)=>Je.sp x I H λ(r:(Int×Int×Int)) H2=>J (r.1,r.2.2) H2) (ah t λK=>ld aq H (K.add 0) λ(L:Option Addr)=>ah t λM=>ld dN H (M.add 1) λ(N:ByteArray)=>IH.sp L N (0:Int) H λ(i:(Int×Int)) H3=>J (i.1,i.2) H3)) λ(z:(Int×Int)) H1=>br (z.2!=0) (R z.2 H1) (∃G:aa->Prop,G H1/\ah t λO=>bW (ai .i64) G (O.add 2) λ(j:Int)=>ah t λP=>bW (ai .i64) G (P.add 4) λ(k:Int)=>ah t λQ=>bW (ai .i64) G (Q.add 3) λ(l:Int)=>(aB H1 #[(.int .u8 (QF.wrap j)),(.int .u8 (QF.wrap k))] kJ λp H4=>G H4/\IC.sp l H4 λ(S:Sl) H5=>G H5/\bI au Qf (Qo #[jX,jX] jX #[(.slice (some p) 2 2),S.v]) H5 λ(b:Sl) E=>G E/\∃c:aa->Prop,c E/\ah t λT=>bW aq c (T.add 0) λ(U:Option Addr)=>ah t λV=>ld (ai .i64) E (V.add 5) λ(W:Int)=>aB E #[(.int .u64 (Q0.wrap W))] gM λX H7=>c H7/\E9.sp (Sl.mk (some X) 1 1) H7 λ(Y:Sl) H8=>c H8/\bI au Qf (Qo #[jX,jX] jX #[b.v,Y.v]) H8 λ(s:Sl) H9=>c H9/\Hd.sp U z.1 (5:Int) s H9 λ(e:Int) g=>br (e==0) (ah t λZ=>ld aq g (Z.add 0) λ(ae:Option Addr)=>Fh.sp ae z.1 g λ(af:Int) a1=>R af a1) (R e g))/\(IC.sp l H1 λ(a6:Sl) m=>G m/\aB m #[(.int .u8 (QF.wrap j)),(.int .u8 (QF.wrap k))] kJ λa7 n=>G n/\bI au Qf (Qo #[jX,jX] jX #[(.slice (some a7) 2 2),a6.v]) n λ(a8:Sl) f=>G f/\∃d:aa->Prop,d f/\ah t λo=>bW aq d (o.add 0) λ(q:Option Addr)=>ah t λu=>ld (ai .i64) f (u.add 5) λ(v:Int)=>aB f #[(.int .u64 (Q0.wrap v))] gM λba w=>d w/\E9.sp (Sl.mk (some ba) 1 1) w λ(bg:Sl) y=>d y/\bI au Qf (Qo #[jX,jX] jX #[a8.v,bg.v]) y λ(bl:Sl) A=>d A/\Hd.sp q z.1 (5:Int) bl A λ(B:Int) h=>br (B==0) (ah t λC=>ld aq h (C.add 0) λ(D:Option Addr)=>Fh.sp D z.1 h λ(bs:Int) bA=>R bs bA) (R B h)))
theorem LO.of:∀{t fresh H R},LO.vc t fresh H R->LO.sp t fresh H R:=bn [(100005,[(5,(ai .i64)),(6,(ai .i64))]),(300007,[(10,aC),(16,aC)])] (by kernel_rfl)
def yD.vc (t n:Option Addr)(H:aa)(R:Kp Int):Prop:=
 cut (Int×Int) (λJ=>ah n λa=>ld (ai .i64) H (a.add 0) λ(x:Int)=>br (decide (x<0)) (ah t λG=>ld aq H (G.add 0) λ(I:Option Addr)=>ah t λK=>ld dN H (K.add 1) λ(L:ByteArray)=>Je.sp I L H λ(r:(Int×Int×Int)) H2=>ah n λM=>st H2 (M.add 0) (.int .i64 r.2.1) λH3=>J (r.1,r.2.2) H3) (ah t λN=>ld aq H (N.add 0) λ(O:Option Addr)=>ah t λP=>ld dN H (P.add 1) λ(Q:ByteArray)=>ah n λS=>ld (ai .i64) H (S.add 0) λ(T:Int)=>IH.sp O Q T H λ(m:(Int×Int)) H4=>J (m.1,m.2) H4)) λ(z:(Int×Int)) H1=>br (z.2!=0) (R z.2 H1) (aB H1 #[] kJ λo q=>cut (Int×Sl) (λs=>ah n λU=>ld au q (U.add 1) λ(V:Sl)=>br (decide ((V.n:Int)>0)) (ah n λW=>ld au q (W.add 1) λ(X:Sl)=>ah n λY=>ld au q (Y.add 1) λ(Z:Sl)=>aB q #[(.int .u8 (QF.wrap (bm .i64 (X.n:Int) (8:Int)))),(.int .u8 (QF.wrap (Z.n:Int)))] kJ λp H7=>bI au Qf (Qo #[jX,jX] jX #[(.slice (some o) 0 0),(.slice (some p) 2 2)]) H7 λ(b:Sl) H8=>ah n λu=>ld au H8 (u.add 1) λ(i:Sl)=>aF (Sl×Int) (b,(0:Int)) H8 λnext c H9=>br (decide (c.2<(i.n:Int))) (ah i.a λw=>(0<=c.2/\c.2<(i.n:Int))/\ld (ai .i64) H9 (w.add (c.2.toNat*1)) λ(k:Int)=>IC.sp k H9 λ(ae:Sl) af=>bI au Qf (Qo #[jX,jX] jX #[c.1.v,ae.v]) af λ(a1:Sl) a6=>next (a1,Qe.wrap (c.2+1)) a6) (s ((4:Int),c.1) H9)) (s ((3:Int),(Sl.mk (some o) 0 0)) q)) λ(y:(Int×Sl)) H6=>ah n λA=>ld au H6 (A.add 2) λ(f:Sl)=>aF (Sl×Int) (y.2,(0:Int)) H6 λg d h=>br (decide (d.2<(f.n:Int))) (ah f.a λB=>(0<=d.2/\d.2<(f.n:Int))/\ld au h (B.add (d.2.toNat*1)) λ(l:Sl)=>E9.sp l h λ(a7:Sl) a8=>bI au Qf (Qo #[jX,jX] jX #[d.1.v,a7.v]) a8 λ(ba:Sl) bg=>g (ba,Qe.wrap (d.2+1)) bg) (ah t λC=>ld aq h (C.add 0) λ(D:Option Addr)=>Hd.sp D z.1 y.1 d.1 h λ(e:Int) j=>br (e==0) (ah t λE=>ld aq j (E.add 0) λ(F:Option Addr)=>Fh.sp F z.1 j λ(bl:Int) bs=>R bl bs) (R e j)))
theorem yD.of:∀{t n H R},yD.vc t n H R->yD.sp t n H R:=bn [(100005,[(5,(ai .i64)),(6,(ai .i64))]),(100016,[(7,(ai .u8)),(8,au)]),(12,[(8,au),(81,(ai .i64))]),(17,[(8,au),(95,(ai .i64))])] (by kernel_rfl)
def IQ.vc (i:Int)(H:aa)(R:Kp ByteArray):Prop:=
 IW.sp i (10:Int) H λ(r:ByteArray) H1=>R r H1
theorem IQ.of:∀{i H R},IQ.vc i H R->IQ.sp i H R:=bn [] (by kernel_rfl)
def GR.vc (t:Option Addr)(ag above:Int)(s_ S l:Sl)(H:aa)(R:Kp (Bool×Option Addr×Sl×Int)):Prop:=
 aB H #[s_.v,S.v] AP λp H1=>kN (iD [au,au]) 2 H1 p λ(x:(Sl×Sl))=>JF.sp t ag above x.1 x.2 H1 λ(r:(Option Addr×Int)) P=>br (r.2!=0) (R (false,none,(Sl.mk none 0 0),r.2) P) (cut Unit (λJ=>br (above==0) (ah r.1 λa=>ld au P (a.add 2) λ(T:Sl)=>Io.sp T l P λ(q:(Int×Bool)) U=>br q.2 (R (false,none,(Sl.mk none 0 0),(0:Int)) U) (ah r.1 λV=>ld au U (V.add 2) λ(W:Sl)=>aB U #[l.v] cv λX H5=>IF.sp W q.1 (Sl.mk (some X) 1 1) H5 λ(Y:Sl) H6=>ah r.1 λZ=>st H6 (Z.add 2) Y.v λH7=>J () H7)) (KH.sp r.1 l P λ(i:Int) H8=>∃G:aa->Prop,G H8/\ah r.1 λae=>bW au G (ae.add 1) λ(s:Sl)=>ah s.a λaf=>(0<=i/\i<(s.n:Int))/\bW (ai .i64) G (af.add (i.toNat*1)) λ(a1:Int)=>kN (iD [au,au]) 2 H8 p λ(u:(Sl×Sl))=>Ke.sp u.1 u.2 r.1 i H8 λ(w:(Sl×Sl)) H9=>G H9/\GR.sp t a1 (Qe.wrap (above - 1)) w.1 w.2 l H9 λ(b:(Bool×Option Addr×Sl×Int)) g=>br (b.2.2.2!=0) (R (b.1,none,(Sl.mk none 0 0),b.2.2.2) g) (br b.2.1.isNone (R (b.1,none,(Sl.mk none 0 0),b.2.2.2) g) (ah r.1 λa6=>ld au g (a6.add 2) λ(a7:Sl)=>aB g #[b.2.2.1.v] cv λa8 ba=>IF.sp a7 i (Sl.mk (some a8) 1 1) ba λ(bg:Sl) bl=>ah r.1 λbs=>st bl (bs.add 2) bg.v λj=>∃k:aa->Prop,k j/\ah r.1 λbA=>bW au k (bA.add 1) λ(bB:Sl)=>ah b.2.1 λbC=>ld (ai .i64) j (bC.add 0) λ(bD:Int)=>aB j #[(.int .i64 bD)] bT λbE y=>k y/\MF.sp bB (Qe.wrap (i+1)) (Sl.mk (some bE) 1 1) y λ(bG:Sl) b0=>ah r.1 λb1=>st b0 (b1.add 1) bG.v λb3=>J () b3)))) λ(_:Unit) Q=>cut (Option Addr×Sl) (λf=>∃c:aa->Prop,c Q/\br (above==0) (ah r.1 λz=>bW au c (z.add 2) λ(b4:Sl)=>ah t λA=>ld (ai .i64) Q (A.add 2) λ(B:Int)=>HX.sp B Q λ(b5:Int) m=>c m/\br (decide ((b4.n:Int)>b5)) (Be.sp t r.1 m λ(h:(Option Addr×Sl×Int)) C=>br (h.2.2!=0) (R (false,none,(Sl.mk none 0 0),h.2.2) C) (f (h.1,h.2.1) C)) (ah r.1 λD=>bW au c (D.add 1) λ(E:Sl)=>E3.sp t m λ(b6:Int) n=>c n/\br (decide ((E.n:Int)>b6)) (Be.sp t r.1 n λ(d:(Option Addr×Sl×Int)) F=>br (d.2.2!=0) (R (false,none,(Sl.mk none 0 0),d.2.2) F) (f (d.1,d.2.1) F)) (f (none,(Sl.mk none 0 0)) n))) (ah r.1 λI=>bW au c (I.add 1) λ(K:Sl)=>E3.sp t Q λ(L:Int) o=>c o/\br (decide ((K.n:Int)>L)) (Be.sp t r.1 o λ(e:(Option Addr×Sl×Int)) M=>br (e.2.2!=0) (R (false,none,(Sl.mk none 0 0),e.2.2) M) (f (e.1,e.2.1) M)) (f (none,(Sl.mk none 0 0)) o))) λ(N:(Option Addr×Sl)) b7=>yD.sp t r.1 b7 λ(O:Int) b8=>R (true,N.1,N.2,O) b8)
theorem GR.of:∀{t ag above b a l H R},GR.vc t ag above b a l H R->GR.sp t ag above b a l H R:=bn [(100015,[]),(100021,[(23,aq),(24,au)])] (by kernel_rfl)
def JF.vc (t:Option Addr)(ag above:Int)(T o:Sl)(H:aa)(R:Kp (Option Addr×Int)):Prop:=
 aB H #[T.v,o.v] AP λp H1=>Ks.sp t ag H1 λ(r:(Int×Sl×Int)) q=>br (r.2.2==12) (R (none,(280:Int)) q) (br (r.2.2!=0) (R (none,r.2.2) q) (aB q #[(.int .i64 ag),(.slice none 0 0),(.slice none 0 0)] rq λb i=>cut Sl (λJ=>br ((r.1==3)&&(above==0)) (J r.2.1 i) (br (((r.1==4)&&(decide (above>0)))&&(decide ((r.2.1.n:Int)>=2))) (ah r.2.1.a λa=>(0<=(0:Int)/\(0:Int)<(r.2.1.n:Int))/\ld (ai .u8) i (a.add ((0:Int).toNat*1)) λ(x:Int)=>ah r.2.1.a λu=>(0<=(1:Int)/\(1:Int)<(r.2.1.n:Int))/\ld (ai .u8) i (u.add ((1:Int).toNat*1)) λ(d:Int)=>br ((decide ((nL .i64 (eZ .i64 (Qe.wrap x) (8:Int)) (Qe.wrap d))<2))||(decide ((r.2.1.n:Int)<(Qe.wrap ((2:Int)+(Qe.wrap ((4:Int)*(nL .i64 (eZ .i64 (Qe.wrap x) (8:Int)) (Qe.wrap d))))))))) (R (none,(280:Int)) i) (aF Int 0 i λnext e w=>br (decide (e<(nL .i64 (eZ .i64 (Qe.wrap x) (8:Int)) (Qe.wrap d)))) (∃G:aa->Prop,G w/\bW au G (b.add 1) λ(y:Sl)=>(0<=(Qe.wrap ((2:Int)+(Qe.wrap ((4:Int)*e))))/\(Qe.wrap ((2:Int)+(Qe.wrap ((4:Int)*e))))<=(r.2.1.n:Int))/\LF.sp (Sl.mk (bF r.2.1.a r.2.1.c ((Qe.wrap ((2:Int)+(Qe.wrap ((4:Int)*e)))).toNat) 1) (r.2.1.n - ((Qe.wrap ((2:Int)+(Qe.wrap ((4:Int)*e)))).toNat)) (r.2.1.c - ((Qe.wrap ((2:Int)+(Qe.wrap ((4:Int)*e)))).toNat))) w λ(A:Int) P=>G P/\aB P #[(.int .i64 A)] bT λB Q=>G Q/\bI au Qf (Qo #[dX,dX] dX #[y.v,(.slice (some B) 1 1)]) Q λ(s:Sl) U=>st U (b.add 1) s.v λV=>next (Qe.wrap (e+1)) V) ((0<=(Qe.wrap ((2:Int)+(Qe.wrap ((4:Int)*(nL .i64 (eZ .i64 (Qe.wrap x) (8:Int)) (Qe.wrap d))))))/\(Qe.wrap ((2:Int)+(Qe.wrap ((4:Int)*(nL .i64 (eZ .i64 (Qe.wrap x) (8:Int)) (Qe.wrap d))))))<=(r.2.1.n:Int))/\J (Sl.mk (bF r.2.1.a r.2.1.c ((Qe.wrap ((2:Int)+(Qe.wrap ((4:Int)*(nL .i64 (eZ .i64 (Qe.wrap x) (8:Int)) (Qe.wrap d)))))).toNat) 1) (r.2.1.n - ((Qe.wrap ((2:Int)+(Qe.wrap ((4:Int)*(nL .i64 (eZ .i64 (Qe.wrap x) (8:Int)) (Qe.wrap d)))))).toNat)) (r.2.1.c - ((Qe.wrap ((2:Int)+(Qe.wrap ((4:Int)*(nL .i64 (eZ .i64 (Qe.wrap x) (8:Int)) (Qe.wrap d)))))).toNat))) w))) (R (none,(280:Int)) i))) λ(z:Sl) S=>cut Unit (λj=>ah t λC=>ld (ai .i64) S (C.add 2) λ(D:Int)=>K7.sp z D S λ(k:(Sl×Int)) E=>st E (b.add 2) k.1.v λf=>br (k.2!=0) (R (none,(280:Int)) f) (ld au f (b.add 1) λ(F:Sl)=>br (decide ((F.n:Int)>0)) (ld au f (b.add 2) λ(I:Sl)=>ld au f (b.add 1) λ(K:Sl)=>br ((I.n:Int)!=(Qe.wrap ((K.n:Int) - 1))) (R (none,(280:Int)) f) (j () f)) (j () f))) λ(_:Unit) h=>kN (iD [au,au]) 2 h p λ(l:(Sl×Sl))=>ld au h (b.add 2) λ(L:Sl)=>Lx.sp l.1 l.2 L h λ(M:Bool) g=>br (!M) (R (none,(280:Int)) g) (ld au g (b.add 2) λ(N:Sl)=>br ((N.n:Int)==0) (ah t λO=>ld (ai .i64) g (O.add 4) λ(m:Int)=>br (decide (m>1)) (R (none,(280:Int)) g) (R (some b,(0:Int)) g)) (R (some b,(0:Int)) g))))
theorem JF.of:∀{t ag above b a H R},JF.vc t ag above b a H R->JF.sp t ag above b a H R:=bn [(100019,[(11,au)]),(14,[(73,(ai .i64))]),(100022,[])] (by kernel_rfl)
def Io.vc (x target:Sl)(H:aa)(R:Kp (Int×Bool)):Prop:=
 aF (Int×Int) ((0:Int),(x.n:Int)) H λnext z H1=>br (decide (z.1<z.2)) (ah x.a λa=>(0<=(Qe.wrap (bm .u64 (Q0.wrap (Qe.wrap (z.1+z.2))) (1:Int)))/\(Qe.wrap (bm .u64 (Q0.wrap (Qe.wrap (z.1+z.2))) (1:Int)))<(x.n:Int))/\ld au H1 (a.add ((Qe.wrap (bm .u64 (Q0.wrap (Qe.wrap (z.1+z.2))) (1:Int))).toNat*1)) λ(b:Sl)=>tN.sp b target H1 λ(r:Int) f=>br (decide (r<0)) (next (Qe.wrap ((Qe.wrap (bm .u64 (Q0.wrap (Qe.wrap (z.1+z.2))) (1:Int)))+1),z.2) f) (next (z.1,Qe.wrap (bm .u64 (Q0.wrap (Qe.wrap (z.1+z.2))) (1:Int))) f)) (br (decide (z.1<(x.n:Int))) (ah x.a λc=>(0<=z.1/\z.1<(x.n:Int))/\ld au H1 (c.add (z.1.toNat*1)) λ(d:Sl)=>tN.sp d target H1 λ(e:Int) g=>R (z.1,e==0) g) (R (z.1,false) H1))
theorem Io.of:∀{x target H R},Io.vc x target H R->Io.sp x target H R:=bn [(3,[(9,(ai .i64)),(10,(ai .i64))])] (by kernel_rfl)
def KH.vc (n:Option Addr)(l:Sl)(H:aa)(R:Kp Int):Prop:=
 ah n λa=>ld au H (a.add 2) λ(x:Sl)=>Io.sp x l H λ(r:(Int×Bool)) H1=>br r.2 (R (Qe.wrap (r.1+1)) H1) (R r.1 H1)
theorem KH.of:∀{n l H R},KH.vc n l H R->KH.sp n l H R:=bn [] (by kernel_rfl)
def Ke.vc (u h:Sl)(n:Option Addr)(i:Int)(H:aa)(R:Kp (Sl×Sl)):Prop:=
 aB H #[u.v,h.v] AP λp H1=>aB H1 (zc Qf AP) AP λb g=>cut Unit (λJ=>br (decide (i>0)) (ah n λa=>ld au g (a.add 2) λ(x:Sl)=>ah x.a λj=>(0<=(Qe.wrap (i - 1))/\(Qe.wrap (i - 1))<(x.n:Int))/\ld au g (j.add ((Qe.wrap (i - 1)).toNat*1)) λ(k:Sl)=>st g (p.add 0) k.v λw=>J () w) (J () g)) λ(_:Unit) c=>cut Unit (λd=>ah n λl=>ld au c (l.add 2) λ(m:Sl)=>br (decide (i<(m.n:Int))) (ah n λo=>ld au c (o.add 2) λ(e:Sl)=>ah e.a λq=>(0<=i/\i<(e.n:Int))/\ld au c (q.add (i.toNat*1)) λ(r:Sl)=>st c (p.add 1) r.v λy=>d () y) (d () c)) λ(_:Unit) s=>kN (iD [au,au]) 2 s p λ(f:(Sl×Sl))=>xJ Qf (RL AP (.pointer (some b)) (.agg #[f.1.v,f.2.v])) s λt=>kN (iD [au,au]) 2 t b λ(res:(Sl×Sl))=>R (res.1,res.2) t
theorem Ke.of:∀{b a n i H R},Ke.vc b a n i H R->Ke.sp b a n i H R:=bn [(100003,[]),(100005,[])] (by kernel_rfl)
def Jl.vc (p:Option Addr)(name:ByteArray)(H:aa)(R:Kp Int):Prop:=
 Fj.sp p H λ(e:Int) H1=>br (e !=0) (R e H1) (ah p λa=>ld aq H1 (a.add 0) λ(x:Option Addr)=>IB.sp x name H1 λ(r:(Int×Int)) s=>br (r.2!=0) (AM.sp p r.2 s λ(d:Int) u=>R d u) (LY.sp p name s λ(l:Sl) v=>K9.sp l v λ(g:Bool) t=>br g (R (31:Int) t) (aF Int 0 t λnext z b=>br (decide (z<(l.n:Int))) (ah l.a λh=>(0<=z/\z<(l.n:Int))/\ld aq b (h.add (z.toNat*1)) λ(f:Option Addr)=>ah p λi=>ld dB b (i.add 2) λ(j:Option Nat)=>ah f λk=>kN (iD [dN,(ai .i64)]) 2 b (k.add 0) λ(c:(ByteArray×Int))=>bI jF Qf (RN #[AN,yE] J3 #[(.map j),(.agg #[(.string c.1),(.int .i64 c.2)])]) b λ(_:Value) w=>next (Qe.wrap (z+1)) w) (ah p λm=>ld aq b (m.add 0) λ(n:Option Addr)=>Lp.sp n name b λ(o:Int) y=>AM.sp p o y λ(q:Int) A=>R q A))))
theorem Jl.of:∀{p name H R},Jl.vc p name H R->Jl.sp p name H R:=bn [(11,[(37,(ai .i64))])] (by kernel_rfl)
def Ip.vc (c:Option Addr)(i:Int)(H:aa)(R:Kp Int):Prop:=
 ah c λa=>ld au H (a.add 5) λ(x:Sl)=>ah x.a λe=>(0<=i/\i<(x.n:Int))/\ld aq H (e.add (i.toNat*1)) λ(f:Option Addr)=>Is.sp f H λ(r:(Sl×Bool×Int)) H1=>ah c λg=>ld au H1 (g.add 6) λ(b:Sl)=>ah b.a λh=>(0<=i/\i<(b.n:Int))/\st H1 (h.add (i.toNat*1)) (.slice none 0 0) λj=>br ((r.2.2==0)&&r.2.1) (ah c λk=>ld au j (k.add 2) λ(l:Sl)=>K5.sp r.1 l j λ(m:Bool) o=>br m (∃G:aa->Prop,G o/\ah c λp=>bW au G (p.add 6) λ(d:Sl)=>bI au Qf (Rn cv (.int .i64 0) (.int .i64 (Qe.wrap ((r.1.n:Int)+1)))) o λ(sl:Sl) t=>G t/\bI au Qf (Qo #[cv,cv] cv #[sl.v,r.1.v]) t λ(s:Sl) u=>G u/\ah d.a λq=>(0<=i/\i<(d.n:Int))/\st u (q.add (i.toNat*1)) s.v λw=>R r.2.2 w) (R r.2.2 o)) (R r.2.2 j)
theorem Ip.of:∀{c i H R},Ip.vc c i H R->Ip.sp c i H R:=bn [] (by kernel_rfl)
def Ll.vc (width:Int)(H:aa)(R:Kp Int):Prop:=
 br ((decide (width<0))||(decide (width>16))) (R (0:Int) H) (R (if (Qe.wrap ((8:Int)*width))>1 then (Qe.wrap ((8:Int)*width)) else (1:Int)) H)
theorem Ll.of:∀{width H R},Ll.vc width H R->Ll.sp width H R:=bn [] (by kernel_rfl)
def Km.vc (l x:Sl)(H:aa)(R:Kp Int):Prop:=
 aF (Int×Int) ((0:Int),(l.n:Int)) H λnext z H1=>br (decide (z.1<z.2)) (ah l.a λa=>(0<=(Qe.wrap (Qy (Qe.wrap (z.1+z.2)) (2:Int)))/\(Qe.wrap (Qy (Qe.wrap (z.1+z.2)) (2:Int)))<(l.n:Int))/\ld au H1 (a.add ((Qe.wrap (Qy (Qe.wrap (z.1+z.2)) (2:Int))).toNat*1)) λ(b:Sl)=>Ix.sp b x H1 λ(r:Int) c=>br (decide (r<0)) (next (Qe.wrap ((Qe.wrap (Qy (Qe.wrap (z.1+z.2)) (2:Int)))+1),z.2) c) (next (z.1,Qe.wrap (Qy (Qe.wrap (z.1+z.2)) (2:Int))) c)) (R z.1 H1)
theorem Km.of:∀{l x H R},Km.vc l x H R->Km.sp l x H R:=bn [(2,[(5,(ai .i64)),(6,(ai .i64))])] (by kernel_rfl)
def Mn.vc (s:Sl)(f:Value)(H:aa)(R:Kp Bool):Prop:=
 Nc.sp s f H λ(r:Int) H1=>R (decide (r>=0)) H1
theorem Mn.of:∀{s f H R},Mn.vc s f H R->Mn.sp s f H R:=bn [] (by kernel_rfl)
def Ly.vc (c:Int)(cap:Addr)(H:aa)(R:Kp Bool):Prop:=
 br (decide (c<0)) (R true H) (ld aq H cap λ(x:Option Addr)=>xI.sp x H λ(r:Int) H1=>R (decide (c>=r)) H1)
theorem Ly.of:∀{c cap H R},Ly.vc c cap H R->Ly.sp c cap H R:=bn [] (by kernel_rfl)
def LH.vc (s:Sl)(seq:Value)(H:aa)(R:Kp Sl):Prop:=
 aB H #[s.v] dX λp H1=>pZ Qf seq H1 (λl rec vs b h=>jz (dD.dec [(ai .i64)] vs) λ(z:Int)=>b[l]?=some (.loop (rec .ready none))/\ld au (b.setIfInBounds l (.loop (rec .busy none))) p λ(x:Sl)=>aB (b.setIfInBounds l (.loop (rec .busy none))) #[(.int .i64 z)] bT λc j=>bI au Qf (Qo #[dX,dX] dX #[x.v,(.slice (some c) 1 1)]) j λ(d:Sl) k=>st k p d.v λg=>g[l]?=some (.loop (rec .busy none))/\h true (g.setIfInBounds l (.loop (rec .ready none)))) (λr a=>ld au a p λ(e:Sl)=>a[r]?=some (.deferred (some []))/\R e (a.setIfInBounds r (.deferred none))) (λi r a=>bif QQ i 0 then ld au a p λ(f:Sl)=>a[r]?=some (.deferred (some []))/\R f (a.setIfInBounds r (.deferred none)) else False) (λr a=>a[r]?=some (.deferred (some []))/\R (Sl.mk none 0 0) (a.setIfInBounds r (.deferred none)))
theorem LH.of:∀{s seq H R},LH.vc s seq H R->LH.sp s seq H R:=bn [(200003,[(7,(ai .i64))])] (by kernel_rfl)
def Jh.vc (s:ByteArray)(H:aa)(R:Kp Bool):Prop:=
 R ((!(s.toList==ByteArray.empty.toList))&&(decide ((s.size:Int)<=100))) H
theorem Jh.of:∀{s H R},Jh.vc s H R->Jh.sp s H R:=bn [] (by kernel_rfl)
def FT.vc (d:Option Addr)(H:aa)(R:Kp Int):Prop:=
 ah d λa=>ld aC H ((a.add 6).add 0) λ(x:Bool)=>br x (ah d λb=>ld (ai .i64) H ((b.add 6).add 1) λ(c:Int)=>br (c==0) (ah d λe=>st H (e.add 9) (.bool true) λH1=>R (4:Int) H1) (ah d λf=>ld (ai .i64) H ((f.add 6).add 1) λ(g:Int)=>ah d λh=>st H ((h.add 6).add 1) (.int .i64 (Qe.wrap (g - 1))) λo=>ah d λi=>ld (ai .i64) o (i.add 4) λ(j:Int)=>ah d λk=>st o (k.add 4) (.int .i64 (Qe.wrap (j+1))) λp=>R (0:Int) p)) (ah d λl=>ld (ai .i64) H (l.add 4) λ(m:Int)=>ah d λn=>st H (n.add 4) (.int .i64 (Qe.wrap (m+1))) λq=>R (0:Int) q)
theorem FT.of:∀{d H R},FT.vc d H R->FT.sp d H R:=bn [] (by kernel_rfl)
def Je.vc (p:Option Addr)(name:ByteArray)(H:aa)(R:Kp (Int×Int×Int)):Prop:=
 Fj.sp p H λ(e:Int) H1=>br (e !=0) (R ((0:Int),(0:Int),e) H1) (ah p λa=>ld aq H1 (a.add 0) λ(x:Option Addr)=>IB.sp x name H1 λ(r:(Int×Int)) z=>br (r.2==0) (JX.sp p z λ(c:Int) B=>aB B #[(.string name),(.int .i64 r.1),(.int .u8 0),(.slice none 0 0),(.bool false),(.int .i64 0),(.int .i64 0)] MG λd j=>br (c==0) (FA.sp p (some d) j λ(g:Int) A=>br (g !=0) (AM.sp p g A λ(k:Int) C=>R ((0:Int),(0:Int),k) C) (Dm.sp p (some d) A λ(l:Int) D=>R (l,r.1,(0:Int)) D)) (br (c !=0) (AM.sp p c j λ(m:Int) E=>R ((0:Int),(0:Int),m) E) (Dm.sp p (some d) j λ(n:Int) F=>R (n,r.1,(0:Int)) F))) (aB z #[(.string name),(.int .i64 r.1),(.int .u8 0),(.slice none 0 0),(.bool false),(.int .i64 0),(.int .i64 0)] MG λb f=>br (r.2==0) (FA.sp p (some b) f λ(h:Int) i=>br (h !=0) (AM.sp p h i λ(o:Int) q=>R ((0:Int),(0:Int),o) q) (Dm.sp p (some b) i λ(s:Int) t=>R (s,r.1,(0:Int)) t)) (br (r.2!=0) (AM.sp p r.2 f λ(u:Int) v=>R ((0:Int),(0:Int),u) v) (Dm.sp p (some b) f λ(w:Int) y=>R (w,r.1,(0:Int)) y))))
theorem Je.of:∀{p name H R},Je.vc p name H R->Je.sp p name H R:=bn [] (by kernel_rfl)
def IH.vc (p:Option Addr)(name:ByteArray)(ag:Int)(H:aa)(R:Kp (Int×Int)):Prop:=
 Fj.sp p H λ(e:Int) H1=>br (e !=0) (R ((0:Int),e) H1) (aB H1 (zc Qf yE) yE λb l=>xJ Qf (RL yE (.pointer (some b)) (.agg #[(.string name),(.int .i64 ag)])) l λd=>ah p λa=>ld dB d (a.add 2) λ(x:Option Nat)=>kN (iD [dN,(ai .i64)]) 2 d b λ(f:(ByteArray×Int))=>EW (bf [aq,aC]) Qf (RK AN (.map x) (.agg #[(.string f.1),(.int .i64 f.2)]) true) d λ(g:(Option Addr×Bool))=>br g.2 (GJ.sp p g.1 d λ(r:Int) m=>R (r,(0:Int)) m) (kN (iD [dN,(ai .i64)]) 2 d b λ(h:(ByteArray×Int))=>LC.sp p h.1 h.2 d λ(c:(Option Addr×Int)) k=>br (c.2!=0) (AM.sp p c.2 k λ(i:Int) n=>R ((0:Int),i) n) (Dm.sp p c.1 k λ(j:Int) o=>R (j,(0:Int)) o)))
theorem IH.of:∀{p name ag H R},IH.vc p name ag H R->IH.sp p name ag H R:=bn [] (by kernel_rfl)
def IC.vc (n:Int)(H:aa)(R:Kp Sl):Prop:=
 aB H #[(.int .u8 (QF.wrap (bm .i64 n (24:Int)))),(.int .u8 (QF.wrap (bm .i64 n (16:Int)))),(.int .u8 (QF.wrap (bm .i64 n (8:Int)))),(.int .u8 (QF.wrap n))] kJ λp H1=>R (Sl.mk (some p) 4 4) H1
theorem IC.of:∀{n H R},IC.vc n H R->IC.sp n H R:=bn [] (by kernel_rfl)
def Hd.vc (p:Option Addr)(h kind:Int)(b:Sl)(H:aa)(R:Kp Int):Prop:=
 Iq.sp p h H λ(r:(Option Addr×Int)) H1=>br (r.2!=0) (R r.2 H1) (br (decide ((b.n:Int)>504)) (R (2:Int) H1) (EU.sp b H1 λ(c:Sl) f=>ah r.1 λa=>st f (a.add 2) (.int .u8 kind) λg=>ah r.1 λd=>st g (d.add 3) c.v λi=>ah r.1 λe=>st i (e.add 4) (.bool true) λj=>R (0:Int) j))
theorem Hd.of:∀{p h kind b H R},Hd.vc p h kind b H R->Hd.sp p h kind b H R:=bn [] (by kernel_rfl)
def E9.vc (l:Sl)(H:aa)(R:Kp Sl):Prop:=
 br ((l.n:Int)==0) (aB H #[(.int .u8 0)] kJ λp H1=>R (Sl.mk (some p) 1 1) H1) (bI au Qf (Rn jX (.int .i64 0) (.int .i64 (Qe.wrap ((8:Int)*(l.n:Int))))) H λ(out:Sl) e=>aF (Sl×Int) (out,(0:Int)) e λnext z d=>br (decide (z.2<(l.n:Int))) (ah l.a λa=>(0<=z.2/\z.2<(l.n:Int))/\ld (ai .u64) d (a.add (z.2.toNat*1)) λ(n:Int)=>K0.sp (zc Qf Ig) n d λ(r:Array Value) f=>aB f (zc Qf Ig) Ig λc g=>xJ Qf (RL Ig (.pointer (some c)) (.agg r)) g λh=>bI au Qf (Qo #[jX,jX] jX #[z.1.v,(.slice (bF (some c) 8 0 1) (8 - 0) (8 - 0))]) h λ(b:Sl) i=>next (b,Qe.wrap (z.2+1)) i) (R z.1 d))
theorem E9.of:∀{l H R},E9.vc l H R->E9.sp l H R:=bn [(5,[(3,au),(17,(ai .i64))])] (by kernel_rfl)
def Fh.vc (p:Option Addr)(h:Int)(H:aa)(R:Kp Int):Prop:=
 Iq.sp p h H λ(r:(Option Addr×Int)) H1=>br (r.2!=0) (R r.2 H1) (ah p λa=>ld dB H1 (a.add 3) λ(x:Option Nat)=>bI jF Qf (RN #[NP,bT] J3 #[(.map x),(.int .i64 h)]) H1 λ(_:Value) m=>ah p λb=>ld (ai .i64) m (b.add 5) λ(c:Int)=>ah p λd=>st m (d.add 5) (.int .i64 (Qe.wrap (c+1))) λe=>ah r.1 λf=>ld (ai .i64) e (f.add 5) λ(g:Int)=>ah p λi=>ld (ai .i64) e (i.add 5) λ(j:Int)=>ah r.1 λk=>st e (k.add 5) (.int .i64 (Qe.wrap (g - 1))) λn=>ah r.1 λl=>st n (l.add 6) (.int .i64 j) λo=>R (0:Int) o)
theorem Fh.of:∀{p h H R},Fh.vc p h H R->Fh.sp p h H R:=bn [] (by kernel_rfl)
def IW.vc (i base:Int)(H:aa)(R:Kp ByteArray):Prop:=
 br (base==10) (br ((decide ((0:Int)<=i))&&(decide (i<100))) (MJ.sp i H λ(r:ByteArray) H1=>R r H1) (aB H (zc Qf M9) M9 λp h=>br (decide (i<0)) (KE.sp (Q0.wrap (0 - (Q0.wrap i))) h λ(b:Int) l=>(0<=(Qe.wrap ((1:Int)+b))/\(Qe.wrap ((1:Int)+b))<=24)/\(0<=(1:Int)/\(1:Int)<=(Qe.wrap ((1:Int)+b)))/\KB.sp (Sl.mk (bF (some p) 24 ((1:Int).toNat) 1) (((Qe.wrap ((1:Int)+b)).toNat) - ((1:Int).toNat)) (24 - ((1:Int).toNat))) (Q0.wrap (0 - (Q0.wrap i))) l λ(_:Unit) e=>br (decide (i<0)) ((0<=(0:Int)/\(0:Int)<((24:Nat):Int))/\st e (p.add ((0:Int).toNat*1)) (.int .u8 45) λj=>(0<=(Qe.wrap ((1:Int)+b))/\(Qe.wrap ((1:Int)+b))<=24)/\Nt j (bF (some p) 24 0 1) (((Qe.wrap ((1:Int)+b)).toNat) - 0) λ(str:ByteArray)=>R str j) ((0<=(Qe.wrap ((1:Int)+b))/\(Qe.wrap ((1:Int)+b))<=24)/\(0<=(1:Int)/\(1:Int)<=(Qe.wrap ((1:Int)+b)))/\Nt e (bF (some p) 24 ((1:Int).toNat) 1) (((Qe.wrap ((1:Int)+b)).toNat) - ((1:Int).toNat)) λ(str_1:ByteArray)=>R str_1 e)) (KE.sp (Q0.wrap i) h λ(a:Int) m=>(0<=(Qe.wrap ((1:Int)+a))/\(Qe.wrap ((1:Int)+a))<=24)/\(0<=(1:Int)/\(1:Int)<=(Qe.wrap ((1:Int)+a)))/\KB.sp (Sl.mk (bF (some p) 24 ((1:Int).toNat) 1) (((Qe.wrap ((1:Int)+a)).toNat) - ((1:Int).toNat)) (24 - ((1:Int).toNat))) (Q0.wrap i) m λ(_:Unit) f=>br (decide (i<0)) ((0<=(0:Int)/\(0:Int)<((24:Nat):Int))/\st f (p.add ((0:Int).toNat*1)) (.int .u8 45) λk=>(0<=(Qe.wrap ((1:Int)+a))/\(Qe.wrap ((1:Int)+a))<=24)/\Nt k (bF (some p) 24 0 1) (((Qe.wrap ((1:Int)+a)).toNat) - 0) λ(c:ByteArray)=>R c k) ((0<=(Qe.wrap ((1:Int)+a))/\(Qe.wrap ((1:Int)+a))<=24)/\(0<=(1:Int)/\(1:Int)<=(Qe.wrap ((1:Int)+a)))/\Nt f (bF (some p) 24 ((1:Int).toNat) 1) (((Qe.wrap ((1:Int)+a)).toNat) - ((1:Int).toNat)) λ(d:ByteArray)=>R d f)))) (Pp.sp (Sl.mk none 0 0) (Q0.wrap i) base (decide (i<0)) false H λ(g:(Sl×ByteArray)) n=>R g.2 n)
theorem IW.of:∀{i base H R},IW.vc i base H R->IW.sp i base H R:=bn [] (by kernel_rfl)
def IF.vc (s:Sl)(i:Int)(v:Sl)(H:aa)(R:Kp Sl):Prop:=
 (0<=i/\i<=(s.n:Int))/\br ((v.n:Int)==0) (R s H) (br (i==(s.n:Int)) (bI au Qf (Qo #[cW,cW] cW #[s.v,v.v]) H λ(a:Sl) H1=>R a H1) (br (decide ((Qe.wrap ((s.n:Int)+(v.n:Int)))>(s.c:Int))) ((0<=i/\i<=(s.c:Int))/\bI au Qf (Qo #[cW,bT] cW #[(.slice (bF s.a s.c 0 1) (i.toNat - 0) (s.c - 0)),(.int .i64 (Qe.wrap ((Qe.wrap ((s.n:Int)+(v.n:Int))) - i)))]) H λ(s2:Sl) c=>(0<=i/\i<=(s2.n:Int))/\bI (ai .i64) Qf (Rh #[cW,cW] bT #[(.slice (bF s2.a s2.c i.toNat 1) (s2.n - i.toNat) (s2.c - i.toNat)),v.v]) c λ(_:Int) d=>(0<=(Qe.wrap (i+(v.n:Int)))/\(Qe.wrap (i+(v.n:Int)))<=(s2.n:Int))/\(0<=i/\i<=(s.n:Int))/\bI (ai .i64) Qf (Rh #[cW,cW] bT #[(.slice (bF s2.a s2.c ((Qe.wrap (i+(v.n:Int))).toNat) 1) (s2.n - ((Qe.wrap (i+(v.n:Int))).toNat)) (s2.c - ((Qe.wrap (i+(v.n:Int))).toNat))),(.slice (bF s.a s.c i.toNat 1) (s.n - i.toNat) (s.c - i.toNat))]) d λ(_:Int) e=>R s2 e) ((0<=(Qe.wrap ((s.n:Int)+(v.n:Int)))/\(Qe.wrap ((s.n:Int)+(v.n:Int)))<=(s.c:Int))/\(0<=(Qe.wrap (i+(v.n:Int)))/\(Qe.wrap (i+(v.n:Int)))<=((((Qe.wrap ((s.n:Int)+(v.n:Int))).toNat) - 0:Nat):Int))/\bI aC Qf (iv 185 #[v.v,(.slice (bF (bF s.a s.c 0 1) (s.c - 0) ((Qe.wrap (i+(v.n:Int))).toNat) 1) ((((Qe.wrap ((s.n:Int)+(v.n:Int))).toNat) - 0) - ((Qe.wrap (i+(v.n:Int))).toNat)) ((s.c - 0) - ((Qe.wrap (i+(v.n:Int))).toNat)))]) H λ(r:Bool) b=>br (!r) ((0<=(Qe.wrap (i+(v.n:Int)))/\(Qe.wrap (i+(v.n:Int)))<=((((Qe.wrap ((s.n:Int)+(v.n:Int))).toNat) - 0:Nat):Int))/\(0<=i/\i<=((((Qe.wrap ((s.n:Int)+(v.n:Int))).toNat) - 0:Nat):Int))/\bI (ai .i64) Qf (Rh #[cW,cW] bT #[(.slice (bF (bF s.a s.c 0 1) (s.c - 0) ((Qe.wrap (i+(v.n:Int))).toNat) 1) ((((Qe.wrap ((s.n:Int)+(v.n:Int))).toNat) - 0) - ((Qe.wrap (i+(v.n:Int))).toNat)) ((s.c - 0) - ((Qe.wrap (i+(v.n:Int))).toNat))),(.slice (bF (bF s.a s.c 0 1) (s.c - 0) i.toNat 1) ((((Qe.wrap ((s.n:Int)+(v.n:Int))).toNat) - 0) - i.toNat) ((s.c - 0) - i.toNat))]) b λ(_:Int) f=>(0<=i/\i<=((((Qe.wrap ((s.n:Int)+(v.n:Int))).toNat) - 0:Nat):Int))/\bI (ai .i64) Qf (Rh #[cW,cW] bT #[(.slice (bF (bF s.a s.c 0 1) (s.c - 0) i.toNat 1) ((((Qe.wrap ((s.n:Int)+(v.n:Int))).toNat) - 0) - i.toNat) ((s.c - 0) - i.toNat)),v.v]) f λ(_:Int) g=>R (Sl.mk (bF s.a s.c 0 1) (((Qe.wrap ((s.n:Int)+(v.n:Int))).toNat) - 0) (s.c - 0)) g) ((0<=(s.n:Int)/\(s.n:Int)<=((((Qe.wrap ((s.n:Int)+(v.n:Int))).toNat) - 0:Nat):Int))/\bI (ai .i64) Qf (Rh #[cW,cW] bT #[(.slice (bF (bF s.a s.c 0 1) (s.c - 0) ((s.n:Int).toNat) 1) ((((Qe.wrap ((s.n:Int)+(v.n:Int))).toNat) - 0) - ((s.n:Int).toNat)) ((s.c - 0) - ((s.n:Int).toNat))),v.v]) b λ(_:Int) h=>(0<=i/\i<=((((Qe.wrap ((s.n:Int)+(v.n:Int))).toNat) - 0:Nat):Int))/\O9.sp (Sl.mk (bF (bF s.a s.c 0 1) (s.c - 0) i.toNat 1) ((((Qe.wrap ((s.n:Int)+(v.n:Int))).toNat) - 0) - i.toNat) ((s.c - 0) - i.toNat)) (v.n:Int) h λ(_:Unit) j=>R (Sl.mk (bF s.a s.c 0 1) (((Qe.wrap ((s.n:Int)+(v.n:Int))).toNat) - 0) (s.c - 0)) j))))
theorem IF.of:∀{s i v H R},IF.vc s i v H R->IF.sp s i v H R:=bn [] (by kernel_rfl)
def MF.vc (s:Sl)(i:Int)(v:Sl)(H:aa)(R:Kp Sl):Prop:=
 (0<=i/\i<=(s.n:Int))/\br ((v.n:Int)==0) (R s H) (br (i==(s.n:Int)) (bI au Qf (Qo #[dX,dX] dX #[s.v,v.v]) H λ(a:Sl) H1=>R a H1) (br (decide ((Qe.wrap ((s.n:Int)+(v.n:Int)))>(s.c:Int))) ((0<=i/\i<=(s.c:Int))/\bI au Qf (Qo #[dX,bT] dX #[(.slice (bF s.a s.c 0 1) (i.toNat - 0) (s.c - 0)),(.int .i64 (Qe.wrap ((Qe.wrap ((s.n:Int)+(v.n:Int))) - i)))]) H λ(s2:Sl) c=>(0<=i/\i<=(s2.n:Int))/\bI (ai .i64) Qf (Rh #[dX,dX] bT #[(.slice (bF s2.a s2.c i.toNat 1) (s2.n - i.toNat) (s2.c - i.toNat)),v.v]) c λ(_:Int) d=>(0<=(Qe.wrap (i+(v.n:Int)))/\(Qe.wrap (i+(v.n:Int)))<=(s2.n:Int))/\(0<=i/\i<=(s.n:Int))/\bI (ai .i64) Qf (Rh #[dX,dX] bT #[(.slice (bF s2.a s2.c ((Qe.wrap (i+(v.n:Int))).toNat) 1) (s2.n - ((Qe.wrap (i+(v.n:Int))).toNat)) (s2.c - ((Qe.wrap (i+(v.n:Int))).toNat))),(.slice (bF s.a s.c i.toNat 1) (s.n - i.toNat) (s.c - i.toNat))]) d λ(_:Int) e=>R s2 e) ((0<=(Qe.wrap ((s.n:Int)+(v.n:Int)))/\(Qe.wrap ((s.n:Int)+(v.n:Int)))<=(s.c:Int))/\(0<=(Qe.wrap (i+(v.n:Int)))/\(Qe.wrap (i+(v.n:Int)))<=((((Qe.wrap ((s.n:Int)+(v.n:Int))).toNat) - 0:Nat):Int))/\bI aC Qf (iv 187 #[v.v,(.slice (bF (bF s.a s.c 0 1) (s.c - 0) ((Qe.wrap (i+(v.n:Int))).toNat) 1) ((((Qe.wrap ((s.n:Int)+(v.n:Int))).toNat) - 0) - ((Qe.wrap (i+(v.n:Int))).toNat)) ((s.c - 0) - ((Qe.wrap (i+(v.n:Int))).toNat)))]) H λ(r:Bool) b=>br (!r) ((0<=(Qe.wrap (i+(v.n:Int)))/\(Qe.wrap (i+(v.n:Int)))<=((((Qe.wrap ((s.n:Int)+(v.n:Int))).toNat) - 0:Nat):Int))/\(0<=i/\i<=((((Qe.wrap ((s.n:Int)+(v.n:Int))).toNat) - 0:Nat):Int))/\bI (ai .i64) Qf (Rh #[dX,dX] bT #[(.slice (bF (bF s.a s.c 0 1) (s.c - 0) ((Qe.wrap (i+(v.n:Int))).toNat) 1) ((((Qe.wrap ((s.n:Int)+(v.n:Int))).toNat) - 0) - ((Qe.wrap (i+(v.n:Int))).toNat)) ((s.c - 0) - ((Qe.wrap (i+(v.n:Int))).toNat))),(.slice (bF (bF s.a s.c 0 1) (s.c - 0) i.toNat 1) ((((Qe.wrap ((s.n:Int)+(v.n:Int))).toNat) - 0) - i.toNat) ((s.c - 0) - i.toNat))]) b λ(_:Int) f=>(0<=i/\i<=((((Qe.wrap ((s.n:Int)+(v.n:Int))).toNat) - 0:Nat):Int))/\bI (ai .i64) Qf (Rh #[dX,dX] bT #[(.slice (bF (bF s.a s.c 0 1) (s.c - 0) i.toNat 1) ((((Qe.wrap ((s.n:Int)+(v.n:Int))).toNat) - 0) - i.toNat) ((s.c - 0) - i.toNat)),v.v]) f λ(_:Int) g=>R (Sl.mk (bF s.a s.c 0 1) (((Qe.wrap ((s.n:Int)+(v.n:Int))).toNat) - 0) (s.c - 0)) g) ((0<=(s.n:Int)/\(s.n:Int)<=((((Qe.wrap ((s.n:Int)+(v.n:Int))).toNat) - 0:Nat):Int))/\bI (ai .i64) Qf (Rh #[dX,dX] bT #[(.slice (bF (bF s.a s.c 0 1) (s.c - 0) ((s.n:Int).toNat) 1) ((((Qe.wrap ((s.n:Int)+(v.n:Int))).toNat) - 0) - ((s.n:Int).toNat)) ((s.c - 0) - ((s.n:Int).toNat))),v.v]) b λ(_:Int) h=>(0<=i/\i<=((((Qe.wrap ((s.n:Int)+(v.n:Int))).toNat) - 0:Nat):Int))/\Pe.sp (Sl.mk (bF (bF s.a s.c 0 1) (s.c - 0) i.toNat 1) ((((Qe.wrap ((s.n:Int)+(v.n:Int))).toNat) - 0) - i.toNat) ((s.c - 0) - i.toNat)) (v.n:Int) h λ(_:Unit) j=>R (Sl.mk (bF s.a s.c 0 1) (((Qe.wrap ((s.n:Int)+(v.n:Int))).toNat) - 0) (s.c - 0)) j))))
theorem MF.of:∀{s i v H R},MF.vc s i v H R->MF.sp s i v H R:=bn [] (by kernel_rfl)
def E3.vc (t:Option Addr)(H:aa)(R:Kp Int):Prop:=
 ah t λa=>ld (ai .i64) H (a.add 2) λ(x:Int)=>bI au Qf (Rn cv (.int .i64 x) (.int .i64 x)) H λ(sl:Sl) H1=>E9.sp sl H1 λ(r:Sl) b=>(Qe.wrap ((4:Int)+(r.n:Int)))≠0/\R (Qe.wrap (Qy (Qe.wrap ((502:Int)+(r.n:Int))) (Qe.wrap ((4:Int)+(r.n:Int))))) b
theorem E3.of:∀{t H R},E3.vc t H R->E3.sp t H R:=bn [] (by kernel_rfl)
def Be.vc (t n:Option Addr)(H:aa)(R:Kp (Option Addr×Sl×Int)):Prop:=
 ah n λa=>ld au H (a.add 2) λ(x:Sl)=>aB H #[(.int .i64 (-1)),(.slice none 0 0),(.slice none 0 0)] rq λb H1=>ah n λm=>ld au H1 (m.add 2) λ(f:Sl)=>ah f.a λo=>(0<=(Qe.wrap (Qy (x.n:Int) (2:Int)))/\(Qe.wrap (Qy (x.n:Int) (2:Int)))<(f.n:Int))/\ld au H1 (o.add ((Qe.wrap (Qy (x.n:Int) (2:Int))).toNat*1)) λ(up:Sl)=>ah n λp=>ld au H1 (p.add 1) λ(q:Sl)=>br (decide ((q.n:Int)>0)) (ah n λs=>ld au H1 (s.add 2) λ(c:Sl)=>(0<=(Qe.wrap ((Qe.wrap (Qy (x.n:Int) (2:Int)))+1))/\(Qe.wrap ((Qe.wrap (Qy (x.n:Int) (2:Int)))+1))<=(c.n:Int))/\ah n λu=>ld au H1 (u.add 1) λ(d:Sl)=>(0<=(Qe.wrap ((Qe.wrap (Qy (x.n:Int) (2:Int)))+1))/\(Qe.wrap ((Qe.wrap (Qy (x.n:Int) (2:Int)))+1))<=(d.n:Int))/\st H1 (b.add 2) (.slice (bF c.a c.c ((Qe.wrap ((Qe.wrap (Qy (x.n:Int) (2:Int)))+1)).toNat) 1) (c.n - ((Qe.wrap ((Qe.wrap (Qy (x.n:Int) (2:Int)))+1)).toNat)) (c.c - ((Qe.wrap ((Qe.wrap (Qy (x.n:Int) (2:Int)))+1)).toNat))) λE=>st E (b.add 1) (.slice (bF d.a d.c ((Qe.wrap ((Qe.wrap (Qy (x.n:Int) (2:Int)))+1)).toNat) 1) (d.n - ((Qe.wrap ((Qe.wrap (Qy (x.n:Int) (2:Int)))+1)).toNat)) (d.c - ((Qe.wrap ((Qe.wrap (Qy (x.n:Int) (2:Int)))+1)).toNat))) λB=>ah n λv=>ld au B (v.add 1) λ(g:Sl)=>(0<=(Qe.wrap ((Qe.wrap (Qy (x.n:Int) (2:Int)))+1))/\(Qe.wrap ((Qe.wrap (Qy (x.n:Int) (2:Int)))+1))<=(g.c:Int))/\(0<=(Qe.wrap ((Qe.wrap (Qy (x.n:Int) (2:Int)))+1))/\(Qe.wrap ((Qe.wrap (Qy (x.n:Int) (2:Int)))+1))<=(Qe.wrap ((Qe.wrap (Qy (x.n:Int) (2:Int)))+1)))/\ah n λw=>st B (w.add 1) (.slice (bF g.a ((Qe.wrap ((Qe.wrap (Qy (x.n:Int) (2:Int)))+1)).toNat) 0 1) ((Qe.wrap ((Qe.wrap (Qy (x.n:Int) (2:Int)))+1)).toNat - 0) ((Qe.wrap ((Qe.wrap (Qy (x.n:Int) (2:Int)))+1)).toNat - 0)) λC=>ah n λy=>ld au C (y.add 2) λ(h:Sl)=>(0<=(Qe.wrap (Qy (x.n:Int) (2:Int)))/\(Qe.wrap (Qy (x.n:Int) (2:Int)))<=(h.c:Int))/\(0<=(Qe.wrap (Qy (x.n:Int) (2:Int)))/\(Qe.wrap (Qy (x.n:Int) (2:Int)))<=(Qe.wrap (Qy (x.n:Int) (2:Int))))/\ah n λz=>st C (z.add 2) (.slice (bF h.a ((Qe.wrap (Qy (x.n:Int) (2:Int))).toNat) 0 1) ((Qe.wrap (Qy (x.n:Int) (2:Int))).toNat - 0) ((Qe.wrap (Qy (x.n:Int) (2:Int))).toNat - 0)) λF=>yD.sp t (some b) F λ(r:Int) G=>R (some b,up,r) G) (ah n λi=>ld au H1 (i.add 2) λ(e:Sl)=>(0<=(Qe.wrap (Qy (x.n:Int) (2:Int)))/\(Qe.wrap (Qy (x.n:Int) (2:Int)))<=(e.n:Int))/\st H1 (b.add 2) (.slice (bF e.a e.c ((Qe.wrap (Qy (x.n:Int) (2:Int))).toNat) 1) (e.n - ((Qe.wrap (Qy (x.n:Int) (2:Int))).toNat)) (e.c - ((Qe.wrap (Qy (x.n:Int) (2:Int))).toNat))) λD=>ah n λj=>ld au D (j.add 2) λ(k:Sl)=>(0<=(Qe.wrap (Qy (x.n:Int) (2:Int)))/\(Qe.wrap (Qy (x.n:Int) (2:Int)))<=(k.c:Int))/\(0<=(Qe.wrap (Qy (x.n:Int) (2:Int)))/\(Qe.wrap (Qy (x.n:Int) (2:Int)))<=(Qe.wrap (Qy (x.n:Int) (2:Int))))/\ah n λl=>st D (l.add 2) (.slice (bF k.a ((Qe.wrap (Qy (x.n:Int) (2:Int))).toNat) 0 1) ((Qe.wrap (Qy (x.n:Int) (2:Int))).toNat - 0) ((Qe.wrap (Qy (x.n:Int) (2:Int))).toNat - 0)) λI=>yD.sp t (some b) I λ(A:Int) J=>R (some b,up,A) J)
theorem Be.of:∀{t n H R},Be.vc t n H R->Be.sp t n H R:=bn [] (by kernel_rfl)
def Ks.vc (t:Option Addr)(ag:Int)(H:aa)(R:Kp (Int×Sl×Int)):Prop:=
 ah t λa=>ld aq H (a.add 0) λ(x:Option Addr)=>ah t λc=>ld dN H (c.add 1) λ(d:ByteArray)=>IH.sp x d ag H λ(r:(Int×Int)) H1=>br (r.2!=0) (R ((0:Int),(Sl.mk none 0 0),r.2) H1) (ah t λf=>ld aq H1 (f.add 0) λ(g:Option Addr)=>Lk.sp g r.1 H1 λ(b:(Int×Sl×Int)) h=>br (b.2.2==0) (ah t λi=>ld aq h (i.add 0) λ(j:Option Addr)=>Fh.sp j r.1 h λ(e:Int) k=>R (b.1,b.2.1,e) k) (R (b.1,b.2.1,b.2.2) h))
theorem Ks.of:∀{t ag H R},Ks.vc t ag H R->Ks.sp t ag H R:=bn [] (by kernel_rfl)
def LF.vc (b:Sl)(H:aa)(R:Kp Int):Prop:=
 ah b.a λa=>(0<=(0:Int)/\(0:Int)<(b.n:Int))/\ld (ai .u8) H (a.add ((0:Int).toNat*1)) λ(x:Int)=>ah b.a λc=>(0<=(1:Int)/\(1:Int)<(b.n:Int))/\ld (ai .u8) H (c.add ((1:Int).toNat*1)) λ(d:Int)=>ah b.a λe=>(0<=(2:Int)/\(2:Int)<(b.n:Int))/\ld (ai .u8) H (e.add ((2:Int).toNat*1)) λ(f:Int)=>ah b.a λg=>(0<=(3:Int)/\(3:Int)<(b.n:Int))/\ld (ai .u8) H (g.add ((3:Int).toNat*1)) λ(h:Int)=>R (nL .i64 (nL .i64 (nL .i64 (eZ .i64 (Qe.wrap x) (24:Int)) (eZ .i64 (Qe.wrap d) (16:Int))) (eZ .i64 (Qe.wrap f) (8:Int))) (Qe.wrap h)) H
theorem LF.of:∀{b H R},LF.vc b H R->LF.sp b H R:=bn [] (by kernel_rfl)
def K7.vc (b:Sl)(width:Int)(H:aa)(R:Kp (Sl×Int)):Prop:=
 aB H #[(.int .i64 width)] bT λp H1=>aB H1 (zc Qf cW) cW λe H2=>aB H2 (zc Qf Mu) Mu λf H3=>ld (ai .i64) H3 p λ(x:Int)=>IV.sp x H3 λ(n:Int) L=>br (n==0) (st L e (.slice none 0 0) λH5=>st H5 f (.int .i64 60) λM=>ld au M e λ(res:Sl)=>ld (ai .i64) M f λ(t:Int)=>R (res,t) M) (n≠0/\br ((QK (b.n:Int) n)!=0) (st L e (.slice none 0 0) λH7=>st H7 f (.int .i64 60) λN=>ld au N e λ(u:Sl)=>ld (ai .i64) N f λ(v:Int)=>R (u,v) N) (n≠0/\bI au Qf (Rn cW (.int .i64 0) (.int .i64 (Qe.wrap (Qy (b.n:Int) n)))) L λ(sl:Sl) H9=>aB H9 (zc Qf cW) cW λj O=>st O j sl.v λP=>Lr.sp b n P λ(r:Value) Q=>pZ Qf r Q (λl rec vs h KK=>jz (dD.dec [au] vs) λ(z:Sl)=>h[l]?=some (.loop (rec .ready none))/\cut Unit (λJ=>ld (ai .i64) (h.setIfInBounds l (.loop (rec .busy none))) p λ(S:Int)=>br (S==0) (ah z.a λa=>(0<=(0:Int)/\(0:Int)<(z.n:Int))/\ld (ai .u8) (h.setIfInBounds l (.loop (rec .busy none))) (a.add ((0:Int).toNat*1)) λ(T:Int)=>br (T !=0) (st (h.setIfInBounds l (.loop (rec .busy none))) e (.slice none 0 0) λU=>st U f (.int .i64 60) λE=>E[l]?=some (.loop (rec .busy none))/\KK false (E.setIfInBounds l (.loop (rec .done (some .ret))))) (J () (h.setIfInBounds l (.loop (rec .busy none))))) (J () (h.setIfInBounds l (.loop (rec .busy none))))) λ(_:Unit) F=>ld (ai .i64) F p λ(G:Int)=>bI au Qf (Rn cv (.int .i64 G) (.int .i64 G)) F λ(k:Sl) I=>ld (ai .i64) I p λ(V:Int)=>aF Int 0 I λnext d m=>br (decide (d<(Qe.wrap ((8:Int)*V)))) (ah k.a λW=>(0<=(Qe.wrap (Qy d (8:Int)))/\(Qe.wrap (Qy d (8:Int)))<(k.n:Int))/\ld (ai .u64) m (W.add ((Qe.wrap (Qy d (8:Int))).toNat*1)) λ(X:Int)=>ah z.a λY=>(0<=d/\d<(z.n:Int))/\ld (ai .u8) m (Y.add (d.toNat*1)) λ(Z:Int)=>ah k.a λae=>(0<=(Qe.wrap (Qy d (8:Int)))/\(Qe.wrap (Qy d (8:Int)))<(k.n:Int))/\st m (ae.add ((Qe.wrap (Qy d (8:Int))).toNat*1)) (.int .u64 (nL .u64 (eZ .u64 X (8:Int)) (Q0.wrap Z))) λaf=>next (Qe.wrap (d+1)) af) (ld au m j λ(a1:Sl)=>aB m #[k.v] cv λa6 a7=>bI au Qf (Qo #[cW,cW] cW #[a1.v,(.slice (some a6) 1 1)]) a7 λ(s:Sl) a8=>st a8 j s.v λK=>K[l]?=some (.loop (rec .busy none))/\KK true (K.setIfInBounds l (.loop (rec .ready none))))) (λc g=>ld au g j λ(ba:Sl)=>st g e ba.v λbg=>st bg f (.int .i64 0) λo=>o[c]?=some (.deferred (some []))/\ld au (o.setIfInBounds c (.deferred none)) e λ(w:Sl)=>ld (ai .i64) (o.setIfInBounds c (.deferred none)) f λ(y:Int)=>R (w,y) (o.setIfInBounds c (.deferred none))) (λi c g=>bif QQ i 0 then ld au g j λ(bl:Sl)=>st g e bl.v λbs=>st bs f (.int .i64 0) λq=>q[c]?=some (.deferred (some []))/\ld au (q.setIfInBounds c (.deferred none)) e λ(A:Sl)=>ld (ai .i64) (q.setIfInBounds c (.deferred none)) f λ(B:Int)=>R (A,B) (q.setIfInBounds c (.deferred none)) else False) (λc g=>g[c]?=some (.deferred (some []))/\ld au (g.setIfInBounds c (.deferred none)) e λ(C:Sl)=>ld (ai .i64) (g.setIfInBounds c (.deferred none)) f λ(D:Int)=>R (C,D) (g.setIfInBounds c (.deferred none)))))
theorem K7.of:∀{b width H R},K7.vc b width H R->K7.sp b width H R:=bn [(200007,[(30,au)]),(100009,[]),(11,[(43,(ai .i64))])] (by kernel_rfl)
def Lx.vc (B e l:Sl)(H:aa)(R:Kp Bool):Prop:=
 aB H #[B.v,e.v] AP λp H1=>aF Int 1 H1 λnext i b=>br (decide (i<(l.n:Int))) (ah l.a λa=>(0<=(Qe.wrap (i - 1))/\(Qe.wrap (i - 1))<(l.n:Int))/\ld au b (a.add ((Qe.wrap (i - 1)).toNat*1)) λ(x:Sl)=>ah l.a λf=>(0<=i/\i<(l.n:Int))/\ld au b (f.add (i.toNat*1)) λ(g:Sl)=>tN.sp x g b λ(r:Int) A=>br (decide (r>=0)) (R false A) (next (Qe.wrap (i+1)) A)) (br ((l.n:Int)==0) (R true b) (ld au b (p.add 0) λ(h:Sl)=>br h.a.isNone (ld au b (p.add 1) λ(j:Sl)=>br j.a.isNone (R true b) (ah l.a λk=>(0<=(Qe.wrap ((l.n:Int) - 1))/\(Qe.wrap ((l.n:Int) - 1))<(l.n:Int))/\ld au b (k.add ((Qe.wrap ((l.n:Int) - 1)).toNat*1)) λ(m:Sl)=>ld au b (p.add 1) λ(n:Sl)=>tN.sp m n b λ(o:Int) C=>R (decide (o<0)) C)) (ah l.a λq=>(0<=(0:Int)/\(0:Int)<(l.n:Int))/\ld au b (q.add ((0:Int).toNat*1)) λ(s:Sl)=>ld au b (p.add 0) λ(t:Sl)=>tN.sp s t b λ(u:Int) c=>br (decide (u>=0)) (ld au c (p.add 1) λ(v:Sl)=>br v.a.isNone (R true c) (ah l.a λw=>(0<=(Qe.wrap ((l.n:Int) - 1))/\(Qe.wrap ((l.n:Int) - 1))<(l.n:Int))/\ld au c (w.add ((Qe.wrap ((l.n:Int) - 1)).toNat*1)) λ(y:Sl)=>ld au c (p.add 1) λ(d:Sl)=>tN.sp y d c λ(z:Int) D=>R (decide (z<0)) D)) (R false c))))
theorem Lx.of:∀{b a l H R},Lx.vc b a l H R->Lx.sp b a l H R:=bn [(2,[(5,(ai .i64))])] (by kernel_rfl)
def Fj.vc (p:Option Addr)(H:aa)(R:Kp Int):Prop:=
 br p.isNone (R (1:Int) H) (ah p λa=>ld (ai .i64) H (a.add 7) λ(x:Int)=>R x H)
theorem Fj.of:∀{p H R},Fj.vc p H R->Fj.sp p H R:=bn [] (by kernel_rfl)
def IB.vc (d:Option Addr)(name:ByteArray)(H:aa)(R:Kp (Int×Int)):Prop:=
 G0.sp d name H λ(r:(Option Addr×Int)) H1=>br (r.2!=0) (R ((0:Int),r.2) H1) (ah r.1 λa=>ld au H1 (a.add 0) λ(x:Sl)=>R ((x.n:Int),(0:Int)) H1)
theorem IB.of:∀{d name H R},IB.vc d name H R->IB.sp d name H R:=bn [] (by kernel_rfl)
def AM.vc (p:Option Addr)(e:Int)(H:aa)(R:Kp Int):Prop:=
 br (e==4) (br (e==4) (ah p λa=>st H (a.add 7) (.int .i64 e) λH1=>R e H1) (R e H)) (br (e==5) (br (e==5) (ah p λb=>st H (b.add 7) (.int .i64 e) λd=>R e d) (R e H)) (br (e==20) (ah p λc=>st H (c.add 7) (.int .i64 e) λf=>R e f) (R e H)))
theorem AM.of:∀{p e H R},AM.vc p e H R->AM.sp p e H R:=bn [] (by kernel_rfl)
def LY.vc (p:Option Addr)(name:ByteArray)(H:aa)(R:Kp Sl):Prop:=
 aB H #[(.string name)] Ox λb H1=>ah p λa=>ld dB H1 (a.add 2) λ(x:Option Nat)=>M7.sp x H1 λ(r:Value) d=>MU.sp r d λ(c:Sl) e=>Lv.sp c b e λ(l:Sl) f=>Pm.sp l (.func (.func E5.no) #[] #[]) f λ(_:Unit) g=>R l g
theorem LY.of:∀{p name H R},LY.vc p name H R->LY.sp p name H R:=bn [] (by kernel_rfl)
def K9.vc (s:Sl)(H:aa)(R:Kp Bool):Prop:=
 Kc.sp s H λ(r:Int) H1=>R (decide (r>=0)) H1
theorem K9.of:∀{s H R},K9.vc s H R->K9.sp s H R:=bn [] (by kernel_rfl)
def GX.vc (f:Option Addr)(H:aa)(R:Kp Bool):Prop:=
 ah f λa=>ld (ai .i64) H (a.add 5) λ(x:Int)=>R (decide (x>0)) H
theorem GX.of:∀{f H R},GX.vc f H R->GX.sp f H R:=bn [] (by kernel_rfl)
def Lp.vc (d:Option Addr)(name:ByteArray)(H:aa)(R:Kp Int):Prop:=
 G0.sp d name H λ(r:(Option Addr×Int)) H1=>br (r.2!=0) (R r.2 H1) (FT.sp d H1 λ(e:Int) a=>br (e==0) (LD.sp d name a λ(_:Unit) b=>R e b) (R e a))
theorem Lp.of:∀{d name H R},Lp.vc d name H R->Lp.sp d name H R:=bn [] (by kernel_rfl)
def K5.vc (l p:Sl)(H:aa)(R:Kp Bool):Prop:=
 br (decide ((l.n:Int)>=(p.n:Int))) ((0<=(p.n:Int)/\(p.n:Int)<=(l.c:Int))/\Kg.sp (Sl.mk (bF l.a l.c 0 1) (((p.n:Int).toNat) - 0) (l.c - 0)) p H λ(r:Bool) H1=>R r H1) (R false H)
theorem K5.of:∀{l p H R},K5.vc l p H R->K5.sp l p H R:=bn [] (by kernel_rfl)
def Nc.vc (s:Sl)(f:Value)(H:aa)(R:Kp Int):Prop:=
 aF Int 0 H λnext z H1=>br (decide (z<(s.n:Int))) (ah s.a λa=>(0<=z/\z<(s.n:Int))/\ld (ai .i64) H1 (a.add (z.toNat*1)) λ(x:Int)=>Gz Qf f [(.int .i64 x)] H1 λ(r:Bool) b=>br r (R z b) (next (Qe.wrap (z+1)) b)) (R (-1:Int) H1)
theorem Nc.of:∀{s f H R},Nc.vc s f H R->Nc.sp s f H R:=bn [(2,[(8,(ai .i64))])] (by kernel_rfl)
def MQ.vc (x:Int)(H:aa)(R:Kp Int):Prop:=
 br (decide (x>=4294967296)) (br (decide ((bm .u64 x (32:Int))>=65536)) (br (decide ((bm .u64 (bm .u64 x (32:Int)) (16:Int))>=256)) ((0<=(QF.wrap (bm .u64 (bm .u64 (bm .u64 x (32:Int)) (16:Int)) (8:Int)))/\(QF.wrap (bm .u64 (bm .u64 (bm .u64 x (32:Int)) (16:Int)) (8:Int)))<(gw.size:Int))/\R (Qe.wrap ((Qe.wrap ((Qe.wrap ((32:Int)+16))+8))+(Qe.wrap ((cZ gw (QF.wrap (bm .u64 (bm .u64 (bm .u64 x (32:Int)) (16:Int)) (8:Int))).toNat).toNat:Int)))) H) ((0<=(QF.wrap (bm .u64 (bm .u64 x (32:Int)) (16:Int)))/\(QF.wrap (bm .u64 (bm .u64 x (32:Int)) (16:Int)))<(gw.size:Int))/\R (Qe.wrap ((Qe.wrap ((32:Int)+16))+(Qe.wrap ((cZ gw (QF.wrap (bm .u64 (bm .u64 x (32:Int)) (16:Int))).toNat).toNat:Int)))) H)) (br (decide ((bm .u64 x (32:Int))>=256)) ((0<=(QF.wrap (bm .u64 (bm .u64 x (32:Int)) (8:Int)))/\(QF.wrap (bm .u64 (bm .u64 x (32:Int)) (8:Int)))<(gw.size:Int))/\R (Qe.wrap ((Qe.wrap ((32:Int)+8))+(Qe.wrap ((cZ gw (QF.wrap (bm .u64 (bm .u64 x (32:Int)) (8:Int))).toNat).toNat:Int)))) H) ((0<=(QF.wrap (bm .u64 x (32:Int)))/\(QF.wrap (bm .u64 x (32:Int)))<(gw.size:Int))/\R (Qe.wrap ((32:Int)+(Qe.wrap ((cZ gw (QF.wrap (bm .u64 x (32:Int))).toNat).toNat:Int)))) H))) (br (decide (x>=65536)) (br (decide ((bm .u64 x (16:Int))>=256)) ((0<=(QF.wrap (bm .u64 (bm .u64 x (16:Int)) (8:Int)))/\(QF.wrap (bm .u64 (bm .u64 x (16:Int)) (8:Int)))<(gw.size:Int))/\R (Qe.wrap ((Qe.wrap ((Qe.wrap ((0:Int)+16))+8))+(Qe.wrap ((cZ gw (QF.wrap (bm .u64 (bm .u64 x (16:Int)) (8:Int))).toNat).toNat:Int)))) H) ((0<=(QF.wrap (bm .u64 x (16:Int)))/\(QF.wrap (bm .u64 x (16:Int)))<(gw.size:Int))/\R (Qe.wrap ((Qe.wrap ((0:Int)+16))+(Qe.wrap ((cZ gw (QF.wrap (bm .u64 x (16:Int))).toNat).toNat:Int)))) H)) (br (decide (x>=256)) ((0<=(QF.wrap (bm .u64 x (8:Int)))/\(QF.wrap (bm .u64 x (8:Int)))<(gw.size:Int))/\R (Qe.wrap ((Qe.wrap ((0:Int)+8))+(Qe.wrap ((cZ gw (QF.wrap (bm .u64 x (8:Int))).toNat).toNat:Int)))) H) ((0<=(QF.wrap x)/\(QF.wrap x)<(gw.size:Int))/\R (Qe.wrap ((0:Int)+(Qe.wrap ((cZ gw (QF.wrap x).toNat).toNat:Int)))) H)))
theorem MQ.of:∀{x H R},MQ.vc x H R->MQ.sp x H R:=bn [] (by kernel_rfl)
def JX.vc (p:Option Addr)(H:aa)(R:Kp Int):Prop:=
 ah p λa=>ld dB H (a.add 2) λ(x:Option Nat)=>Eo H x λ(n:Nat)=>ah p λg=>ld (ai .i64) H (g.add 1) λ(h:Int)=>br (decide ((n:Int)<h)) (R (0:Int) H) (KY.sp p H λ(f:Option Addr) H1=>br f.isNone (R (31:Int) H1) (ah f λi=>ld aC H1 (i.add 4) λ(j:Bool)=>br j (FA.sp p f H1 λ(e:Int) d=>br (e !=0) (R e d) (ah p λk=>ld dB d (k.add 2) λ(l:Option Nat)=>ah f λm=>kN (iD [dN,(ai .i64)]) 2 d (m.add 0) λ(b:(ByteArray×Int))=>bI jF Qf (RN #[AN,yE] J3 #[(.map l),(.agg #[(.string b.1),(.int .i64 b.2)])]) d λ(_:Value) s=>R (0:Int) s)) (ah p λo=>ld dB H1 (o.add 2) λ(q:Option Nat)=>ah f λr=>kN (iD [dN,(ai .i64)]) 2 H1 (r.add 0) λ(c:(ByteArray×Int))=>bI jF Qf (RN #[AN,yE] J3 #[(.map q),(.agg #[(.string c.1),(.int .i64 c.2)])]) H1 λ(_:Value) t=>R (0:Int) t)))
theorem JX.of:∀{p H R},JX.vc p H R->JX.sp p H R:=bn [] (by kernel_rfl)
def FA.vc (p f:Option Addr)(H:aa)(R:Kp Int):Prop:=
 ah f λa=>ld (ai .u8) H (a.add 2) λ(x:Int)=>ah f λb=>ld au H (b.add 3) λ(c:Sl)=>LS.sp x c H λ(r:(Sl×Int)) H1=>br (r.2!=0) (R r.2 H1) (ah p λd=>ld aq H1 (d.add 0) λ(g:Option Addr)=>ah f λh=>ld dN H1 ((h.add 0).add 0) λ(i:ByteArray)=>ah f λj=>ld (ai .i64) H1 ((j.add 0).add 1) λ(k:Int)=>Lf.sp g i k r.1 H1 λ(e:Int) m=>br (e==0) (ah f λl=>st m (l.add 4) (.bool false) λn=>R e n) (R e m))
theorem FA.of:∀{p f H R},FA.vc p f H R->FA.sp p f H R:=bn [] (by kernel_rfl)
def Dm.vc (p f:Option Addr)(H:aa)(R:Kp Int):Prop:=
 ah p λa=>ld dB H (a.add 2) λ(x:Option Nat)=>ah f λd=>kN (iD [dN,(ai .i64)]) 2 H (d.add 0) λ(b:(ByteArray×Int))=>xJ Qf (Sr AN (.map x) (.agg #[(.string b.1),(.int .i64 b.2)]) (.pointer f)) H λH1=>ah p λe=>ld (ai .i64) H1 (e.add 6) λ(c:Int)=>ah p λg=>ld dB H1 (g.add 2) λ(h:Option Nat)=>Eo H1 h λ(n:Nat)=>ah p λi=>st H1 (i.add 6) (.int .i64 (if (n:Int)>c then (n:Int) else c)) λj=>GJ.sp p f j λ(r:Int) k=>R r k
theorem Dm.of:∀{p f H R},Dm.vc p f H R->Dm.sp p f H R:=bn [] (by kernel_rfl)
def GJ.vc (p f:Option Addr)(H:aa)(R:Kp Int):Prop:=
 ah f λa=>ld (ai .i64) H (a.add 5) λ(x:Int)=>ah f λb=>st H (b.add 5) (.int .i64 (Qe.wrap (x+1))) λH1=>ah p λc=>ld dB H1 (c.add 3) λ(d:Option Nat)=>ah p λe=>ld (ai .i64) H1 (e.add 4) λ(g:Int)=>xJ Qf (Sr NP (.map d) (.int .i64 g) (.pointer f)) H1 λm=>ah p λh=>ld (ai .i64) m (h.add 4) λ(i:Int)=>ah p λj=>st m (j.add 4) (.int .i64 (Qe.wrap (i+1))) λn=>ah p λk=>ld (ai .i64) n (k.add 4) λ(l:Int)=>R (Qe.wrap (l - 1)) n
theorem GJ.of:∀{p f H R},GJ.vc p f H R->GJ.sp p f H R:=bn [] (by kernel_rfl)
def LC.vc (p:Option Addr)(at_:ByteArray)(h:Int)(H:aa)(R:Kp (Option Addr×Int)):Prop:=
 aB H #[(.string at_),(.int .i64 h)] yE λb H1=>ah p λa=>ld aq H1 (a.add 0) λ(x:Option Addr)=>ld dN H1 (b.add 0) λ(k:ByteArray)=>IB.sp x k H1 λ(r:(Int×Int)) g=>br (r.2!=0) (R (none,r.2) g) (ld (ai .i64) g (b.add 1) λ(l:Int)=>br (decide (l<0)) (R (none,(12:Int)) g) (ld (ai .i64) g (b.add 1) λ(m:Int)=>br (decide (m>=r.1)) (R (none,(12:Int)) g) (JX.sp p g λ(e:Int) i=>br (e !=0) (R (none,e) i) (ah p λn=>ld aq i (n.add 0) λ(o:Option Addr)=>ld dN i (b.add 0) λ(q:ByteArray)=>ld (ai .i64) i (b.add 1) λ(s:Int)=>Lz.sp o q s i λ(c:(Sl×Int)) t=>br (c.2!=0) (R (none,c.2) t) (kN (iD [dN,(ai .i64)]) 2 t b λ(j:(ByteArray×Int))=>aB t #[(.string j.1),(.int .i64 j.2),(.int .u8 0),(.slice none 0 0),(.bool false),(.int .i64 0),(.int .i64 0)] MG λd u=>Lc.sp c.1 u λ(f:(Int×Sl×Int)) w=>st w (d.add 2) (.int .u8 f.1) λy=>st y (d.add 3) f.2.1.v λz=>R (some d,f.2.2) z)))))
theorem LC.of:∀{p at_ a H R},LC.vc p at_ a H R->LC.sp p at_ a H R:=bn [] (by kernel_rfl)
def Iq.vc (p:Option Addr)(h:Int)(H:aa)(R:Kp (Option Addr×Int)):Prop:=
 Fj.sp p H λ(e:Int) H1=>br (e !=0) (R (none,e) H1) (ah p λa=>ld dB H1 (a.add 3) λ(x:Option Nat)=>EW (bf [aq,aC]) Qf (RK NP (.map x) (.int .i64 h) true) H1 λ(b:(Option Addr×Bool))=>br b.2 (R (b.1,(0:Int)) H1) (R (none,(32:Int)) H1))
theorem Iq.of:∀{p h H R},Iq.vc p h H R->Iq.sp p h H R:=bn [] (by kernel_rfl)
def EU.vc (s:Sl)(H:aa)(R:Kp Sl):Prop:=
 br s.a.isNone (R (Sl.mk none 0 0) H) (aB H #[] kJ λp H1=>bI au Qf (Qo #[jX,jX] jX #[(.slice (some p) 0 0),s.v]) H1 λ(a:Sl) b=>R a b)
theorem EU.of:∀{s H R},EU.vc s H R->EU.sp s H R:=bn [] (by kernel_rfl)
def K0.vc (b:Array Value)(n:Int)(H:aa)(R:Kp (Array Value)):Prop:=
 aB H b Ig λp H1=>aB H1 (zc Qf Ig) Ig λa e=>aF Int 0 e λnext z c=>br (decide (z<8)) (0<=(Qe.wrap ((56:Int) - (Qe.wrap ((8:Int)*z))))/\(0<=z/\z<((8:Nat):Int))/\st c (p.add (z.toNat*1)) (.int .u8 (QF.wrap (bm .u64 n (Qe.wrap ((56:Int) - (Qe.wrap ((8:Int)*z))))))) λf=>next (Qe.wrap (z+1)) f) (kN rU 8 c p λ(x:Array Value)=>xJ Qf (RL Ig (.pointer (some a)) (.agg x)) c λd=>kN rU 8 d a λ(res:Array Value)=>R res d)
theorem K0.of:∀{b n H R},K0.vc b n H R->K0.sp b n H R:=bn [(2,[(6,(ai .i64))])] (by kernel_rfl)
def MJ.vc (i:Int)(H:aa)(R:Kp ByteArray):Prop:=
 br (decide (i<10)) ((0<=(Qe.wrap (i+1))/\(Qe.wrap (i+1))<=(((RV #[48,49,50,51,52,53,54,55,56,57,97,98,99,100,101,102,103,104,105,106,107,108,109,110,111,112,113,114,115,116,117,118,119,120,121,122]).size:Nat):Int))/\(0<=i/\i<=(Qe.wrap (i+1)))/\R ((RV #[48,49,50,51,52,53,54,55,56,57,97,98,99,100,101,102,103,104,105,106,107,108,109,110,111,112,113,114,115,116,117,118,119,120,121,122]).extract i.toNat ((Qe.wrap (i+1)).toNat)) H) ((0<=(Qe.wrap ((Qe.wrap (i*2))+2))/\(Qe.wrap ((Qe.wrap (i*2))+2))<=(bS.size:Int))/\(0<=(Qe.wrap (i*2))/\(Qe.wrap (i*2))<=(Qe.wrap ((Qe.wrap (i*2))+2)))/\R (bS.extract ((Qe.wrap (i*2)).toNat) ((Qe.wrap ((Qe.wrap (i*2))+2)).toNat)) H)
theorem MJ.of:∀{i H R},MJ.vc i H R->MJ.sp i H R:=bn [] (by kernel_rfl)
def KE.vc (d:Int)(H:aa)(R:Kp Int):Prop:=
 MQ.sp d H λ(r:Int) H1=>LQ.sp r H1 λ(a:Int) c=>(0<=a/\a<((20:Nat):Int))/\ld (ai .u64) c ((Yc 0 0 none).add (a.toNat*1)) λ(x:Int)=>Ij.sp (decide (d>=x)) c λ(b:Int) e=>R (Qe.wrap (a+b)) e
theorem KE.of:∀{d H R},KE.vc d H R->KE.sp d H R:=bn [] (by kernel_rfl)
def KB.vc (a:Sl)(u:Int)(H:aa)(R:Kp Unit):Prop:=
 aF (Int×Int) (u,(a.n:Int)) H λnext z H1=>br (decide (z.2>=8)) ((0<=(Qh.wrap ((Qh.wrap ((QK (QK (Qh.wrap (QK z.1 (100000000:Int))) (10000:Int)) (100:Int))*2))+1))/\(Qh.wrap ((Qh.wrap ((QK (QK (Qh.wrap (QK z.1 (100000000:Int))) (10000:Int)) (100:Int))*2))+1))<(bS.size:Int))/\(0<=(Qh.wrap ((QK (QK (Qh.wrap (QK z.1 (100000000:Int))) (10000:Int)) (100:Int))*2))/\(Qh.wrap ((QK (QK (Qh.wrap (QK z.1 (100000000:Int))) (10000:Int)) (100:Int))*2))<(bS.size:Int))/\ah a.a λm=>(0<=(Qe.wrap (z.2 - 1))/\(Qe.wrap (z.2 - 1))<(a.n:Int))/\st H1 (m.add ((Qe.wrap (z.2 - 1)).toNat*1)) (.int .u8 ((cZ bS (Qh.wrap ((Qh.wrap ((QK (QK (Qh.wrap (QK z.1 (100000000:Int))) (10000:Int)) (100:Int))*2))+1)).toNat).toNat:Int)) λE=>ah a.a λn=>(0<=(Qe.wrap (z.2 - 2))/\(Qe.wrap (z.2 - 2))<(a.n:Int))/\st E (n.add ((Qe.wrap (z.2 - 2)).toNat*1)) (.int .u8 ((cZ bS (Qh.wrap ((QK (QK (Qh.wrap (QK z.1 (100000000:Int))) (10000:Int)) (100:Int))*2)).toNat).toNat:Int)) λF=>(0<=(Qh.wrap ((Qh.wrap ((Qh.wrap (Qy (QK (Qh.wrap (QK z.1 (100000000:Int))) (10000:Int)) (100:Int)))*2))+1))/\(Qh.wrap ((Qh.wrap ((Qh.wrap (Qy (QK (Qh.wrap (QK z.1 (100000000:Int))) (10000:Int)) (100:Int)))*2))+1))<(bS.size:Int))/\(0<=(Qh.wrap ((Qh.wrap (Qy (QK (Qh.wrap (QK z.1 (100000000:Int))) (10000:Int)) (100:Int)))*2))/\(Qh.wrap ((Qh.wrap (Qy (QK (Qh.wrap (QK z.1 (100000000:Int))) (10000:Int)) (100:Int)))*2))<(bS.size:Int))/\ah a.a λo=>(0<=(Qe.wrap (z.2 - 3))/\(Qe.wrap (z.2 - 3))<(a.n:Int))/\st F (o.add ((Qe.wrap (z.2 - 3)).toNat*1)) (.int .u8 ((cZ bS (Qh.wrap ((Qh.wrap ((Qh.wrap (Qy (QK (Qh.wrap (QK z.1 (100000000:Int))) (10000:Int)) (100:Int)))*2))+1)).toNat).toNat:Int)) λG=>ah a.a λp=>(0<=(Qe.wrap (z.2 - 4))/\(Qe.wrap (z.2 - 4))<(a.n:Int))/\st G (p.add ((Qe.wrap (z.2 - 4)).toNat*1)) (.int .u8 ((cZ bS (Qh.wrap ((Qh.wrap (Qy (QK (Qh.wrap (QK z.1 (100000000:Int))) (10000:Int)) (100:Int)))*2)).toNat).toNat:Int)) λI=>(0<=(Qh.wrap ((Qh.wrap ((QK (Qh.wrap (Qy (Qh.wrap (QK z.1 (100000000:Int))) (10000:Int))) (100:Int))*2))+1))/\(Qh.wrap ((Qh.wrap ((QK (Qh.wrap (Qy (Qh.wrap (QK z.1 (100000000:Int))) (10000:Int))) (100:Int))*2))+1))<(bS.size:Int))/\(0<=(Qh.wrap ((QK (Qh.wrap (Qy (Qh.wrap (QK z.1 (100000000:Int))) (10000:Int))) (100:Int))*2))/\(Qh.wrap ((QK (Qh.wrap (Qy (Qh.wrap (QK z.1 (100000000:Int))) (10000:Int))) (100:Int))*2))<(bS.size:Int))/\ah a.a λq=>(0<=(Qe.wrap (z.2 - 5))/\(Qe.wrap (z.2 - 5))<(a.n:Int))/\st I (q.add ((Qe.wrap (z.2 - 5)).toNat*1)) (.int .u8 ((cZ bS (Qh.wrap ((Qh.wrap ((QK (Qh.wrap (Qy (Qh.wrap (QK z.1 (100000000:Int))) (10000:Int))) (100:Int))*2))+1)).toNat).toNat:Int)) λK=>ah a.a λr=>(0<=(Qe.wrap (z.2 - 6))/\(Qe.wrap (z.2 - 6))<(a.n:Int))/\st K (r.add ((Qe.wrap (z.2 - 6)).toNat*1)) (.int .u8 ((cZ bS (Qh.wrap ((QK (Qh.wrap (Qy (Qh.wrap (QK z.1 (100000000:Int))) (10000:Int))) (100:Int))*2)).toNat).toNat:Int)) λL=>(0<=(Qh.wrap ((Qh.wrap ((Qh.wrap (Qy (Qh.wrap (Qy (Qh.wrap (QK z.1 (100000000:Int))) (10000:Int))) (100:Int)))*2))+1))/\(Qh.wrap ((Qh.wrap ((Qh.wrap (Qy (Qh.wrap (Qy (Qh.wrap (QK z.1 (100000000:Int))) (10000:Int))) (100:Int)))*2))+1))<(bS.size:Int))/\(0<=(Qh.wrap ((Qh.wrap (Qy (Qh.wrap (Qy (Qh.wrap (QK z.1 (100000000:Int))) (10000:Int))) (100:Int)))*2))/\(Qh.wrap ((Qh.wrap (Qy (Qh.wrap (Qy (Qh.wrap (QK z.1 (100000000:Int))) (10000:Int))) (100:Int)))*2))<(bS.size:Int))/\ah a.a λs=>(0<=(Qe.wrap (z.2 - 7))/\(Qe.wrap (z.2 - 7))<(a.n:Int))/\st L (s.add ((Qe.wrap (z.2 - 7)).toNat*1)) (.int .u8 ((cZ bS (Qh.wrap ((Qh.wrap ((Qh.wrap (Qy (Qh.wrap (Qy (Qh.wrap (QK z.1 (100000000:Int))) (10000:Int))) (100:Int)))*2))+1)).toNat).toNat:Int)) λM=>ah a.a λt=>(0<=(Qe.wrap (z.2 - 8))/\(Qe.wrap (z.2 - 8))<(a.n:Int))/\st M (t.add ((Qe.wrap (z.2 - 8)).toNat*1)) (.int .u8 ((cZ bS (Qh.wrap ((Qh.wrap (Qy (Qh.wrap (Qy (Qh.wrap (QK z.1 (100000000:Int))) (10000:Int))) (100:Int)))*2)).toNat).toNat:Int)) λN=>next (Q0.wrap (Qy z.1 (100000000:Int)),Qe.wrap (z.2 - 8)) N) (cut (Int×Int) (λJ=>br (decide (z.2>=4)) ((0<=(Qh.wrap ((Qh.wrap ((QK (QK (Qh.wrap z.1) (10000:Int)) (100:Int))*2))+1))/\(Qh.wrap ((Qh.wrap ((QK (QK (Qh.wrap z.1) (10000:Int)) (100:Int))*2))+1))<(bS.size:Int))/\(0<=(Qh.wrap ((QK (QK (Qh.wrap z.1) (10000:Int)) (100:Int))*2))/\(Qh.wrap ((QK (QK (Qh.wrap z.1) (10000:Int)) (100:Int))*2))<(bS.size:Int))/\ah a.a λv=>(0<=(Qe.wrap (z.2 - 1))/\(Qe.wrap (z.2 - 1))<(a.n:Int))/\st H1 (v.add ((Qe.wrap (z.2 - 1)).toNat*1)) (.int .u8 ((cZ bS (Qh.wrap ((Qh.wrap ((QK (QK (Qh.wrap z.1) (10000:Int)) (100:Int))*2))+1)).toNat).toNat:Int)) λw=>ah a.a λc=>(0<=(Qe.wrap (z.2 - 2))/\(Qe.wrap (z.2 - 2))<(a.n:Int))/\st w (c.add ((Qe.wrap (z.2 - 2)).toNat*1)) (.int .u8 ((cZ bS (Qh.wrap ((QK (QK (Qh.wrap z.1) (10000:Int)) (100:Int))*2)).toNat).toNat:Int)) λx=>(0<=(Qh.wrap ((Qh.wrap ((Qh.wrap (Qy (QK (Qh.wrap z.1) (10000:Int)) (100:Int)))*2))+1))/\(Qh.wrap ((Qh.wrap ((Qh.wrap (Qy (QK (Qh.wrap z.1) (10000:Int)) (100:Int)))*2))+1))<(bS.size:Int))/\(0<=(Qh.wrap ((Qh.wrap (Qy (QK (Qh.wrap z.1) (10000:Int)) (100:Int)))*2))/\(Qh.wrap ((Qh.wrap (Qy (QK (Qh.wrap z.1) (10000:Int)) (100:Int)))*2))<(bS.size:Int))/\ah a.a λd=>(0<=(Qe.wrap (z.2 - 3))/\(Qe.wrap (z.2 - 3))<(a.n:Int))/\st x (d.add ((Qe.wrap (z.2 - 3)).toNat*1)) (.int .u8 ((cZ bS (Qh.wrap ((Qh.wrap ((Qh.wrap (Qy (QK (Qh.wrap z.1) (10000:Int)) (100:Int)))*2))+1)).toNat).toNat:Int)) λy=>ah a.a λe=>(0<=(Qe.wrap (z.2 - 4))/\(Qe.wrap (z.2 - 4))<(a.n:Int))/\st y (e.add ((Qe.wrap (z.2 - 4)).toNat*1)) (.int .u8 ((cZ bS (Qh.wrap ((Qh.wrap (Qy (QK (Qh.wrap z.1) (10000:Int)) (100:Int)))*2)).toNat).toNat:Int)) λA=>J (Qe.wrap (z.2 - 4),Qh.wrap (Qy (Qh.wrap z.1) (10000:Int))) A) (J (z.2,Qh.wrap z.1) H1)) λ(b:(Int×Int)) f=>cut (Int×Int) (λg=>br (decide (b.1>=2)) ((0<=(Qh.wrap ((Qh.wrap ((QK b.2 (100:Int))*2))+1))/\(Qh.wrap ((Qh.wrap ((QK b.2 (100:Int))*2))+1))<(bS.size:Int))/\(0<=(Qh.wrap ((QK b.2 (100:Int))*2))/\(Qh.wrap ((QK b.2 (100:Int))*2))<(bS.size:Int))/\ah a.a λh=>(0<=(Qe.wrap (b.1 - 1))/\(Qe.wrap (b.1 - 1))<(a.n:Int))/\st f (h.add ((Qe.wrap (b.1 - 1)).toNat*1)) (.int .u8 ((cZ bS (Qh.wrap ((Qh.wrap ((QK b.2 (100:Int))*2))+1)).toNat).toNat:Int)) λB=>ah a.a λi=>(0<=(Qe.wrap (b.1 - 2))/\(Qe.wrap (b.1 - 2))<(a.n:Int))/\st B (i.add ((Qe.wrap (b.1 - 2)).toNat*1)) (.int .u8 ((cZ bS (Qh.wrap ((QK b.2 (100:Int))*2)).toNat).toNat:Int)) λC=>g (Qe.wrap (b.1 - 2),Qh.wrap (Qy b.2 (100:Int))) C) (g (b.1,b.2) f)) λ(j:(Int×Int)) k=>br (decide (j.1>0)) (ah a.a λl=>(0<=(0:Int)/\(0:Int)<(a.n:Int))/\st k (l.add ((0:Int).toNat*1)) (.int .u8 (QF.wrap (Qh.wrap ((48:Int)+j.2)))) λD=>R () D) (R () k))
theorem KB.of:∀{a u H R},KB.vc a u H R->KB.sp a u H R:=bn [(1,[(1,(ai .u64)),(4,(ai .i64))]),(100020,[(4,(ai .i64)),(12,(ai .u32))]),(100025,[(4,(ai .i64)),(12,(ai .u32))])] (by kernel_rfl)
def Lk.vc (p:Option Addr)(h:Int)(H:aa)(R:Kp (Int×Sl×Int)):Prop:=
 Iq.sp p h H λ(r:(Option Addr×Int)) H1=>br (r.2!=0) (R ((0:Int),(Sl.mk none 0 0),r.2) H1) (∃G:aa->Prop,G H1/\ah r.1 λa=>bW (ai .u8) G (a.add 2) λ(x:Int)=>ah r.1 λb=>ld au H1 (b.add 3) λ(c:Sl)=>EU.sp c H1 λ(d:Sl) e=>G e/\R (x,d,(0:Int)) e)
theorem Lk.of:∀{p h H R},Lk.vc p h H R->Lk.sp p h H R:=bn [] (by kernel_rfl)
def Lr.vc (s:Sl)(n:Int)(H:aa)(R:Kp Value):Prop:=
 aB H #[s.v] jX λp H1=>aB H1 #[(.int .i64 n)] bT λa b=>ld (ai .i64) b a λ(x:Int)=>br (decide (x<1)) (False) (R (.func (.func Fg.no) #[] #[(.pointer (some p)),(.pointer (some a))]) b)
theorem Lr.of:∀{s n H R},Lr.vc s n H R->Lr.sp s n H R:=bn [] (by kernel_rfl)
def G0.vc (d:Option Addr)(name:ByteArray)(H:aa)(R:Kp (Option Addr×Int)):Prop:=
 Ii.sp d H λ(e:Int) H1=>br (e !=0) (R (none,e) H1) (ah d λa=>ld dB H1 (a.add 0) λ(x:Option Nat)=>EW (bf [aq,aC]) Qf (RK LK (.map x) (.string name) true) H1 λ(b:(Option Addr×Bool))=>br b.2 (R (b.1,(0:Int)) H1) (R (none,(11:Int)) H1))
theorem G0.of:∀{d name H R},G0.vc d name H R->G0.sp d name H R:=bn [] (by kernel_rfl)
def Lv.vc (s:Sl)(cap:Addr)(H:aa)(R:Kp Sl):Prop:=
 L9.sp s cap H λ(i:Int) H1=>br (i==(-1:Int)) (R s H1) (aF (Int×Int) (i,Qe.wrap (i+1)) H1 λnext z b=>br (decide (z.2<(s.n:Int))) (ah s.a λa=>(0<=z.2/\z.2<(s.n:Int))/\ld aq b (a.add (z.2.toNat*1)) λ(v:Option Addr)=>EZ.sp v cap b λ(r:Bool) d=>br (!r) (ah s.a λc=>(0<=z.1/\z.1<(s.n:Int))/\st d (c.add (z.1.toNat*1)) (.pointer v) λe=>next (Qe.wrap (z.1+1),Qe.wrap (z.2+1)) e) (next (z.1,Qe.wrap (z.2+1)) d)) ((0<=z.1/\z.1<=(s.n:Int))/\bI jF Qf (WO #[Eu] J3 #[(.slice (bF s.a s.c z.1.toNat 1) (s.n - z.1.toNat) (s.c - z.1.toNat))]) b λ(_:Value) f=>(0<=z.1/\z.1<=(s.c:Int))/\R (Sl.mk (bF s.a s.c 0 1) (z.1.toNat - 0) (s.c - 0)) f))
theorem Lv.of:∀{s cap H R},Lv.vc s cap H R->Lv.sp s cap H R:=bn [(5,[(5,(ai .i64)),(6,(ai .i64))])] (by kernel_rfl)
def MU.vc (seq:Value)(H:aa)(R:Kp Sl):Prop:=
 Lw.sp (Sl.mk none 0 0) seq H λ(r:Sl) H1=>R r H1
theorem MU.of:∀{seq H R},MU.vc seq H R->MU.sp seq H R:=bn [] (by kernel_rfl)
def M7.vc (m:Option Nat)(H:aa)(R:Kp Value):Prop:=
 aB H #[(.map m)] AN λp H1=>R (.func (.func Hj.no) #[] #[(.pointer (some p))]) H1
theorem M7.of:∀{m H R},M7.vc m H R->M7.sp m H R:=bn [] (by kernel_rfl)
def EZ.vc (f:Option Addr)(cap:Addr)(H:aa)(R:Kp Bool):Prop:=
 ah f λa=>ld dN H ((a.add 0).add 0) λ(x:ByteArray)=>ld dN H cap λ(b:ByteArray)=>R (!(x.toList==b.toList)) H
theorem EZ.of:∀{f cap H R},EZ.vc f cap H R->EZ.sp f cap H R:=bn [] (by kernel_rfl)
def E5.vc (a b:Option Addr)(H:aa)(R:Kp Int):Prop:=
 ah a λc=>ld (ai .i64) H ((c.add 0).add 1) λ(x:Int)=>ah b λd=>ld (ai .i64) H ((d.add 0).add 1) λ(e:Int)=>R (Qe.wrap (x - e)) H
theorem E5.of:∀{a b H R},E5.vc a b H R->E5.sp a b H R:=bn [] (by kernel_rfl)
def Kc.vc (s:Sl)(H:aa)(R:Kp Int):Prop:=
 aF Int 0 H λnext z H1=>br (decide (z<(s.n:Int))) (ah s.a λa=>(0<=z/\z<(s.n:Int))/\ld aq H1 (a.add (z.toNat*1)) λ(x:Option Addr)=>GX.sp x H1 λ(r:Bool) b=>br r (R z b) (next (Qe.wrap (z+1)) b)) (R (-1:Int) H1)
theorem Kc.of:∀{s H R},Kc.vc s H R->Kc.sp s H R:=bn [(2,[(8,(ai .i64))])] (by kernel_rfl)
def L9.vc (s:Sl)(cap:Addr)(H:aa)(R:Kp Int):Prop:=
 aF Int 0 H λnext z H1=>br (decide (z<(s.n:Int))) (ah s.a λa=>(0<=z/\z<(s.n:Int))/\ld aq H1 (a.add (z.toNat*1)) λ(x:Option Addr)=>EZ.sp x cap H1 λ(r:Bool) b=>br r (R z b) (next (Qe.wrap (z+1)) b)) (R (-1:Int) H1)
theorem L9.of:∀{s cap H R},L9.vc s cap H R->L9.sp s cap H R:=bn [(2,[(8,(ai .i64))])] (by kernel_rfl)
def LD.vc (d:Option Addr)(name:ByteArray)(H:aa)(R:Kp Unit):Prop:=
 ah d λa=>ld dB H (a.add 0) λ(x:Option Nat)=>EW (bf [aq,aC]) Qf (RK LK (.map x) (.string name) true) H λ(b:(Option Addr×Bool))=>br b.2 (ah d λc=>ld (ai .i64) H (c.add 1) λ(e:Int)=>ah b.1 λf=>ld au H (f.add 0) λ(g:Sl)=>ah d λh=>st H (h.add 1) (.int .i64 (Qe.wrap (e - (g.n:Int)))) λH1=>ah d λi=>ld dB H1 (i.add 0) λ(j:Option Nat)=>bI jF Qf (RN #[LK,Ox] J3 #[(.map j),(.string name)]) H1 λ(_:Value) k=>R () k) (R () H)
theorem LD.of:∀{d name H R},LD.vc d name H R->LD.sp d name H R:=bn [] (by kernel_rfl)
def KY.vc (p:Option Addr)(H:aa)(R:Kp (Option Addr)):Prop:=
 ah p λa=>ld dB H (a.add 2) λ(x:Option Nat)=>bI aq Qf (UQ AN (.map x)) H λ(it:Option Addr) H1=>aF (Option Addr) none H1 λnext mT g=>bI pG Qf (Ux (.pointer it) false J3) g λ(nx:Bool×List Value) d=>br nx.1 (bI Bo Qf (Ui (.pointer it)) d λ(h:Value×Value) i=>Ot aq h.2 λ(f:Option Addr)=>KM.sp f i λ(r:Bool) b=>br r (br mT.isNone (next f b) (JY.sp f mT b λ(c:Bool) e=>br c (next f e) (next mT e))) (next mT b)) (R mT d)
theorem KY.of:∀{p H R},KY.vc p H R->KY.sp p H R:=bn [(3,[(7,aq)])] (by kernel_rfl)
def KM.vc (f:Option Addr)(H:aa)(R:Kp Bool):Prop:=
 ah f λa=>ld (ai .i64) H (a.add 5) λ(x:Int)=>R (x==0) H
theorem KM.of:∀{f H R},KM.vc f H R->KM.sp f H R:=bn [] (by kernel_rfl)
def JY.vc (a b:Option Addr)(H:aa)(R:Kp Bool):Prop:=
 ah a λc=>ld (ai .i64) H (c.add 6) λ(x:Int)=>ah b λd=>ld (ai .i64) H (d.add 6) λ(e:Int)=>R (decide (x<e)) H
theorem JY.of:∀{a b H R},JY.vc a b H R->JY.sp a b H R:=bn [] (by kernel_rfl)
def LS.vc (kind:Int)(b:Sl)(H:aa)(R:Kp (Sl×Int)):Prop:=
 br (decide ((b.n:Int)>504)) (R ((Sl.mk none 0 0),(2:Int)) H) (aB H (zc Qf Nf) Nf λp H1=>(0<=(4:Int)/\(4:Int)<((512:Nat):Int))/\st H1 (p.add ((4:Int).toNat*1)) (.int .u8 (QF.wrap (b.n:Int))) λd=>(0<=(5:Int)/\(5:Int)<((512:Nat):Int))/\st d (p.add ((5:Int).toNat*1)) (.int .u8 (QF.wrap (bm .i64 (b.n:Int) (8:Int)))) λe=>(0<=(6:Int)/\(6:Int)<((512:Nat):Int))/\st e (p.add ((6:Int).toNat*1)) (.int .u8 kind) λf=>(0<=(7:Int)/\(7:Int)<((512:Nat):Int))/\st f (p.add ((7:Int).toNat*1)) (.int .u8 157) λg=>(0<=(8:Int)/\(8:Int)<=512)/\bI (ai .i64) Qf (Rh #[jX,jX] bT #[(.slice (bF (some p) 512 ((8:Int).toNat) 1) (512 - ((8:Int).toNat)) (512 - ((8:Int).toNat))),b.v]) g λ(_:Int) h=>(0<=(4:Int)/\(4:Int)<=512)/\Jt.sp (Sl.mk (bF (some p) 512 ((4:Int).toNat) 1) (512 - ((4:Int).toNat)) (512 - ((4:Int).toNat))) h λ(n:Int) i=>aF Int 0 i λnext z c=>br (decide (z<4)) (0<=(Qe.wrap ((8:Int)*z))/\(0<=z/\z<((512:Nat):Int))/\st c (p.add (z.toNat*1)) (.int .u8 (QF.wrap (bm .u32 n (Qe.wrap ((8:Int)*z))))) λj=>next (Qe.wrap (z+1)) j) (EU.sp (Sl.mk (bF (some p) 512 0 1) (512 - 0) (512 - 0)) c λ(r:Sl) a=>R (r,(0:Int)) a))
theorem LS.of:∀{kind b H R},LS.vc kind b H R->LS.sp kind b H R:=bn [(9,[(29,(ai .i64))])] (by kernel_rfl)
def Lf.vc (d:Option Addr)(name:ByteArray)(ag:Int)(b:Sl)(H:aa)(R:Kp Int):Prop:=
 Ii.sp d H λ(e:Int) H1=>br (e !=0) (R e H1) (br ((b.n:Int)!=512) (R (2:Int) H1) (G0.sp d name H1 λ(r:(Option Addr×Int)) c=>cut Unit (λJ=>br (r.2!=0) (R r.2 c) (br (decide (ag<0)) (br (decide (ag<0)) (R (12:Int) c) (ah r.1 λa=>ld au c (a.add 0) λ(x:Sl)=>br (ag==(x.n:Int)) (ah d λL=>ld (ai .i64) c (L.add 1) λ(M:Int)=>ah d λN=>ld (ai .i64) c (N.add 3) λ(O:Int)=>br (M==O) (R (5:Int) c) (J () c)) (J () c))) (ah r.1 λP=>ld au c (P.add 0) λ(Q:Sl)=>br (decide (ag>(Q.n:Int))) (R (12:Int) c) (ah r.1 λS=>ld au c (S.add 0) λ(T:Sl)=>br (ag==(T.n:Int)) (ah d λU=>ld (ai .i64) c (U.add 1) λ(V:Int)=>ah d λW=>ld (ai .i64) c (W.add 3) λ(X:Int)=>br (V==X) (R (5:Int) c) (J () c)) (J () c))))) λ(_:Unit) H3=>FT.sp d H3 λ(h:Int) i=>br (h !=0) (R h i) (cut Unit (λj=>ah r.1 λY=>ld au i (Y.add 0) λ(Z:Sl)=>br (ag==(Z.n:Int)) (ah d λae=>ld (ai .i64) i (ae.add 1) λ(af:Int)=>ah d λa1=>st i (a1.add 1) (.int .i64 (Qe.wrap (af+1))) λH6=>ah d λk=>ld (ai .i64) H6 (k.add 2) λ(l:Int)=>ah d λm=>ld (ai .i64) H6 (m.add 1) λ(f:Int)=>ah d λn=>st H6 (n.add 2) (.int .i64 (if f>l then f else l)) λH7=>j () H7) (j () i)) λ(_:Unit) H5=>∃G:aa->Prop,G H5/\ah r.1 λo=>bW au G (o.add 2) λ(p:Sl)=>ah d λq=>ld (ai .i64) H5 (q.add 5) λ(t:Int)=>512<=b.n/\ah b.a λu=>N9 rU 512 G u λ(v:Array Value)=>An rU Qf (Instr.build JB #[(0,(.int .i64 t)),(1,(.int .i64 ag)),(2,(.agg v))]) λ(y:Array Value)=>bI au Qf (Sh NW 1 #[(0,(.agg y))]) H5 λ(sl:Sl) H8=>G H8/\bI au Qf (Qo #[NW,NW] NW #[p.v,sl.v]) H8 λ(s:Sl) H9=>ah r.1 λw=>st H9 (w.add 2) s.v λg=>ah r.1 λz=>ld au g (z.add 0) λ(A:Sl)=>512<=b.n/\ah b.a λB=>kN rU 512 g B λ(C:Array Value)=>KS.sp A ag C g λ(a6:Sl) a7=>ah r.1 λD=>st a7 (D.add 0) a6.v λE=>ah d λF=>ld (ai .i64) E (F.add 5) λ(I:Int)=>ah d λK=>st E (K.add 5) (.int .i64 (Qe.wrap (I+1))) λa8=>R (0:Int) a8)))
theorem Lf.of:∀{d name ag b H R},Lf.vc d name ag b H R->Lf.sp d name ag b H R:=bn [(100014,[]),(100020,[])] (by kernel_rfl)
def Lz.vc (d:Option Addr)(name:ByteArray)(ag:Int)(H:aa)(R:Kp (Sl×Int)):Prop:=
 G0.sp d name H λ(r:(Option Addr×Int)) H1=>cut Unit (λJ=>br (r.2!=0) (R ((Sl.mk none 0 0),r.2) H1) (br (decide (ag<0)) (br (decide (ag<0)) (R ((Sl.mk none 0 0),(12:Int)) H1) (J () H1)) (ah r.1 λa=>ld au H1 (a.add 0) λ(x:Sl)=>br (decide (ag>=(x.n:Int))) (R ((Sl.mk none 0 0),(12:Int)) H1) (J () H1)))) λ(_:Unit) g=>ah r.1 λc=>ld au g (c.add 0) λ(b:Sl)=>ah b.a λe=>(0<=ag/\ag<(b.n:Int))/\EU.sp (Sl.mk (bF (some (e.add (ag.toNat*512))) 512 0 1) (512 - 0) (512 - 0)) g λ(f:Sl) h=>R (f,(0:Int)) h
theorem Lz.of:∀{d name ag H R},Lz.vc d name ag H R->Lz.sp d name ag H R:=bn [(100007,[])] (by kernel_rfl)
def Lc.vc (b:Sl)(H:aa)(R:Kp (Int×Sl×Int)):Prop:=
 br ((b.n:Int)!=512) (R ((0:Int),(Sl.mk none 0 0),(2:Int)) H) ((0<=(4:Int)/\(4:Int)<=(b.n:Int))/\Jt.sp (Sl.mk (bF b.a b.c ((4:Int).toNat) 1) (b.n - ((4:Int).toNat)) (b.c - ((4:Int).toNat))) H λ(n:Int) H1=>aF Int 0 H1 λnext z e=>br (decide (z<4)) (ah b.a λa=>(0<=z/\z<(b.n:Int))/\ld (ai .u8) e (a.add (z.toNat*1)) λ(x:Int)=>0<=(Qe.wrap ((8:Int)*z))/\br (x !=(QF.wrap (bm .u32 n (Qe.wrap ((8:Int)*z))))) (R ((0:Int),(Sl.mk none 0 0),(20:Int)) e) (next (Qe.wrap (z+1)) e)) (ah b.a λf=>(0<=(4:Int)/\(4:Int)<(b.n:Int))/\ld (ai .u8) e (f.add ((4:Int).toNat*1)) λ(c:Int)=>ah b.a λg=>(0<=(5:Int)/\(5:Int)<(b.n:Int))/\ld (ai .u8) e (g.add ((5:Int).toNat*1)) λ(d:Int)=>br (decide ((nL .i64 (Qe.wrap c) (eZ .i64 (Qe.wrap d) (8:Int)))>504)) (R ((0:Int),(Sl.mk none 0 0),(20:Int)) e) (ah b.a λh=>(0<=(7:Int)/\(7:Int)<(b.n:Int))/\ld (ai .u8) e (h.add ((7:Int).toNat*1)) λ(i:Int)=>br (i !=157) (R ((0:Int),(Sl.mk none 0 0),(20:Int)) e) ((0<=(Qe.wrap ((8:Int)+(nL .i64 (Qe.wrap c) (eZ .i64 (Qe.wrap d) (8:Int)))))/\(Qe.wrap ((8:Int)+(nL .i64 (Qe.wrap c) (eZ .i64 (Qe.wrap d) (8:Int)))))<=(b.n:Int))/\L7.sp (Sl.mk (bF b.a b.c ((Qe.wrap ((8:Int)+(nL .i64 (Qe.wrap c) (eZ .i64 (Qe.wrap d) (8:Int))))).toNat) 1) (b.n - ((Qe.wrap ((8:Int)+(nL .i64 (Qe.wrap c) (eZ .i64 (Qe.wrap d) (8:Int))))).toNat)) (b.c - ((Qe.wrap ((8:Int)+(nL .i64 (Qe.wrap c) (eZ .i64 (Qe.wrap d) (8:Int))))).toNat))) e λ(r:Bool) j=>br r (R ((0:Int),(Sl.mk none 0 0),(20:Int)) j) (∃G:aa->Prop,G j/\ah b.a λk=>(0<=(6:Int)/\(6:Int)<(b.n:Int))/\bW (ai .u8) G (k.add ((6:Int).toNat*1)) λ(l:Int)=>(0<=(Qe.wrap ((8:Int)+(nL .i64 (Qe.wrap c) (eZ .i64 (Qe.wrap d) (8:Int)))))/\(Qe.wrap ((8:Int)+(nL .i64 (Qe.wrap c) (eZ .i64 (Qe.wrap d) (8:Int)))))<=(b.c:Int))/\(0<=(8:Int)/\(8:Int)<=(Qe.wrap ((8:Int)+(nL .i64 (Qe.wrap c) (eZ .i64 (Qe.wrap d) (8:Int))))))/\EU.sp (Sl.mk (bF b.a b.c ((8:Int).toNat) 1) (((Qe.wrap ((8:Int)+(nL .i64 (Qe.wrap c) (eZ .i64 (Qe.wrap d) (8:Int))))).toNat) - ((8:Int).toNat)) (b.c - ((8:Int).toNat))) j λ(m:Sl) o=>G o/\R (l,m,(0:Int)) o)))))
theorem Lc.of:∀{b H R},Lc.vc b H R->Lc.sp b H R:=bn [(5,[(14,(ai .i64))])] (by kernel_rfl)
def LQ.vc (x:Int)(H:aa)(R:Kp Int):Prop:=
 R (bm .i64 (Qe.wrap (x*78913)) (18:Int)) H
theorem LQ.of:∀{x H R},LQ.vc x H R->LQ.sp x H R:=bn [] (by kernel_rfl)
def Ij.vc (b:Bool)(H:aa)(R:Kp Int):Prop:=
 br b (R (1:Int) H) (R (0:Int) H)
theorem Ij.of:∀{b H R},Ij.vc b H R->Ij.sp b H R:=bn [] (by kernel_rfl)
def Fg.vc (l:Nat)(cap cap1:Addr)(H:aa)(R:Kp Unit):Prop:=
 aF Int 0 H λnext i H1=>ld au H1 cap λ(x:Sl)=>br (decide (i<(x.n:Int))) (ld (ai .i64) H1 cap1 λ(c:Int)=>ld au H1 cap λ(a:Sl)=>(0<=i/\i<=(a.n:Int))/\ld au H1 cap λ(d:Sl)=>(0<=(Qe.wrap (i+(if ((a.n - i.toNat:Nat):Int)<c then ((a.n - i.toNat:Nat):Int) else c)))/\(Qe.wrap (i+(if ((a.n - i.toNat:Nat):Int)<c then ((a.n - i.toNat:Nat):Int) else c)))<=(d.c:Int))/\(0<=(Qe.wrap (i+(if ((a.n - i.toNat:Nat):Int)<c then ((a.n - i.toNat:Nat):Int) else c)))/\(Qe.wrap (i+(if ((a.n - i.toNat:Nat):Int)<c then ((a.n - i.toNat:Nat):Int) else c)))<=(Qe.wrap (i+(if ((a.n - i.toNat:Nat):Int)<c then ((a.n - i.toNat:Nat):Int) else c))))/\(0<=i/\i<=(Qe.wrap (i+(if ((a.n - i.toNat:Nat):Int)<c then ((a.n - i.toNat:Nat):Int) else c))))/\cM Qf l #[(.slice (bF d.a ((Qe.wrap (i+(if ((a.n - i.toNat:Nat):Int)<c then ((a.n - i.toNat:Nat):Int) else c))).toNat) i.toNat 1) ((Qe.wrap (i+(if ((a.n - i.toNat:Nat):Int)<c then ((a.n - i.toNat:Nat):Int) else c))).toNat - i.toNat) ((Qe.wrap (i+(if ((a.n - i.toNat:Nat):Int)<c then ((a.n - i.toNat:Nat):Int) else c))).toNat - i.toNat))] H1 λ(b:Bool) e=>br (!b) (R () e) (ld (ai .i64) e cap1 λ(f:Int)=>next (Qe.wrap (i+f)) e)) (R () H1)
theorem Fg.of:∀{l cap cap1 H R},Fg.vc l cap cap1 H R->Fg.sp l cap cap1 H R:=bn [(1,[(4,(ai .i64))])] (by kernel_rfl)
def Lw.vc (s:Sl)(seq:Value)(H:aa)(R:Kp Sl):Prop:=
 aB H #[s.v] Eu λp H1=>pZ Qf seq H1 (λl rec vs b h=>jz (dD.dec [aq] vs) λ(z:Option Addr)=>b[l]?=some (.loop (rec .ready none))/\ld au (b.setIfInBounds l (.loop (rec .busy none))) p λ(x:Sl)=>aB (b.setIfInBounds l (.loop (rec .busy none))) #[(.pointer z)] uX λc j=>bI au Qf (Qo #[Eu,Eu] Eu #[x.v,(.slice (some c) 1 1)]) j λ(d:Sl) k=>st k p d.v λg=>g[l]?=some (.loop (rec .busy none))/\h true (g.setIfInBounds l (.loop (rec .ready none)))) (λr a=>ld au a p λ(e:Sl)=>a[r]?=some (.deferred (some []))/\R e (a.setIfInBounds r (.deferred none))) (λi r a=>bif QQ i 0 then ld au a p λ(f:Sl)=>a[r]?=some (.deferred (some []))/\R f (a.setIfInBounds r (.deferred none)) else False) (λr a=>a[r]?=some (.deferred (some []))/\R (Sl.mk none 0 0) (a.setIfInBounds r (.deferred none)))
theorem Lw.of:∀{s seq H R},Lw.vc s seq H R->Lw.sp s seq H R:=bn [(200003,[(7,aq)])] (by kernel_rfl)
def Hj.vc (l:Nat)(cap:Addr)(H:aa)(R:Kp Unit):Prop:=
 ld dB H cap λ(x:Option Nat)=>bI aq Qf (UQ AN (.map x)) H λ(it:Option Addr) H1=>aF Unit () H1 λnext _ d=>bI pG Qf (Ux (.pointer it) false J3) d λ(nx:Bool×List Value) a=>br nx.1 (bI Bo Qf (Ui (.pointer it)) a λ(e:Value×Value) f=>Ot aq e.2 λ(v:Option Addr)=>cM Qf l #[(.pointer v)] f λ(b:Bool) c=>br (!b) (R () c) (next () c)) (R () a)
theorem Hj.of:∀{l cap H R},Hj.vc l cap H R->Hj.sp l cap H R:=bn [(1,[])] (by kernel_rfl)
def Jt.vc (b:Sl)(H:aa)(R:Kp Int):Prop:=
 aF (Int×Int) ((4294967295:Int),(0:Int)) H λnext z H1=>br (decide (z.2<(b.n:Int))) (ah b.a λa=>(0<=z.2/\z.2<(b.n:Int))/\ld (ai .u8) H1 (a.add (z.2.toNat*1)) λ(c:Int)=>(0<=(zM .u32 (lT .u32 z.1 (Qh.wrap c)) (15:Int))/\(zM .u32 (lT .u32 z.1 (Qh.wrap c)) (15:Int))<((16:Nat):Int))/\ld (ai .u32) H1 ((Yc 1 0 none).add ((zM .u32 (lT .u32 z.1 (Qh.wrap c)) (15:Int)).toNat*1)) λ(x:Int)=>(0<=(zM .u32 (lT .u32 (bm .u32 (lT .u32 z.1 (Qh.wrap c)) (4:Int)) x) (15:Int))/\(zM .u32 (lT .u32 (bm .u32 (lT .u32 z.1 (Qh.wrap c)) (4:Int)) x) (15:Int))<((16:Nat):Int))/\ld (ai .u32) H1 ((Yc 1 0 none).add ((zM .u32 (lT .u32 (bm .u32 (lT .u32 z.1 (Qh.wrap c)) (4:Int)) x) (15:Int)).toNat*1)) λ(d:Int)=>next (lT .u32 (bm .u32 (lT .u32 (bm .u32 (lT .u32 z.1 (Qh.wrap c)) (4:Int)) x) (4:Int)) d,Qe.wrap (z.2+1)) H1) (R (lT .u32 (4294967295:Int) z.1) H1)
theorem Jt.of:∀{b H R},Jt.vc b H R->Jt.sp b H R:=bn [(3,[(3,(ai .u32)),(8,(ai .i64))])] (by kernel_rfl)
def KS.vc (l:Sl)(ag:Int)(b:Array Value)(H:aa)(R:Kp Sl):Prop:=
 aB H b Bd λp H1=>aF Sl l H1 λnext c d=>br (decide ((c.n:Int)<=ag)) (bI au Qf (Sh N8 1 #[(0,(.agg (zc Qf Bd)))]) d λ(sl:Sl) f=>bI au Qf (Qo #[N8,N8] N8 #[c.v,sl.v]) f λ(e:Sl) g=>next e g) (kN rU 512 d p λ(x:Array Value)=>ah c.a λa=>(0<=ag/\ag<(c.n:Int))/\xJ Qf (RL Bd (.pointer (some (a.add (ag.toNat*512)))) (.agg x)) d λh=>R c h)
theorem KS.of:∀{l ag b H R},KS.vc l ag b H R->KS.sp l ag b H R:=bn [(1,[(0,au)])] (by kernel_rfl)
def L7.vc (s:Sl)(H:aa)(R:Kp Bool):Prop:=
 LZ.sp s H λ(r:Int) H1=>R (decide (r>=0)) H1
theorem L7.of:∀{s H R},L7.vc s H R->L7.sp s H R:=bn [] (by kernel_rfl)
def IN.vc (c:Int)(H:aa)(R:Kp Bool):Prop:=
 R (c !=0) H
theorem IN.of:∀{c H R},IN.vc c H R->IN.sp c H R:=bn [] (by kernel_rfl)
def LZ.vc (s:Sl)(H:aa)(R:Kp Int):Prop:=
 aF Int 0 H λnext z H1=>br (decide (z<(s.n:Int))) (ah s.a λa=>(0<=z/\z<(s.n:Int))/\ld (ai .u8) H1 (a.add (z.toNat*1)) λ(x:Int)=>IN.sp x H1 λ(r:Bool) b=>br r (R z b) (next (Qe.wrap (z+1)) b)) (R (-1:Int) H1)
theorem LZ.of:∀{s H R},LZ.vc s H R->LZ.sp s H R:=bn [(2,[(8,(ai .i64))])] (by kernel_rfl)
end Go.Proofs.YtkehfflpbpdokaaGreatDoor
