/-
  Proved: laws on the way to 'PserveScriptProof' (texts PsD PsE QbF QbG QbH XdK QbI QbJ QbK QbL QbM QbN QbO QbP QbQ QbR QbS PsV PsW QbT QbU QbW QbY QcA QcB QbV PsG0 PsG PsH PsI); no condition.
-/
import Derived.Test.YtfoggkodmjnmcaaGreatM3
import Derived.Deep.CutRange
import Derived.Deep.RegionLaw
set_option linter.unusedSimpArgs false
set_option linter.unusedVariables false
set_option maxHeartbeats 4000000
noncomputable section
namespace Go.Proofs
open Go.Dw
def Tryz.Yz:List aG:= [LH (sJ 4 14),SL]
def Tryz.znW:List Sh:=oo 1
def Tryz.YA:List AV:= [.ptr 1 0]
def Tryz.zw3:List (SB×Bool):= []
def Tryz.zsq:List Leaf:= [
 ⟨.ay [.agg [.int .i64 (.lit 2),.int .i64 (.lit 1),.int .i64 (ah 4)],.int .i64 (.lit 0)],[(1,[.cst 0 none,.bool (.lit true),.int .i64 (aF 0),.int .u64 (aj 1),.int .u64 (aj 2),.int .u64 (aj 3),.bool (.var 0),.bool (.var 1),.bool (.lit true),.int .i64 (ah 4),.bool (.var 2),.int .i64 (ah 5),.bool (.var 6),.map 2,.int .i64 (ah 9),.int .i64 (.lit 5),.int .i64 (.var 6),.bool (.var 3),.int .i64 (aK 7),.cst 1 none,.int .u32 (aW 8),.bool (.var 4),.bool (.lit false),.bool (.lit false)])],[(2,[])],0,[1]⟩,
 ⟨.ay [.agg [.int .i64 (.lit 2),.int .i64 (.lit 1),.int .i64 (ah 4)],.int .i64 (.lit 0)],[(1,[.cst 0 none,.bool (.lit true),.int .i64 (aF 0),.int .u64 (aj 1),.int .u64 (aj 2),.int .u64 (aj 3),.bool (.var 0),.bool (.var 1),.bool (.lit true),.int .i64 (ah 4),.bool (.var 2),.int .i64 (ah 5),.bool (.var 6),.map 2,.int .i64 (ah 9),.int .i64 (.lit 2),.int .i64 (.var 6),.bool (.var 3),.int .i64 (aK 7),.cst 1 none,.int .u32 (aW 8),.bool (.var 4),.bool (.lit false),.bool (.lit false)])],[(2,[])],0,[1]⟩,
 ⟨.ay [.agg [.int .i64 (.lit 2),.int .i64 (.lit 1),.int .i64 (ah 4)],.int .i64 (.lit 0)],[(1,[.cst 0 none,.bool (.lit true),.int .i64 (aF 0),.int .u64 (aj 1),.int .u64 (aj 2),.int .u64 (aj 3),.bool (.var 0),.bool (.var 1),.bool (.lit true),.int .i64 (ah 4),.bool (.var 2),.int .i64 (ah 5),.bool (.var 6),.map 2,.int .i64 (ah 9),.int .i64 (.lit 0),.int .i64 (.var 6),.bool (.lit true),.int .i64 (aK 7),.cst 1 none,.int .u32 (aW 8),.bool (.var 4),.bool (.lit true),.bool (.lit false)])],[(2,[])],0,[1]⟩]
def Tryz.zsp:List (List (SB×Bool)×Nat):= [
 ([(.var 7,true)],0),
 ([(.var 7,false),(.var 0,true)],1),
 ([(.var 7,false),(.var 0,false)],2)]
theorem Tryz.zw2:(ev prog (bB Yz) 100000 (.call 27 YA (bn 0 znW) (cK zsq 0))).ways zw3=some zsp:=by kernel_rfl
theorem Tryz.zz4:(bD znW&&zag Yz&&AV.bK YA&&dh zsq)=true:=by kernel_rfl
def Tryz.Xk:List aG:= [abv,FD (aj 3) 4 (.aQ [⟨18,0,65535,0,16,0⟩] 131072)]
def Tryz.Yj:List Sh:=oo 2
def Tryz.Xl:List AV:= [.ptr 1 0]
def Tryz.zuB:List (SB×Bool):= []
def Tryz.zom:List Leaf:= [
 ⟨.ay [.agg [.int .i64 (.lit 3),.int .i64 (.lit 11),.int .i64 (.lit 0)],.int .i64 (.lit 0)],[(1,[.cst 0 none,.bool (.lit true),.int .i64 (aF 0),.int .u64 (aj 1),.int .u64 (aj 2),.int .u64 (aj 3),.bool (.var 0),.bool (.var 1),.bool (.lit true),.int .i64 (ah 4),.bool (.var 2),.int .i64 (ah 5),.bool (.var 6),.map 2,.int .i64 (ah 9),.int .i64 (.lit 3),.int .i64 (.var 6),.bool (.var 3),.int .i64 (aK 7),.cst 1 none,.int .u32 (aW 8),.bool (.var 4),.bool (.lit false),.bool (.lit false)])],[(2,[])],1,[1]⟩]
def Tryz.zol:List (List (SB×Bool)×Nat):= [
 ([], 0)]
theorem Tryz.zuA:(ev prog (bB Xk) 100000 (.call 27 Xl (bn 0 Yj) (cK zom 0))).ways zuB=some zol:=by kernel_rfl
theorem Tryz.zxq:(bD Yj&&zag Xk&&AV.bK Xl&&dh zom)=true:=by kernel_rfl
def Tryz.Xe:List aG:= []
def Tryz.YO:List Sh:=oo 3
def Tryz.Xf:List AV:= [.ptr 1 0]
def Tryz.zux:List (SB×Bool):= []
def Tryz.zoh:List Leaf:= [
 ⟨.ay [.agg [.int .i64 (.lit 4),.int .i64 (.lit 0),.int .i64 (.lit 0)],.int .i64 (.lit 0)],[(1,[.cst 0 none,.bool (.lit true),.int .i64 (aF 0),.int .u64 (aj 1),.int .u64 (aj 2),.int .u64 (aj 3),.bool (.var 0),.bool (.var 1),.bool (.lit true),.int .i64 (ah 4),.bool (.var 2),.int .i64 (ah 5),.bool (.var 6),.map 2,.int .i64 (ah 9),.int .i64 (.lit 4),.int .i64 (.var 6),.bool (.var 3),.int .i64 (aK 7),.cst 1 none,.int .u32 (aW 8),.bool (.var 4),.bool (.lit false),.bool (.lit false)])],[(2,[])],0,[1]⟩]
def Tryz.zog:List (List (SB×Bool)×Nat):= [
 ([], 0)]
theorem Tryz.zuw:(ev prog (bB Xe) 100000 (.call 27 Xf (bn 0 YO) (cK zoh 0))).ways zux=some zog:=by kernel_rfl
theorem Tryz.zxp:(bD YO&&zag Xe&&AV.bK Xf&&dh zoh)=true:=by kernel_rfl
def Tryz.WO:List aG:= [LH (sJ 4 14),SL]
def Tryz.Yo:List Sh:=oo 4
def Tryz.WQ:List AV:= [.ptr 1 0]
def Tryz.zuL:List (SB×Bool):= []
def Tryz.zox:List Leaf:= [
 ⟨.ay [.agg [.int .i64 (.lit 2),.int .i64 (.lit 1),.int .i64 (ah 4)],.int .i64 (.lit 0)],[(1,[.cst 0 none,.bool (.lit true),.int .i64 (aF 0),.int .u64 (aj 1),.int .u64 (aj 2),.int .u64 (aj 3),.bool (.var 0),.bool (.var 1),.bool (.lit true),.int .i64 (ah 4),.bool (.var 2),.int .i64 (ah 5),.bool (.var 6),.map 2,.int .i64 (ah 9),.int .i64 (.lit 0),.int .i64 (.var 6),.bool (.lit true),.int .i64 (aK 7),.cst 1 none,.int .u32 (aW 8),.bool (.var 4),.bool (.lit true),.bool (.lit false)])],[(2,[])],0,[1]⟩,
 ⟨.ay [.agg [.int .i64 (.lit 2),.int .i64 (.lit 1),.int .i64 (ah 4)],.int .i64 (.lit 0)],[(1,[.cst 0 none,.bool (.lit true),.int .i64 (aF 0),.int .u64 (aj 1),.int .u64 (aj 2),.int .u64 (aj 3),.bool (.var 0),.bool (.var 1),.bool (.lit true),.int .i64 (ah 4),.bool (.var 2),.int .i64 (ah 5),.bool (.var 6),.map 2,.int .i64 (ah 9),.int .i64 (.lit 5),.int .i64 (.var 6),.bool (.var 3),.int .i64 (aK 7),.cst 1 none,.int .u32 (aW 8),.bool (.var 4),.bool (.lit false),.bool (.lit false)])],[(2,[])],0,[1]⟩]
def Tryz.zow:List (List (SB×Bool)×Nat):= [
 ([(.var 7,false)],0),
 ([(.var 7,true)],1)]
theorem Tryz.zuK:(ev prog (bB WO) 100000 (.call 27 WQ (bn 0 Yo) (cK zox 0))).ways zuL=some zow:=by kernel_rfl
theorem Tryz.zxu:(bD Yo&&zag WO&&AV.bK WQ&&dh zox)=true:=by kernel_rfl
def Tryz.V7:List aG:= []
def Tryz.Xh:List Sh:=oo 5
def Tryz.V8:List AV:= [.ptr 1 0]
def Tryz.zqt:List (SB×Bool):= []
def Tryz.Yi:List Leaf:= [
 ⟨.ay [.agg [.int .i64 (.lit 4),.int .i64 (.lit 0),.int .i64 (.lit 0)],.int .i64 (.lit 0)],[(1,[.cst 0 none,.bool (.lit true),.int .i64 (aF 0),.int .u64 (aj 1),.int .u64 (aj 2),.int .u64 (aj 3),.bool (.var 0),.bool (.var 1),.bool (.lit true),.int .i64 (ah 4),.bool (.var 2),.int .i64 (ah 5),.bool (.var 6),.map 2,.int .i64 (ah 9),.int .i64 (.lit 6),.int .i64 (.var 6),.bool (.var 3),.int .i64 (aK 7),.cst 1 none,.int .u32 (aW 8),.bool (.var 4),.bool (.lit false),.bool (.lit false)])],[(2,[])],0,[1]⟩]
def Tryz.Yh:List (List (SB×Bool)×Nat):= [
 ([], 0)]
theorem Tryz.zqs:(ev prog (bB V7) 100000 (.call 27 V8 (bn 0 Xh) (cK Yi 0))).ways zqt=some Yh:=by kernel_rfl
theorem Tryz.zuz:(bD Xh&&zag V7&&AV.bK V8&&dh Yi)=true:=by kernel_rfl
def Tryz.Xn:List aG:= [CB (.lit 0),SN,Cv 1 4 2 14]
def Tryz.Yl:List Sh:=wJ 6 (.int .i64 (aK 13)) none
def Tryz.WL:List AV:= [.ptr 1 0]
def Tryz.zuE:List (SB×Bool):= []
def Tryz.zou:List Leaf:= [
 ⟨.ay [.agg [.int .i64 (.lit 1),.int .i64 (.lit 0),.int .i64 (.lit 0)],.int .i64 (.lit 4)],[(1,[.cst 0 none,.bool (.lit true),.int .i64 (aF 0),.int .u64 (aj 1),.int .u64 (aj 2),.int .u64 (aj 3),.bool (.var 0),.bool (.var 1),.bool (.lit true),.int .i64 (ah 4),.bool (.var 2),.int .i64 (ah 5),.bool (.var 6),.map 2,.int .i64 (ah 9),.int .i64 (.lit 0),.int .i64 (.lit 0),.bool (.lit false),.int .i64 (.lit 0),.cO,.int .u32 (.lit 0),.bool (.lit false),.bool (.var 5),.bool (.lit true)])],[(2,[])],1,[1]⟩,
 ⟨.ay [.agg [.int .i64 (.lit 1),.int .i64 (.lit 0),.int .i64 (.lit 0)],.int .i64 (.lit 0)],[(1,[.cst 0 none,.bool (.lit true),.int .i64 (aF 0),.int .u64 (aj 1),.int .u64 (aj 2),.int .u64 (aj 3),.bool (.var 0),.bool (.var 1),.bool (.lit true),.int .i64 (ah 15),.bool (.var 8),.int .i64 (ah 5),.bool (.var 6),.map 2,.int .i64 (.bin .add .i64 (ah 9) (ah 14)),.int .i64 (.lit 0),.int .i64 (.var 6),.bool (.var 3),.int .i64 (aK 13),.opq 11 none,.int .u32 (aW 8),.bool (.var 4),.bool (.lit true),.bool (.lit false)])],[(2,[(.int .i64 (aK 13),some (.agg [.int .i64 (aK 13),.int .i64 (ah 14),.opq 9 none]))])],2,[1]⟩]
def Tryz.zot:List (List (SB×Bool)×Nat):= [
 ([((.cmp .gtr (.bin .add .i64 (ah 14) (ah 9)) (aF 0)),true)],0),
 ([((.cmp .gtr (.bin .add .i64 (ah 14) (ah 9)) (aF 0)),false)],1)]
theorem Tryz.zuD:(ev prog (bB Xn) 100000 (.call 27 WL (bn 0 Yl) (cK zou 0))).ways zuE=some zot:=by kernel_rfl
theorem Tryz.zxt:(bD Yl&&zag Xn&&AV.bK WL&&dh zou)=true:=by kernel_rfl
def Tryz.WC:List aG:= [CB (.var 17)]
def Tryz.WN:List Sh:=oo 6
def Tryz.WE:List AV:= [.ptr 1 0]
def Tryz.zqD:List (SB×Bool):= [(.cmp .neq (.var 17) (.lit 0),true)]
def Tryz.Yn:List Leaf:= [
 ⟨.ay [.agg [.int .i64 (.lit 1),.int .i64 (.lit 0),.int .i64 (.lit 0)],.int .i64 (.lit 4)],[(1,[.cst 0 none,.bool (.lit true),.int .i64 (aF 0),.int .u64 (aj 1),.int .u64 (aj 2),.int .u64 (aj 3),.bool (.var 0),.bool (.var 1),.bool (.lit true),.int .i64 (ah 4),.bool (.var 2),.int .i64 (ah 5),.bool (.var 6),.map 2,.int .i64 (ah 9),.int .i64 (.lit 0),.int .i64 (.lit 0),.bool (.lit false),.int .i64 (.lit 0),.cO,.int .u32 (.lit 0),.bool (.lit false),.bool (.var 5),.bool (.lit true)])],[(2,[])],1,[1]⟩]
def Tryz.zuI:List (List (SB×Bool)×Nat):= [
 ([], 0)]
theorem Tryz.zqC:(ev prog (bB WC) 100000 (.call 27 WE (bn 0 WN) (cK Yn 0))).ways zqD=some zuI:=by kernel_rfl
theorem Tryz.zuJ:(bD WN&&zag WC&&AV.bK WE&&dh Yn)=true:=by kernel_rfl
def Tryz.WA:List aG:= [CB (.lit 0)]
def Tryz.WM:List Sh:=wJ 6 (.int .i64 (aK 13)) (some (.agg [.int .i64 (aK 13),.int .i64 (ah 19),.cst 2 none]))
def Tryz.WB:List AV:= [.ptr 1 0]
def Tryz.zqB:List (SB×Bool):= []
def Tryz.Ym:List Leaf:= [
 ⟨.ay [.agg [.int .i64 (.lit 1),.int .i64 (.lit 0),.int .i64 (.lit 0)],.int .i64 (.lit 4)],[(1,[.cst 0 none,.bool (.lit true),.int .i64 (aF 0),.int .u64 (aj 1),.int .u64 (aj 2),.int .u64 (aj 3),.bool (.var 0),.bool (.var 1),.bool (.lit true),.int .i64 (ah 4),.bool (.var 2),.int .i64 (ah 5),.bool (.var 6),.map 2,.int .i64 (ah 9),.int .i64 (.lit 0),.int .i64 (.lit 0),.bool (.lit false),.int .i64 (.lit 0),.cO,.int .u32 (.lit 0),.bool (.lit false),.bool (.var 5),.bool (.lit true)])],[(2,[])],1,[1]⟩]
def Tryz.zuG:List (List (SB×Bool)×Nat):= [
 ([], 0)]
theorem Tryz.zqA:(ev prog (bB WA) 100000 (.call 27 WB (bn 0 WM) (cK Ym 0))).ways zqB=some zuG:=by kernel_rfl
theorem Tryz.zuH:(bD WM&&zag WA&&AV.bK WB&&dh Ym)=true:=by kernel_rfl
def Tryz.V4:List aG:= []
def Tryz.Xg:List Sh:=oo 8
def Tryz.V5:List AV:= [.ptr 1 0]
def Tryz.zqq:List (SB×Bool):= []
def Tryz.Yg:List Leaf:= [
 ⟨.ay [.agg [.int .i64 (.lit 4),.int .i64 (.lit 0),.int .i64 (.lit 0)],.int .i64 (.lit 0)],[(1,[.cst 0 none,.bool (.lit true),.int .i64 (aF 0),.int .u64 (aj 1),.int .u64 (aj 2),.int .u64 (aj 3),.bool (.var 0),.bool (.var 1),.bool (.lit true),.int .i64 (ah 4),.bool (.var 2),.int .i64 (ah 5),.bool (.var 6),.map 2,.int .i64 (ah 9),.int .i64 (.lit 9),.int .i64 (.var 6),.bool (.var 3),.int .i64 (aK 7),.cst 1 none,.int .u32 (aW 8),.bool (.var 4),.bool (.lit false),.bool (.lit false)])],[(2,[])],0,[1]⟩]
def Tryz.Yf:List (List (SB×Bool)×Nat):= [
 ([], 0)]
theorem Tryz.zqp:(ev prog (bB V4) 100000 (.call 27 V5 (bn 0 Xg) (cK Yg 0))).ways zqq=some Yf:=by kernel_rfl
theorem Tryz.zuy:(bD Xg&&zag V4&&AV.bK V5&&dh Yg)=true:=by kernel_rfl
def Tryz.VZ:List aG:= [SV 0,FD (sJ 5 14) 2 (aK 18)]
def Tryz.Xd:List Sh:=oo 9
def Tryz.V3:List AV:= [.ptr 1 0]
def Tryz.zqn:List (SB×Bool):= [(.cmp .gtr (aW 8) (.lit 0),false)]
def Tryz.YN:List Leaf:= [
 ⟨.ay [.agg [.int .i64 (.lit 3),.int .i64 (.lit 1),.int .i64 (ah 5)],.int .i64 (.lit 0)],[(1,[.cst 0 none,.bool (.lit true),.int .i64 (aF 0),.int .u64 (aj 1),.int .u64 (aj 2),.int .u64 (aj 3),.bool (.var 0),.bool (.var 1),.bool (.lit true),.int .i64 (ah 4),.bool (.var 2),.int .i64 (ah 5),.bool (.var 6),.map 2,.int .i64 (ah 9),.int .i64 (.lit 10),.int .i64 (.var 6),.bool (.var 3),.int .i64 (aK 7),.cst 1 none,.int .u32 (aW 8),.bool (.var 4),.bool (.lit false),.bool (.lit false)])],[(2,[])],1,[1]⟩]
def Tryz.YM:List (List (SB×Bool)×Nat):= [
 ([], 0)]
theorem Tryz.zqm:(ev prog (bB VZ) 100000 (.call 27 V3 (bn 0 Xd) (cK YN 0))).ways zqn=some YM:=by kernel_rfl
theorem Tryz.zuv:(bD Xd&&zag VZ&&AV.bK V3&&dh YN)=true:=by kernel_rfl
def Tryz.VX:List aG:= [SV 2,FD (sJ 5 14) 2 (aK 18)]
def Tryz.Xc:List Sh:=oo 9
def Tryz.VY:List AV:= [.ptr 1 0]
def Tryz.zqk:List (SB×Bool):= [(.cmp .gtr (aW 8) (.lit 0),true)]
def Tryz.YL:List Leaf:= [
 ⟨.ay [.agg [.int .i64 (.lit 3),.int .i64 (.lit 1),.int .i64 (ah 5)],.int .i64 (.lit 0)],[(1,[.cst 0 none,.bool (.lit true),.int .i64 (aF 0),.int .u64 (aj 1),.int .u64 (aj 2),.int .u64 (aj 3),.bool (.var 0),.bool (.var 1),.bool (.lit true),.int .i64 (ah 4),.bool (.var 2),.int .i64 (ah 5),.bool (.var 6),.map 2,.int .i64 (ah 9),.int .i64 (.lit 10),.int .i64 (.var 6),.bool (.var 3),.int .i64 (aK 7),.cst 1 none,.int .u32 (aW 8),.bool (.var 4),.bool (.lit false),.bool (.lit false)])],[(2,[])],1,[1]⟩]
def Tryz.YK:List (List (SB×Bool)×Nat):= [
 ([], 0)]
theorem Tryz.zqj:(ev prog (bB VX) 100000 (.call 27 VY (bn 0 Xc) (cK YL 0))).ways zqk=some YK:=by kernel_rfl
theorem Tryz.zuu:(bD Xc&&zag VX&&AV.bK VY&&dh YL)=true:=by kernel_rfl
def Tryz.VQ:List aG:= []
def Tryz.V9:List Sh:=oo 10
def Tryz.VR:List AV:= [.ptr 1 0]
def Tryz.zoj:List (SB×Bool):= []
def Tryz.Xj:List Leaf:= [
 ⟨.ay [.agg [.int .i64 (.lit 4),.int .i64 (.lit 0),.int .i64 (.lit 0)],.int .i64 (.lit 0)],[(1,[.cst 0 none,.bool (.lit true),.int .i64 (aF 0),.int .u64 (aj 1),.int .u64 (aj 2),.int .u64 (aj 3),.bool (.var 0),.bool (.var 1),.bool (.lit true),.int .i64 (ah 4),.bool (.var 2),.int .i64 (ah 5),.bool (.var 6),.map 2,.int .i64 (ah 9),.int .i64 (.lit 11),.int .i64 (.var 6),.bool (.var 3),.int .i64 (aK 7),.cst 1 none,.int .u32 (aW 8),.bool (.var 4),.bool (.lit false),.bool (.lit false)])],[(2,[])],0,[1]⟩]
def Tryz.Xi:List (List (SB×Bool)×Nat):= [
 ([], 0)]
theorem Tryz.zoi:(ev prog (bB VQ) 100000 (.call 27 VR (bn 0 V9) (cK Xj 0))).ways zoj=some Xi:=by kernel_rfl
theorem Tryz.zqw:(bD V9&&zag VQ&&AV.bK VR&&dh Xj)=true:=by kernel_rfl
def Tryz.Xu:List aG:= [Cw (aj 2),Cv 0 5 6 14]
def Tryz.Y4:List Sh:=wJ 11 (.int .i64 (aK 7)) (some (.agg [.int .i64 (aK 7),.int .i64 (ah 14),.cst 2 none]))
def Tryz.Xv:List AV:= [.ptr 1 0]
def Tryz.zui:List (SB×Bool):= [(.cmp .eql (.aQ [⟨11,0,4294967295,16,2,0⟩] 0) (.lit 0),true)]
def Tryz.zns:List Leaf:= [
 ⟨.ay [.agg [.int .i64 (.lit 2),.int .i64 (.lit 10),.int .i64 (.lit 0)],.int .i64 (.lit 0)],[(1,[.cst 0 none,.bool (.lit true),.int .i64 (aF 0),.int .u64 (aj 1),.int .u64 (aj 2),.int .u64 (aj 3),.bool (.var 0),.bool (.var 1),.bool (.lit true),.int .i64 (ah 4),.bool (.var 2),.int .i64 (ah 15),.bool (.var 8),.map 2,.int .i64 (.bin .sub .i64 (ah 9) (ah 14)),.int .i64 (.lit 0),.int .i64 (.var 6),.bool (.var 3),.int .i64 (aK 7),.cst 1 none,.int .u32 (aW 8),.bool (.lit true),.bool (.lit true),.bool (.lit false)])],[(2,[(.int .i64 (aK 7),none)])],0,[1]⟩]
def Tryz.znr:List (List (SB×Bool)×Nat):= [
 ([], 0)]
theorem Tryz.zuh:(ev prog (bB Xu) 100000 (.call 27 Xv (bn 0 Y4) (cK zns 0))).ways zui=some znr:=by kernel_rfl
theorem Tryz.zwr:(bD Y4&&zag Xu&&AV.bK Xv&&dh zns)=true:=by kernel_rfl
def Tryz.Wq:List aG:= [Cw (aj 2),Cv 0 5 6 14]
def Tryz.Xt:List Sh:=wJ 11 (.int .i64 (aK 7)) (some (.agg [.int .i64 (aK 7),.int .i64 (ah 14),.cst 2 none]))
def Tryz.Ws:List AV:= [.ptr 1 0]
def Tryz.zp8:List (SB×Bool):= [(.cmp .eql (.aQ [⟨11,0,4294967295,16,2,0⟩] 0) (.lit 0),false),(.cmp .eql (.aQ [⟨11,0,4294967295,16,2,0⟩] 0) (.lit 2),true),(.cmp .geq (.aQ [⟨11,0,4294967295,0,15,0⟩] 0) (aF 0),true)]
def Tryz.Y1:List Leaf:= [
 ⟨.ay [.agg [.int .i64 (.lit 2),.int .i64 (.lit 10),.int .i64 (.lit 0)],.int .i64 (.lit 0)],[(1,[.cst 0 none,.bool (.lit true),.int .i64 (aF 0),.int .u64 (aj 1),.int .u64 (aj 2),.int .u64 (aj 3),.bool (.var 0),.bool (.var 1),.bool (.lit true),.int .i64 (ah 4),.bool (.var 2),.int .i64 (ah 15),.bool (.var 8),.map 2,.int .i64 (.bin .sub .i64 (ah 9) (ah 14)),.int .i64 (.lit 0),.int .i64 (.var 6),.bool (.var 3),.int .i64 (aK 7),.cst 1 none,.int .u32 (aW 8),.bool (.lit true),.bool (.lit true),.bool (.lit false)])],[(2,[(.int .i64 (aK 7),none)])],0,[1]⟩]
def Tryz.Y0:List (List (SB×Bool)×Nat):= [
 ([], 0)]
theorem Tryz.zp7:(ev prog (bB Wq) 100000 (.call 27 Ws (bn 0 Xt) (cK Y1 0))).ways zp8=some Y0:=by kernel_rfl
theorem Tryz.zuf:(bD Xt&&zag Wq&&AV.bK Ws&&dh Y1)=true:=by kernel_rfl
def Tryz.Wt:List aG:= [Cw (aj 2),Cv 0 5 6 14,SX]
def Tryz.zig:List Sh:=wJ 11 (.int .i64 (aK 7)) (some (.agg [.int .i64 (aK 7),.int .i64 (ah 14),.cst 2 none]))
def Tryz.Wu:List AV:= [.ptr 1 0]
def Tryz.zqb:List (SB×Bool):= [(.cmp .eql (.aQ [⟨11,0,4294967295,16,2,0⟩] 0) (.lit 0),false),(.cmp .eql (.aQ [⟨11,0,4294967295,16,2,0⟩] 0) (.lit 2),true),(.cmp .geq (.aQ [⟨11,0,4294967295,0,15,0⟩] 0) (aF 0),false)]
def Tryz.Y3:List Leaf:= [
 ⟨.ay [.agg [.int .i64 (.lit 2),.int .i64 (.lit 10),.int .i64 (.lit 0)],.int .i64 (.lit 0)],[(1,[.cst 0 none,.bool (.lit true),.int .i64 (aF 0),.int .u64 (aj 1),.int .u64 (aj 2),.int .u64 (aj 3),.bool (.var 0),.bool (.var 1),.bool (.lit true),.int .i64 (ah 4),.bool (.var 2),.int .i64 (ah 15),.bool (.var 8),.map 2,.int .i64 (.bin .sub .i64 (ah 9) (ah 14)),.int .i64 (.lit 0),.int .i64 (.var 6),.bool (.var 3),.int .i64 (aK 7),.cst 1 none,.int .u32 (aW 8),.bool (.var 9),.bool (.lit true),.bool (.lit false)])],[(2,[(.int .i64 (aK 7),none)])],0,[1]⟩]
def Tryz.Y2:List (List (SB×Bool)×Nat):= [
 ([], 0)]
theorem Tryz.zqa:(ev prog (bB Wt) 100000 (.call 27 Wu (bn 0 zig) (cK Y3 0))).ways zqb=some Y2:=by kernel_rfl
theorem Tryz.zug:(bD zig&&zag Wt&&AV.bK Wu&&dh Y3)=true:=by kernel_rfl
def Tryz.Xq:List aG:= [Cw (aj 2),Cv 0 5 6 14]
def Tryz.YZ:List Sh:=wJ 11 (.int .i64 (aK 7)) (some (.agg [.int .i64 (aK 7),.int .i64 (ah 14),.cst 2 none]))
def Tryz.Xr:List AV:= [.ptr 1 0]
def Tryz.zud:List (SB×Bool):= [(.cmp .eql (.aQ [⟨11,0,4294967295,16,2,0⟩] 0) (.lit 0),false),(.cmp .eql (.aQ [⟨11,0,4294967295,16,2,0⟩] 0) (.lit 2),false)]
def Tryz.znq:List Leaf:= [
 ⟨.ay [.agg [.int .i64 (.lit 2),.int .i64 (.lit 10),.int .i64 (.lit 0)],.int .i64 (.lit 0)],[(1,[.cst 0 none,.bool (.lit true),.int .i64 (aF 0),.int .u64 (aj 1),.int .u64 (aj 2),.int .u64 (aj 3),.bool (.var 0),.bool (.var 1),.bool (.lit true),.int .i64 (ah 4),.bool (.var 2),.int .i64 (ah 15),.bool (.var 8),.map 2,.int .i64 (.bin .sub .i64 (ah 9) (ah 14)),.int .i64 (.lit 0),.int .i64 (.var 6),.bool (.var 3),.int .i64 (aK 7),.cst 1 none,.int .u32 (aW 8),.bool (.var 4),.bool (.lit true),.bool (.lit false)])],[(2,[(.int .i64 (aK 7),none)])],0,[1]⟩]
def Tryz.znp:List (List (SB×Bool)×Nat):= [
 ([], 0)]
theorem Tryz.zuc:(ev prog (bB Xq) 100000 (.call 27 Xr (bn 0 YZ) (cK znq 0))).ways zud=some znp:=by kernel_rfl
theorem Tryz.zwq:(bD YZ&&zag Xq&&AV.bK Xr&&dh znq)=true:=by kernel_rfl
open Go.RowKit
structure Tryz.jN (A:Nat→Prop) (w:World) (M:Nat) (n:Int) (tk:List (Int×bN)):Prop where
 map: ∃arr clock,w.heap[M]? =some (.map arr clock)∧(jV arr∧lG arr clock)∧ ∀k:Int,(bY k tk=none→dz arr k=none)∧ ∀t,bY k tk=some t→ ∃v,dz arr k=some (.agg #[.int .i64 k,.int .i64 t.ct,v])∧aX A w v t.sg
 keys:(tk.map (·.1)).Nodup
 dH: ∀e∈tk,(0≤e.1∧e.1<n)∧1≤e.2.ct∧e.2.ct≤n
theorem Tryz.jN.kept {A:Nat→Prop} {w w':World} {M:Nat} {n:Int} {tk:List (Int×bN)} (h:jN A w M n tk) (hM:w'.heap[M]? =w.heap[M]?) (hk: ∀k,k<w.heap.size→ ¬A k→w'.heap[k]? =w.heap[k]?):jN A w' M n tk:=by
 obtain ⟨arr,clock,h1,h2,h3⟩:=h.map;refine ⟨⟨arr,clock,hM.trans h1,h2,fun k=>⟨(h3 k).1,fun t ht=> ?_⟩⟩,h.keys,h.dH⟩;obtain ⟨v,h4,h5⟩:=(h3 k).2 t ht;exact ⟨v,h4,h5.kept hk⟩
theorem Tryz.qJ {k:Int} {t:bN}: ∀ {tk:List (Int×bN)},bY k tk=some t→(k,t)∈tk
 | [], h=>by cases h
 | e::r,h=>by
  unfold bY at h;split at h
  ·rename_i he;cases h;exact yad.2 (.inl (by rw [he]))
  ·exact yam _ (qJ h)
theorem Tryz.Y7 {k h:Int} {l:bN}: ∀ {tk:List (Int×bN)},bY h tk=none→bY k (tk++ [(h,l)])=if k=h then some l else bY k tk
 | [], _=>by simp only [ydG,bY]
 | e::r,hn=>by
  unfold bY at hn;split at hn
  ·cases hn
  ·rename_i hne;simp only [yco,bY];rw [Y7 hn];by_cases hk:k=e.1
   ·rw [yaj hk,yai (fun hh=>hne (by rw [←hh,hk])),yaj hk]
   ·rw [yai hk,yai hk]
theorem Tryz.Gm {k:Int}: ∀ {tk:List (Int×bN)},bY k tk=none↔k∉tk.map (·.1)
 | [] => by simp [bY]
 | e::r=>by
  unfold bY;by_cases h:k=e.1
  ·simp [h]
  ·rw [yai h,Gm (tk:=r)];simp [h]
theorem Tryz.zX (k:Int): ∀(tk:List (Int×bN)),(iB k tk).Sublist tk
 | [] => List.Sublist.refl _
 | e::r=>by
  unfold iB;split
  ·exact List.sublist_cons_self ..
  ·exact (zX k r).cons_cons _
theorem Tryz.znx {k h:Int}: ∀ {tk:List (Int×bN)},(tk.map (·.1)).Nodup→bY k (iB h tk)=if k=h then none else bY k tk
 | [], _=>by simp [iB,bY]
 | e::r,hn=>by
  rw [yaJ,List.nodup_cons] at hn;unfold iB;by_cases hh:h=e.1
  ·rw [yaj hh];by_cases hk:k=h
   ·rw [yaj hk];exact Gm.2 (by rw [hk,hh];exact hn.1)
   ·rw [yai hk];unfold bY;rw [yai (fun e'=>hk (e'.trans hh.symm))];cases r<;>simp only [bY]
  ·rw [yai hh];unfold bY;rw [znx hn.2];by_cases hk:k=e.1
   ·rw [yaj hk,yaj hk,yai (fun e'=>hh (e'.symm.trans hk))]
   ·rw [yai hk,yai hk]
theorem Tryz.Y6 (h:Int) (t:bN): ∀tk:List (Int×bN),gX (tk++ [(h,t)])=gX tk+t.ct
 | [] => by simp [gX]
 | e::r=>by simp only [yco,gX,Y6 h t r];omega
theorem Tryz.Dm {h:Int} {t:bN}: ∀ {tk:List (Int×bN)},bY h tk=some t→gX (iB h tk)=gX tk-t.ct
 | [], hh=>by cases hh
 | e::r,hh=>by
  unfold bY at hh;unfold iB;by_cases he:h=e.1
  ·rw [yaj he] at hh ⊢;cases hh;simp only [gX];omega
  ·rw [yai he] at hh ⊢;simp only [gX,Dm hh];omega
theorem Tryz.jN.same {A:Nat→Prop} {w w':World} {M:Nat} {n:Int} {tk:List (Int×bN)} (h:jN A w M n tk) (hk: ∀k,k<w.heap.size→ ¬A k→w'.heap[k]? =w.heap[k]?)
  (hm: ∃arr clock dm eU,w'.heap[M]? =some (.map arr clock)∧w.heap[M]? =some (.map dm eU)∧(jV arr∧lG arr clock)∧ ∀k,dz arr k=dz dm k):jN A w' M n tk:=by
 obtain ⟨arr,clock,dm,eU,h1,h2,h3,h4⟩:=hm;obtain ⟨oZ,clock1,g1,g2,g3⟩:=h.map;rw [g1] at h2;cases h2;refine ⟨⟨arr,clock,h1,h3,fun k=>⟨fun hk'=>(h4 k).trans ((g3 k).1 hk'),fun t ht=> ?_⟩⟩,h.keys,h.dH⟩;obtain ⟨v,g4,g5⟩:=(g3 k).2 t ht;exact ⟨v,(h4 k).trans g4,g5.kept hk⟩
theorem Tryz.jN.put {A:Nat→Prop} {w w':World} {M:Nat} {n:Int} {tk:List (Int×bN)} (h:jN A w M n tk) (hk: ∀k,k<w.heap.size→ ¬A k→w'.heap[k]? =w.heap[k]?) {x:Int} {t:bN} {v:Value} (hx:bY x tk=none) (hx0:(0≤x∧x<n)∧1≤t.ct∧t.ct≤n) (hv:aX A w' v t.sg)
  (hm: ∃arr clock dm eU,w'.heap[M]? =some (.map arr clock)∧w.heap[M]? =some (.map dm eU)∧(jV arr∧lG arr clock)∧ ∀k,dz arr k=if k=x then some (.agg #[.int .i64 x,.int .i64 t.ct,v]) else dz dm k):jN A w' M n (tk++ [(x,t)]):=by
 obtain ⟨arr,clock,dm,eU,h1,h2,h3,h4⟩:=hm;obtain ⟨oZ,clock1,g1,g2,g3⟩:=h.map;rw [g1] at h2;cases h2;refine ⟨⟨arr,clock,h1,h3,fun k=> ?_⟩,?_,fun e he=> ?_⟩
 ·rw [Y7 hx,h4];by_cases hkx:k=x
  ·rw [yaj hkx,yaj hkx];exact ⟨fun h=>(by cases h),fun t' ht'=>(by cases ht';exact ⟨v,by rw [hkx],hv⟩)⟩
  ·rw [yai hkx,yai hkx];refine ⟨(g3 k).1,fun t' ht'=> ?_⟩;obtain ⟨v',g4,g5⟩:=(g3 k).2 t' ht';exact ⟨v',g4,g5.kept hk⟩
 ·rw [ycK,ydn];refine ⟨h.keys,by simp,fun a ha b hb hab=> ?_⟩;simp only [yaJ,yaZ,yaD] at hb;subst hb hab;exact Gm.1 hx ha
 ·rcases yaR.1 he with he|he
  ·exact h.dH e he
  ·rw [yaD] at he;subst he;exact hx0
theorem Tryz.jN.del {A:Nat→Prop} {w w':World} {M:Nat} {n:Int} {tk:List (Int×bN)} (h:jN A w M n tk) (hk: ∀k,k<w.heap.size→ ¬A k→w'.heap[k]? =w.heap[k]?) {x:Int}
  (hm: ∃arr clock dm eU,w'.heap[M]? =some (.map arr clock)∧w.heap[M]? =some (.map dm eU)∧(jV arr∧lG arr clock)∧ ∀k,dz arr k=if k=x then none else dz dm k):jN A w' M n (iB x tk):=by
 obtain ⟨arr,clock,dm,eU,h1,h2,h3,h4⟩:=hm;obtain ⟨oZ,clock1,g1,g2,g3⟩:=h.map;rw [g1] at h2;cases h2;refine ⟨⟨arr,clock,h1,h3,fun k=> ?_⟩,((zX x tk).map (·.1)).nodup h.keys,fun e he=>h.dH e ((zX x tk).subset he)⟩;rw [znx h.keys,h4];by_cases hkx:k=x
 ·rw [yaj hkx,yaj hkx];exact ⟨fun _=>rfl,fun t' ht'=>(by cases ht')⟩
 ·rw [yai hkx,yai hkx];refine ⟨(g3 k).1,fun t' ht'=> ?_⟩;obtain ⟨v',g4,g5⟩:=(g3 k).2 t' ht';exact ⟨v',g4,g5.kept hk⟩
structure Tryz.PB (r:Rg) (s:PS):Prop where
 nx:0≤s.nx∧s.nx<r.n
 us:0≤s.us∧s.us<r.n
 ou:s.ou=gX s.tk∧s.ou≤r.n
 hd:0≤s.hd∧s.hd<65536
 wr:0≤s.wr∧s.wr<4294967296
 ph:s.ph≤11
 ret:7≤s.ph→ ∃t,bY s.hd s.tk=some t
structure Tryz.PW (A:Nat→Prop) (w:World) (S P L Bs B M N:Nat) (r:Rg) (s:PS) (g:Nat→Int):Prop where
 obj: ∃sv,Own w S (s.row r P M sv)∧aX A w sv s.sg
 tk:jN A w M r.n s.tk
 ne:S≠M
 aS:A S
 aM:A M
 rg:jG r
 pb:PB r s
 mem:GM w P L Bs B N g
 hN:N≤1048576
 sd:S≠P∧S≠L∧S≠Bs∧S≠B
 md:M≠P∧M≠L∧M≠Bs∧M≠B
 aB:A B
 lt: ∀b,A b→b<w.heap.size
 fit:4104+16*r.n≤N
section
variable {A:Nat→Prop} {w w':World} {S P L Bs B M N:Nat} {r:Tryz.Rg} {s s':Tryz.PS} {g g':Nat→Int}
theorem Tryz.PW.zM (h:PW A w S P L Bs B M N r s g):S<w.heap.size:=h.lt _ h.aS
theorem Tryz.PW.Cn (h:PW A w S P L Bs B M N r s g):M<w.heap.size:=h.lt _ h.aM
theorem Tryz.PW.kept (h:PW A w S P L Bs B M N r s g) (hS:w'.heap[S]? =w.heap[S]?) (hM:w'.heap[M]? =w.heap[M]?) (hk: ∀k,k<w.heap.size→ ¬A k→w'.heap[k]? =w.heap[k]?) (hg: ∀k,(k=P∨k=L∨k=Bs∨k=B)→w'.heap[k]? =w.heap[k]?) (hs:w.heap.size≤w'.heap.size):PW A w' S P L Bs B M N r s g:=by
 obtain ⟨sv,h1,h2⟩:=h.obj;exact ⟨⟨sv,h1.kept hS,h2.kept hk⟩,h.tk.kept hM hk,h.ne,h.aS,h.aM,h.rg,h.pb,h.mem.kept (fun k _ h=>hg k h) hs,h.hN,h.sd,h.md,h.aB,fun b hb=>yae (h.lt b hb) hs,h.fit⟩
theorem Tryz.PW.below (h:PW A w S P L Bs B M N r s g) (hb:Below w.heap.size w w'):PW A w' S P L Bs B M N r s g:=
 h.kept (hb.block _ h.zM) (hb.block _ h.Cn) (fun k hk _=>hb.block k hk) (fun k hk=>by rcases hk with rfl|rfl|rfl|rfl;exact hb.block _ h.mem.pl;exact hb.block _ h.mem.ll;exact hb.block _ h.mem.sl;exact hb.block _ h.mem.bl) hb.size
theorem Tryz.PW.kA (h:PW A w S P L Bs B M N r s g) (hm:Dw.Mv (sK S M B) w w'): ∀k,k<w.heap.size→ ¬A k→w'.heap[k]? =w.heap[k]? :=fun k hk ha=>
 hm.block k hk fun hh=>ha (by rcases hh with rfl|rfl|rfl;exact h.aS;exact h.aM;exact h.aB)
theorem Tryz.PW.next (h:PW A w S P L Bs B M N r s g) (hm:Dw.Mv (sK S M B) w w') (hg:GM w' P L Bs B N g') (ho: ∃sv,Own w' S (s'.row r P M sv)∧aX A w' sv s'.sg) (ht:jN A w' M r.n s'.tk) (hb:PB r s'):PW A w' S P L Bs B M N r s' g':=
 ⟨ho,ht,h.ne,h.aS,h.aM,h.rg,hb,hg,h.hN,h.sd,h.md,h.aB,fun b hb=>yae (h.lt b hb) hm.size,h.fit⟩
theorem Tryz.PW.mine (h:PW A w S P L Bs B M N r s g): ∀b,b=P∨b=L∨b=Bs∨b=B→ ¬Mine (aT [(S,0),(M,0)]) b:=fun b hb hm=>by
 obtain ⟨n,L',h1,_,h3⟩:=hm
 match n,h1 with
 | 0,h1=>cases h1
 | 1,h1=>cases h1;subst h3;rcases hb with e|e|e|e;exact h.sd.1 e;exact h.sd.2.1 e;exact h.sd.2.2.1 e;exact h.sd.2.2.2 e
 | 2,h1=>cases h1;subst h3;rcases hb with e|e|e|e;exact h.md.1 e;exact h.md.2.1 e;exact h.md.2.2.1 e;exact h.md.2.2.2 e
 | n+3,h1=>cases h1
theorem Tryz.PW.apart (h:PW A w S P L Bs B M N r s g) {row:List AV} {kn:List (AV×Option AV)}:apart [(S,0),(M,0)] [.own row,.dB kn]:=
 ⟨fun _ i b' s' h1 _ _=>(by
  match i,h1 with
  | 0,h1=>cases h1;exact h.ne
  | i+1,h1=>cases h1),⟨fun _ i b' s' h1 _ _=>(by cases h1),trivial⟩⟩
theorem Tryz.PW.gP (h:PW A w S P L Bs B M N r s g): ∀b,sK S M B b→b<w.heap.size:=fun b hb=>by
 rcases hb with rfl|rfl|rfl
 ·exact h.lt _ h.aS
 ·exact h.lt _ h.aM
 ·exact h.lt _ h.aB
theorem Tryz.PW.Lp (h:PW A w S P L Bs B M N r s g): ∀k,(k=P∨k=L∨k=Bs∨k=B)→ ¬(k=S∨k=M):=fun k hk hh=>by
 rcases hh with rfl|rfl
 ·rcases hk with e|e|e|e;exact h.sd.1 e;exact h.sd.2.1 e;exact h.sd.2.2.1 e;exact h.sd.2.2.2 e
 ·rcases hk with e|e|e|e;exact h.md.1 e;exact h.md.2.1 e;exact h.md.2.2.1 e;exact h.md.2.2.2 e
end
theorem Tryz.jG.nums {r:Rg} (h:jG r):(1≤r.n∧r.n≤32768)∧(0≤r.d∧r.d<18446744073709551616)∧(0≤r.v∧r.v<18446744073709551616)∧(0≤r.c∧r.c<18446744073709551616):=by
 have h1:=h.bnd;have h2:=h.d;have h3:=h.v;have h4:=h.c;omega
structure Tryz.Be (ρ:Val) (r:Rg) (s:PS) (p sv:Value):Prop where
 n:(aF 0).den ρ=r.n
 d:(aj 1).den ρ=r.d
 v:(aj 2).den ρ=r.v
 c:(aj 3).den ρ=r.c
 nx:(ah 4).den ρ=s.nx
 us:(ah 5).den ρ=s.us
 op:ρ.i 6=s.op
 hd:(aK 7).den ρ=s.hd
 wr:(aW 8).den ρ=s.wr
 ou:(ah 9).den ρ=s.ou
 b0:ρ.b 0=s.ev
 b1:ρ.b 1=s.tb
 b2:ρ.b 2=s.nw
 b3:ρ.b 3=s.nn
 b4:ρ.b 4=s.it
 b5:ρ.b 5=s.dn
 b6:ρ.b 6=s.uw
 p:ρ.v 0=p
 sv:ρ.v 1=sv
def Tryz.bH (r:Rg) (s:PS) (xs:List Int) (bs:List Bool) (p sv x2:Value):Val:=cB (r.n::r.d::r.v::r.c::s.nx::s.us::s.op::s.hd::s.wr::s.ou::xs) (s.ev::s.tb::s.nw::s.nn::s.it::s.dn::s.uw::bs) [p,sv,x2]
theorem Tryz.ko {n:Int}: ∀ {tk:List (Int×bN)},(∀e∈tk,(0≤e.1∧e.1<n)∧1≤e.2.ct∧e.2.ct≤n)→0≤gX tk
 | [], _=>ybW 0
 | e::t,h=>by
  have h1:=h e (yav ..);have h2:=ko (tk:=t) fun x hx=>h x (yam _ hx);show 0≤e.2.ct+gX t;omega
theorem Tryz.jT {r:Rg} {s:PS} (hr:jG r) (hb:PB r s) (ho:0≤s.ou) (xs:List Int) (bs:List Bool) (p sv x2:Value):Be (bH r s xs bs p sv x2) r s p sv:=by
 obtain ⟨⟨n1,n2⟩,⟨d1,d2⟩,⟨v1,v2⟩,c1,c2⟩:=hr.nums;have h1:=hb.nx;have h2:=hb.us;have h3:=hb.ou;exact ⟨uf n1 n2,fM d1 d2,fM v1 v2,fM c1 c2,dK h1.1 (by show s.nx<_;omega),dK h2.1 (by show s.us<_;omega),rfl,jC hb.hd.1 hb.hd.2,lU hb.wr.1 hb.wr.2,dK ho (by show s.ou<_;omega),rfl,rfl,rfl,rfl,rfl,rfl,rfl,rfl,rfl⟩
theorem Tryz.jS {ρ:Val} {j:J} {r:Rg} {s:PS} {P M:Nat} {sv:Value} {ph:Int} (hd:Be ρ r s (.pointer (some ⟨P,0,none⟩)) sv) (hb:s.br=false) (hp:(s.ph:Int)=ph) (hsv:sv.oneCell'=true) (hj:j 2=some ⟨M,0,0,none⟩):RL ρ j (LK ph (.lit false)) (s.row r P M sv):=by
 refine af (gY hd.p rfl) (af (aU rfl) (af (ai hd.n) (af (ai hd.d) (af (ai hd.v) (af (ai hd.c) (af (aU hd.b0) (af (aU hd.b1) (af (aU rfl) (af (ai hd.nx) (af (aU hd.b2) (af (ai hd.us) (af (aU hd.b6) (af (Vq hj) (af (ai hd.ou) (af (ai ?_)
  (af (ai hd.op) (af (aU hd.b3) (af (ai hd.hd) (af (gY hd.sv hsv) (af (ai hd.wr) (af (aU hd.b4) (af (aU hd.b5) (af (aU ?_) RL.nil)))))))))))))))))))))))
 ·exact hp.symm
 ·exact hb.symm
theorem Tryz.nP {A:Nat→Prop} {w:World} {M:Nat} {n:Int} {tk:List (Int×bN)} {ρ:Val} {j:J} {K:Nat→Prop} {g:bg} (h:jN A w M n tk) (hK:K M):wQ ρ j (iT w K g) (M,0) (.dB []):=by
 obtain ⟨arr,clock,h1,h2,_⟩:=h.map;exact ⟨hK,rfl,arr,clock,[],h1,h2,rfl,fun _ _ h=>by cases h⟩
section
variable {ρ:Val} {w0:World} {K:Nat→Prop} {P L Bs B N:Nat} {g:Nat→Int} {gs:List (Nat→Int)}
theorem Tryz.zw5 {a:SE} {x:Int} (hN:N≤1048576) (hp:ρ.v 0= .pointer (some ⟨P,0,none⟩)) (ha:a.den ρ=x) (h0:0≤x) (hin:x+2≤N) (hx:(aK 11).den ρ=ax g x.toNat 2):jM prog ρ w0 K (jQ P L Bs B N (g::gs)) (LH a):=
  iQ (Dw.enters_of (by kernel_rfl)) (by rfl) [.pointer (some ⟨P,0,none⟩),.int .u64 x,.int .i64 2] (.tuple #[.int .u64 (ax g x.toNat 2),.int .i64 0]) (fun j=>af (gY hp rfl) (af (ai ha) (af (ai rfl) RL.nil)))
    (fun j=>kM (af (ai hx) (af (ai rfl) RL.nil))) (fun w F q hf=>by
      obtain ⟨_,_,_,_,g',hg,hm⟩:=hf;cases hg;exact zxN hm hN (k:=2) (.inr (.inl rfl)) h0 hin)
theorem Tryz.IG {a:SE} {x:Int} (hN:N≤1048576) (hp:ρ.v 0= .pointer (some ⟨P,0,none⟩)) (ha:a.den ρ=x) (h0:0≤x) (hin:x+4≤N) (hx:(aW 11).den ρ=ax g x.toNat 4):jM prog ρ w0 K (jQ P L Bs B N (g::gs)) (Cw a):=
  iQ (Dw.enters_of (by kernel_rfl)) (by rfl) [.pointer (some ⟨P,0,none⟩),.int .u64 x,.int .i64 4] (.tuple #[.int .u64 (ax g x.toNat 4),.int .i64 0]) (fun j=>af (gY hp rfl) (af (ai ha) (af (ai rfl) RL.nil)))
    (fun j=>kM (af (ai hx) (af (ai rfl) RL.nil))) (fun w F q hf=>by
      obtain ⟨_,_,_,_,g',hg,hm⟩:=hf;cases hg;exact zxN hm hN (k:=4) (.inr (.inr (.inl rfl))) h0 hin)
theorem Tryz.PD {a v:SE} {x y:Int} {k:Nat} (hN:N≤1048576) (hp:ρ.v 0= .pointer (some ⟨P,0,none⟩)) (ha:a.den ρ=x) (h0:0≤x) (hk:k=1∨k=2∨k=4∨k=8) (hin:x+k≤N) (hv:v.den ρ=y) (hK:K B):
    jM prog ρ w0 K (jQ P L Bs B N [g,dS g x.toNat k y]) (FD a k v):=
  zo8 (Dw.enters_of (by kernel_rfl)) (by rfl) [.pointer (some ⟨P,0,none⟩),.int .u64 x,.int .i64 k,.int .u64 y] (.int .i64 0) (fun j=>af (gY hp rfl) (af (ai ha) (af (ai rfl) (af (ai hv) RL.nil))))
    (fun j=>ai rfl) (fun w F q hf=>by
      obtain ⟨h1,h2,h3,h4,g',hg,hm⟩:=hf;cases hg;exact yaq (zy2 hm hN hk y h0 hin) fun e w' ⟨e1,e2,e3⟩=>⟨e1,⟨h1,h2,h3,h4,_,rfl,e2⟩,e3.mono fun b hb=>hb▸⟨h4,hK⟩⟩)
end
theorem Tryz.Dx {ρ:Val} {i:Nat} {k x:Int} (hd:(aj 1).den ρ=4096) (hx:(ah i).den ρ=x) (h0:0≤x∧x<16) (hk:0≤k∧k<16):(sJ i k).den ρ=4096+16*x+k:=by
 unfold sJ;have e1:IntKind.wrap .u64 (16*x)=16*x:=cZ (by omega) (by omega);have e2:IntKind.wrap .u64 (4096+16*x)=4096+16*x:=cZ (by omega) (by omega);rw [den_add,den_add,den_mul,aC,aC,hd,hx,e1,e2,cZ (by omega) (by omega)]
end Go.Proofs
namespace Go.Proofs
open Go.Dw Go.RowKit Go.Maps Go.Sort Go.Deep
def Tryz.eF:List (Int×bN)→List Value→List Value
 | e::r,v::vs=> .int .i64 e.1:: .int .i64 e.2.ct::v::eF r vs
 | _,_=> []
theorem Tryz.rO: ∀(tk:List (Int×bN)) (vs:List Value),vs.length=tk.length→(eF tk vs).length=tk.length*3
 | [], vs,_=>by cases vs<;>rfl
 | e::r,[],h=>by simp at h
 | e::r,v::vs,h=>by
  have:=rO r vs (by simpa using h);simp only [eF,ya6,this];omega
theorem Tryz.zV: ∀(tk:List (Int×bN)) (vs:List Value) (h:vs.length=tk.length) (i:Nat) (hi:i<tk.length),(eF tk vs)[i*3]? =some (.int .i64 tk[i].1)∧(eF tk vs)[i*3+1]? =some (.int .i64 tk[i].2.ct)∧(eF tk vs)[i*3+2]? =some (vs[i]'(by omega))
 | e::r,v::vs,h,0,_=>⟨rfl,rfl,rfl⟩
 | e::r,v::vs,h,i+1,hi=>by
  have q:=zV r vs (by simpa using h) i (by simpa using hi);simp only [eF,show (i+1)*3=i*3+1+1+1 by omega];simpa using q
theorem Tryz.Wh: ∀(tk:List (Int×bN)) (vs:List Value) (_:vs.length=tk.length) (e:Int×bN) (v:Value),eF (tk++ [e]) (vs++ [v])=eF tk vs++ [.int .i64 e.1,.int .i64 e.2.ct,v]
 | [], [], _,e,v=>rfl
 | x::r,[],h,_,_=>by simp at h
 | x::r,y::vs,h,e,v=>by
  simp only [yco,eF,Wh r vs (by simpa using h) e v]
def Tryz.uP (A:Nat→Prop) (w:World) (b2:Nat) (lv:Value) (tk:List (Int×bN)) (vs:List Value):Prop:=
 vs.length=tk.length∧(∃t,aA t 3 w b2 lv tk.length (eF tk vs))∧ ∀(i:Nat) (h:i<tk.length) (h':i<vs.length),aX (fun b=>A b∨lv.ownBlock=some b) w vs[i] tk[i].2.sg
def Tryz.PS.bT (s:PS):Int:=if s.ph≤6 then s.ph else s.ph+4
def Tryz.PS.aJ (s:PS) (r:Rg) (P:Nat) (sv lv:Value) (ct:Int):List Value:=
 [.pointer (some ⟨P,0,none⟩),.bool true,.int .i64 r.n,.int .u64 r.d,.int .u64 r.v,.int .u64 r.c,.bool s.ev,.bool s.tb,.bool true,.int .i64 s.nx,.bool s.nw,.int .i64 s.us,.bool s.uw,lv,.int .i64 s.bT,
  .int .i64 s.op,.bool s.nn,.int .i64 s.hd,sv,.int .u32 s.wr,.bool s.it,.bool s.dn,.bool s.br,.int .i64 ct]
set_option maxRecDepth 100000 in
theorem Tryz.Gl {A:Nat→Prop} {w:World} {S b2:Nat} {lv:Value} {tk:List (Int×bN)} {vs:List Value} (h13:w.cell? ⟨S,13,none⟩=some lv) (hL:uP A w b2 lv tk vs) (hl:tk.length≤100000) (id:Int) (i:Int) (hi:(i= -1∧ ∀(j:Nat) (hj:j<tk.length),tk[j].1≠id)∨ ∃(k:Nat) (hk:k<tk.length),i=k∧tk[k].1=id∧ ∀(j:Nat) (hj:j<k),tk[j].1≠id):
  Calls prog 77 #[.pointer (some ⟨S,0,none⟩),.int .i64 id] w fun e w'=>e= .returned (.int .i64 i)∧Below w.heap.size w w':=by
 obtain ⟨hvl,⟨t,hrow⟩,_⟩:=hL;obtain ⟨sa,c,rfl,hr⟩:=aA.row hrow;have hi':(fun _:Unit=>i)=fun _=>i:=rfl;go_enter func77,ntmps77;go_wp2_with fail;go_loopw [5] (fun x wr=>wr=w∧ ∃k:Nat,k≤tk.length∧x= .int .i64 k∧ ∀(j:Nat) (hj:j<tk.length),j<k→tk[j].1≠id) (fun x _=>tk.length-(RowKit.intOf x).toNat)
 case atStart=>exact ⟨rfl,0,yaE _,rfl,fun j _ hj=>absurd hj (by omega)⟩
 case round=>
  obtain ⟨rfl,k,hk,rfl,hall⟩:=hrel;by_cases hkl:k<tk.length
  ·have hkl':(k:Int)<tk.length:=by omega
   rcases hr with hr|⟨G,rfl,_,hr⟩
   ·have:=yaI List.length hr;rw [rO tk vs hvl] at this;simp only [ybO] at this;omega
   have e1:=hr _ _ (zV tk vs hvl k hkl).1;rw [yau] at e1;clear hr hrow;by_cases hid:tk[k].1=id
   ·have hik:i=k:=by
     rcases hi with ⟨_,q⟩|⟨k',hk',q1,q2,q3⟩
     ·exact absurd hid (q k hkl)
     ·rcases Nat.lt_trichotomy k k' with z|z|z
      ·exact absurd hid (q3 k z)
      ·rw [q1,z]
      ·exact absurd q2 (hall k' hk' z)
    clear hi hi';subst hik;rw [hid] at e1;clear hid;go_wp2;go_ret;exact ⟨rfl,yah _ _⟩
   ·have aaI:(tk[k].1==id)=false:=by simpa using hid
    generalize hx:tk[k].1=x at e1 hid aaI;clear hi';go_wp2;refine ⟨⟨trivial,k+1,by omega,by push_cast;rfl,fun j hj hlt=> ?_⟩,by simp only [RowKit.intOf];omega⟩;by_cases hjk:j=k
    ·subst hjk;rw [hx];exact hid
    ·exact hall j hj (by omega)
  ·have hkl': ¬(k:Int)<tk.length:=by omega
   have him:i= -1:=by
    rcases hi with ⟨q,_⟩|⟨k',hk',_,q,_⟩
    ·exact q
    ·exact absurd q (hall k' hk' (by omega))
   subst him;go_wp2;go_ret;exact ⟨rfl,yah _ _⟩
structure Tryz.RW (A:Nat→Prop) (w:World) (S P L Bs B N b2:Nat) (r:Rg) (s:PS) (g:Nat→Int) (lv:Value):Prop where
 obj: ∃sv ct vs,Cl w S (s.aJ r P sv lv ct)∧aX (fun b=>A b∨lv.ownBlock=some b) w sv s.sg∧uP A w b2 lv s.tk vs∧(7≤s.ph→ ∀t,bY s.hd s.tk=some t→ct=t.ct)
 rm:bP w P L Bs B N g
 aS:A S
 aB:A B
 lt: ∀b,A b→b<w.heap.size
 lo:S<b2∧P<b2∧L<b2∧Bs<b2∧B<b2
 b2:b2≤w.heap.size
 sd:S≠P∧S≠L∧S≠Bs∧S≠B
 rg:jG r
 pb:PB r s
 hN:N≤1048576
 fit:4104+16*r.n≤N
 dn:(s.ph≠0∨s.br=true)→s.dn=false
 dH: ∀e∈s.tk,0≤e.1∧e.1<r.n
 nd:(s.tk.map (·.1)).Nodup
section
variable {A:Nat→Prop} {w w':World} {S P L Bs B N b2:Nat} {r:Tryz.Rg} {s s':Tryz.PS} {g g':Nat→Int} {lv:Value}
theorem Tryz.aX.pG {A':Nat→Prop} {v:Value} {l:List Sg} (h:aX A' w v l) (hk: ∀b,b<w.heap.size→ ¬A' b→w'.heap[b]? =w.heap[b]?):aX A' w' v l:=by
 obtain ⟨sa,c,e,hok,hr⟩:=h;refine ⟨sa,c,e,hok,?_⟩;rcases hr with hr|⟨R,o,q1,q2,q3⟩
 ·exact .inl hr
 ·by_cases hl:l= []
  ·exact .inl hl
  ·exact .inr ⟨R,o,q1,q2,iR q3 (hk R (rZ q3 hl) q2)⟩
theorem Tryz.uP.kept {tk:List (Int×bN)} {vs:List Value} (h:uP A w b2 lv tk vs) (hk: ∀b,b<w.heap.size→ ¬A b→w'.heap[b]? =w.heap[b]?) (hl: ∀b,lv.ownBlock=some b→w'.heap[b]? =w.heap[b]?):uP A w' b2 lv tk vs:=by
 obtain ⟨h1,⟨t,h2⟩,h3⟩:=h;exact ⟨h1,⟨t,h2.kept hl⟩,fun i q q'=>(h3 i q q').pG fun b hb hn=>hk b hb fun q=>hn (.inl q)⟩
theorem Tryz.RW.vO (h:RW A w S P L Bs B N b2 r s g lv) (hm:Dw.Mv (· =S) w w') {pQ:Value} {lZ:Int} (hc:Cl w' S (s'.aJ r P pQ lv lZ)) (hsv:aX (fun b=>A b∨lv.ownBlock=some b) w' pQ s'.sg) (ht:s'.tk=s.tk) (hct:7≤s'.ph→ ∀t,bY s'.hd s'.tk=some t→lZ=t.ct) (hp:PB r s') (hd:(s'.ph≠0∨s'.br=true)→s'.dn=false):RW A w' S P L Bs B N b2 r s' g lv:=by
 obtain ⟨sv,ct,vs,q1,q2,q3,q4⟩:=h.obj;obtain ⟨_,⟨t,hrow⟩,_⟩:=id q3;refine ⟨⟨pQ,lZ,vs,hc,hsv,?_,hct⟩,h.rm.Cs hm h.sd,h.aS,h.aB,fun b hb=>yae (h.lt b hb) hm.size,h.lo,yaw h.b2 hm.size,h.sd,h.rg,hp,h.hN,h.fit,hd,ht▸h.dH,ht▸h.nd⟩;rw [ht];exact q3.kept (fun b hb hn=>hm.block b hb fun e=>by have e:b=S:=e;exact hn (e▸h.aS)) (fun b e=>hm.block b (hrow.lt b e).2 fun e2=>by have e2:b=S:=e2;have:=(hrow.lt b e).1;have:=h.lo.1;omega)
theorem Tryz.RW.below (h:RW A w S P L Bs B N b2 r s g lv) (hb:Below w.heap.size w w'):RW A w' S P L Bs B N b2 r s g lv:=by
 obtain ⟨sv,ct,vs,q1,q2,q3,q4⟩:=h.obj;obtain ⟨_,⟨t,hrow⟩,_⟩:=id q3;exact ⟨⟨sv,ct,vs,q1.below hb q1.lt,q2.pG fun b hh _=>hb.block b hh,q3.kept (fun b hh _=>hb.block b hh) (fun b e=>hb.block b (hrow.lt b e).2),q4⟩,h.rm.below hb,h.aS,h.aB,fun b hh=>yae (h.lt b hh) hb.size,h.lo,yaw h.b2 hb.size,h.sd,h.rg,h.pb,h.hN,h.fit,h.dn,h.dH,h.nd⟩
end
set_option maxRecDepth 100000 in
theorem Tryz.zt9 {A:Nat→Prop} {w:World} {S P L Bs B N b2:Nat} {r:Rg} {s:PS} {g:Nat→Int} {lv:Value} (h:RW A w S P L Bs B N b2 r s g lv):
  Calls prog 50 #[.pointer (some ⟨S,0,none⟩)] w fun e w'=>e= .returned (.int .i64 (if s.br then 4 else 0))∧w'=w:=by
 obtain ⟨sv,ct,vs,q1,_⟩:=h.obj;have kR:=q1.cell 22 _ rfl;go_enter func50,ntmps50;cases hb:s.br<;>rw [hb] at kR<;>(go_wp2_with fail;go_ret;exact ⟨rfl,rfl⟩)
end Go.Proofs
namespace Go.Proofs
open Go.Dw Go.RowKit Go.Maps Go.Sort Go.Deep
theorem Tryz.dM {K:Nat→Prop} {a w:World} (h:Dw.Mv K a w) (b o:Nat) (v:Value) (hb:K b):Dw.Mv K a (w.setCell ⟨b,o,none⟩ v):=by
 have q:=(Mv.setCell (S:=K) (a:=a) (w:=w) ⟨h.os,h.tape,h.output,h.size,h.block⟩ b o v (.inl hb));exact ⟨q.os,q.tape,q.output,q.size,q.block⟩
theorem Tryz.PB.begin {r:Rg} {s:PS} (h:PB r s) (p:Nat) (op hd wr:Int) (hp:p≤6∨p=7∧ ∃t,bY hd s.tk=some t) (hh:0≤hd∧hd<65536) (hw:0≤wr∧wr<4294967296):PB r (({ s with op:=op,nn:=false,hd:=hd,sg:= [],wr:=wr,it:=false }:PS).goto p):=
 ⟨h.nx,h.us,h.ou,hh,hw,by show p≤11;omega,fun q=>by
  rcases hp with hp|⟨_,hp⟩
  ·have q:7≤p:=q;omega
  ·exact hp⟩
set_option maxRecDepth 100000 in
theorem Tryz.zpT {A:Nat→Prop} {w:World} {S P L Bs B N b2:Nat} {r:Rg} {s:PS} {g:Nat→Int} {lv:Value} (h:RW A w S P L Bs B N b2 r s g lv):
  Calls prog 34 #[.pointer (some ⟨S,0,none⟩)] w fun e w'=>e= .returned (.int .i64 (qN s).1)∧RW A w' S P L Bs B N b2 r (qN s).2 g lv∧Dw.Mv (· =S) w w':=by
 obtain ⟨sv,ct,vs,q1,q2,q3,q4⟩:=h.obj;have c14:=q1.cell 14 _ rfl;have c15:=q1.cell 15 _ rfl;have c16:=q1.cell 16 _ rfl;have c17:=q1.cell 17 _ rfl;have c18:=q1.cell 18 _ rfl;have c19:=q1.cell 19 _ rfl;have c20:=q1.cell 20 _ rfl;have c21:=q1.cell 21 _ rfl;have kR:=q1.cell 22 _ rfl;have f14:=q1.free 14;have f15:=q1.free 15;have f16:=q1.free 16;have f17:=q1.free 17;have f18:=q1.free 18;have f19:=q1.free 19;have f20:=q1.free 20;have f21:=q1.free 21;unfold qN;cases hb:s.br with
 | true=>
  rw [hb] at kR;rw [yaj rfl];go_enter func34,ntmps34;go_wp2_with fail;go_ret;exact ⟨rfl,h,Dw.Mv.refl _ _⟩
 | false=>
  rw [hb] at kR;rw [yai (by decide)];by_cases hp:s.ph=0
  ·rw [yai (by rw [hp];decide)];have ha:s.bT=0:=by unfold PS.bT;rw [hp];rfl
   rw [ha] at c14;have hC:=(((((((q1.set 14 (.int .i64 1) (by simp [PS.aJ])).set 21 (.bool false) (by simp [PS.aJ])).set 15 (.int .i64 3) (by simp [PS.aJ])).set 16 (.bool false) (by simp [PS.aJ])).set 17 (.int .i64 0) (by simp [PS.aJ])).set 18 (.slice none 0 0) (by simp [PS.aJ])).set 19 (.int .u32 0) (by simp [PS.aJ])).set 20 (.bool false) (by simp [PS.aJ]);obtain ⟨s',hs'⟩: ∃s':PS,s'=(({ s with op:=3,nn:=false,hd:=0,sg:= [],wr:=0,it:=false }:PS).goto 1):=⟨_,rfl⟩;have hrow:((((((((s.aJ r P sv lv ct).set 14 (.int .i64 1)).set 21 (.bool false)).set 15 (.int .i64 3)).set 16 (.bool false)).set 17 (.int .i64 0)).set 18 (.slice none 0 0)).set 19 (.int .u32 0)).set 20 (.bool false)=s'.aJ r P (.slice none 0 0) lv ct:=by
    rw [hs'];unfold PS.aJ;rw [hb];rfl
   rw [hrow] at hC;have hpb:PB r s':=hs'▸h.pb.begin 1 3 0 0 (.inl (by decide)) ⟨by decide,by decide⟩ ⟨by decide,by decide⟩;have t1:s'.tk=s.tk:=by rw [hs'];rfl
   have t2:s'.sg= []:=by rw [hs'];rfl
   have t3:s'.ph=1:=by rw [hs'];rfl
   have t4:s'.dn=false:=by rw [hs'];rfl
   show Calls _ _ _ _ fun e w'=>e= .returned (.int .i64 0)∧RW A w' S P L Bs B N b2 r (({ s with op:=3,nn:=false,hd:=0,sg:= [],wr:=0,it:=false }:PS).goto 1) g lv∧Dw.Mv (· =S) w w';rw [←hs'];clear hs' hrow;go_enter func34,ntmps34;go_wp2_with fail;go_ret;have hm:=dM (dM (dM (dM (dM (dM (dM (dM (Dw.Mv.refl (· =S) w) S 14 (.int .i64 1) rfl) S 21 (.bool false) rfl) S 15 (.int .i64 3) rfl) S 16 (.bool false) rfl) S 17 (.int .i64 0) rfl) S 18 (.slice none 0 0) rfl) S 19 (.int .u32 0) rfl) S 20 (.bool false) rfl;exact ⟨rfl,h.vO hm hC (by rw [t2];exact aX.none) t1 (fun q=>by rw [t3] at q;omega) hpb (fun _=>t4),hm⟩
  ·rw [yaj hp];have ha: ¬s.bT=0:=by
    unfold PS.bT;split<;>omega
   generalize s.bT=aP at c14 ha;go_enter func34,ntmps34;go_wp2_with fail;go_ret;exact ⟨rfl,h,Dw.Mv.refl _ _⟩
theorem Tryz.aA.RZ {t:TypeId} {w:World} {b2:Nat} {v:Value} {xs:List Int} (h:aA t 1 w b2 v xs.length (dx xs)):wP w v xs:=by
 obtain ⟨sa,c,e,hr⟩:=aA.row h;refine ⟨sa,c,e,?_⟩;rcases hr with hr|⟨G,e2,_,hG⟩
 ·left;have:=yaI List.length hr;simp [dx] at this;exact ybn.1 (by simpa using this)
 ·exact .inr ⟨G,0,e2,hG⟩
theorem Tryz.aA.cap {t:TypeId} {sz n:Nat} {w:World} {b2:Nat} {sa:Option Addr} {c:Nat} {cs:List Value} (h:aA t sz w b2 (.slice sa n c) n cs) (hn:0<n):n≤c:=by
 obtain ⟨h1,h2⟩:=h;rcases h2 with ⟨h2,h3⟩|⟨G,cap,cur,e,h3,h4,h5,_⟩
 ·omega
 ·cases e;exact h5
theorem Tryz.zp5 {w w':World} {G o:Nat} {cs:List Value} {row:Option Nat} (h:w.rangeAt G o cs) (hg:w.grownBy w' row) (hl:G<w.heap.size) (hn:some G≠row):w'.rangeAt G o cs:=iR h (hg.block G hl hn)
theorem Tryz.zvc {w:World} {G:Nat} {cs:List Value} (h:w.rangeAt G 0 cs) (k:Nat): ∀j u,(cs.take k)[j]? =some u→w.cell? ((⟨G,0,none⟩:Addr).add j)=some u:=fun j u hu=>by
 rw [Dw.addr_add];rw [List.getElem?_take] at hu;split at hu
 ·have:=h j u hu
  rwa [yau] at this ⊢
 ·cases hu
theorem Tryz.zvd {w:World} {G:Nat} {cs:List Value} (h:w.rangeAt G 0 cs) (k:Nat): ∀j u,(cs.drop k)[j]? =some u→w.cell? ((⟨G,k,none⟩:Addr).add j)=some u:=fun j u hu=>by
 rw [Dw.addr_add];rw [yb5] at hu;have:=h (k+j) u hu
 rwa [yau] at this
theorem Tryz.XY {w:World} {G:Nat} {cs:List Value} (h:w.rangeAt G 0 cs) {k c:Nat} (hc:cs.length≤c): ∀j u,(cs.drop k)[j]? =some u→w.cell? ((if c=k then (⟨G,0,none⟩:Addr) else ⟨G,k,none⟩).add j)=some u:=fun j u hu=>by
 by_cases hk:c=k
 ·subst hk;rw [List.drop_eq_nil_of_le hc] at hu;cases hu
 ·rw [yai hk];exact zvd h k j u hu
theorem Tryz.CR {h:Int}: ∀ {tk:List (Int×bN)},bY h tk=none→ ∀(j:Nat) (hj:j<tk.length),tk[j].1≠h
 | [], _,j,hj=>by simp at hj
 | e::r,hh,j,hj=>by
  unfold bY at hh;split at hh
  ·cases hh
  ·rename_i hne;cases j with
   | zero=>exact fun q=>hne q.symm
   | succ j=>exact CR hh j (by simpa using hj)
theorem Tryz.CQ {h:Int} {t:bN}: ∀ {tk:List (Int×bN)},bY h tk=some t→ ∃(k:Nat) (hk:k<tk.length),tk[k].1=h∧tk[k].2=t∧ ∀(j:Nat) (hj:j<k),tk[j].1≠h
 | [], hh=>by cases hh
 | e::r,hh=>by
  unfold bY at hh;split at hh
  ·rename_i he;cases hh;exact ⟨0,by simp,he.symm,rfl,fun j hj=>absurd hj (by omega)⟩
  ·rename_i hne;obtain ⟨k,hk,q1,q2,q3⟩:=CQ hh;refine ⟨k+1,by simpa using hk,q1,q2,fun j hj=> ?_⟩;cases j with
   | zero=>exact fun q=>hne q.symm
   | succ j=>exact q3 j (by omega)
set_option maxRecDepth 100000 in
theorem Tryz.zt1 {A:Nat→Prop} {w:World} {S P L Bs B N b2:Nat} {r:Rg} {s:PS} {g:Nat→Int} {lv:Value} (h:RW A w S P L Bs B N b2 r s g lv) (hl:s.tk.length≤100000) (hlen: ∀e∈s.tk,e.2.sg.length≤1000000) (hd wr:Int) (hw:0≤wr∧wr<4294967296):
    Calls prog 35 #[.pointer (some ⟨S,0,none⟩),.int .i64 hd,.int .u32 wr] w fun e w'=>e= .returned (.int .i64 (ni s hd wr).1)∧RW A w' S P L Bs B N b2 r (ni s hd wr).2 g lv∧Dw.Mv (· =S) w w':=by
  obtain ⟨sv,ct,vs,q1,q2,q3,q4⟩:=h.obj;have c13:=q1.cell 13 _ rfl;have c14:=q1.cell 14 _ rfl;have kR:=q1.cell 22 _ rfl;unfold ni;cases hb:s.br with
  | true=>
    rw [hb] at kR;rw [yaj rfl];go_enter func35,ntmps35;go_wp2_with fail;go_ret;exact ⟨rfl,h,Dw.Mv.refl _ _⟩
  | false=>
    rw [hb] at kR;rw [yai (by decide)];by_cases hp:s.ph=0
    · rw [yai (by rw [hp];decide)];have ha:s.bT=0:=by unfold PS.bT;rw [hp];rfl
      rw [ha] at c14;have hfind:=fun i hi=>Gl (w:=w) (S:=S) c13 q3 hl hd i hi;cases hg:bY hd s.tk with
      | none=>
        have hf:=hfind (-1) (.inl ⟨rfl,CR hg⟩);clear hfind;go_enter func35,ntmps35;go_wp2_with (first
          | (go_at_call 77;refine hf.mono ?_;rintro en w1 ⟨rfl,hb1⟩)
          | go_in)
        go_ret;exact ⟨rfl,h.below hb1,⟨hb1.os,hb1.tape,hb1.output,hb1.size,fun b hh _=>hb1.block b hh⟩⟩
      | some t=>
        obtain ⟨k,hk,k1,k2,k3⟩:=CQ hg;have hf:=hfind k (.inr ⟨k,hk,rfl,k1,k3⟩);clear hfind;have hvk:k<vs.length:=by rw [q3.1];exact hk
        have hsv:=q3.2.2 k hk hvk;have hlk:s.tk[k].2.sg.length≤1000000:=hlen _ (yaS hk);obtain ⟨_,⟨ty,hrow⟩,_⟩:=id q3;obtain ⟨sa,c,hlv,hr⟩:=aA.row hrow;rcases hr with hr|⟨G,rfl,hG,hr⟩
        · have:=yaI List.length hr;rw [rO s.tk vs q3.1] at this;simp only [ybO] at this;omega
        obtain ⟨d0,d1,d2⟩:=zV s.tk vs q3.1 k hk;have e1:=hr _ _ d1;have e2:=hr _ _ d2;rw [yau] at e1 e2;rw [k2] at e1 hsv hlk;have qm:G<w.heap.size:=World.block_lt_of_cell? w _ e1;have hkl:(k:Int)<s.tk.length:=by omega
        have hk0: ¬(k:Int)<0:=by omega
        have htb:=Wl (l:=t.sg) (by obtain ⟨_,_,_,q,_⟩:=hsv;exact q);have htot:=fun w1 (hb1:Below w.heap.size w w1)=>ztZ (aX.below hsv hb1) hlk;have hwr:IntKind.wrap .u64 wr=wr:=cZ hw.1 (by omega);have hcap:s.tk.length≤c:=by rw [hlv] at hrow;exact aA.cap hrow (by omega)
        subst hlv;generalize vs[k]=vk at e2 htot;obtain ⟨tc,htc⟩: ∃tc,tc=t.ct:=⟨_,rfl⟩;rw [←htc] at e1;have wZ: ∀ {x y:World},Below x.heap.size x y→Dw.Mv (· =S) x y:=fun h=>⟨h.os,h.tape,h.output,h.size,fun b hb _=>h.block b hb⟩;by_cases hlt:(iO t.sg).2<wr
        · show Calls _ _ _ _ fun e w'=>e= .returned (.int .i64 (if (iO t.sg).2<wr then ((2:Int),s) else _).1)∧RW A w' S P L Bs B N b2 r (if (iO t.sg).2<wr then ((2:Int),s) else _).2 g _∧Dw.Mv (· =S) w w';rw [yaj hlt];clear htc;generalize (iO t.sg).1=T1 at htot htb;generalize (iO t.sg).2=T2 at htot htb hlt;go_enter func35,ntmps35;go_wp2_with (first
            | (go_at_call 77;refine hf.mono ?_;rintro en w1 ⟨rfl,hb1⟩;have y13:=(hb1.cell (p:=⟨S,13,none⟩) q1.lt).trans c13;have y2:=(hb1.cell (p:=⟨G,k*3+2,none⟩) qm).trans e2)
            | (go_at_call 78;refine (htot _ hb1).mono ?_;rintro en w2 ⟨rfl,hb2⟩)
            | go_in)
          go_ret;exact ⟨rfl,(h.below hb1).below hb2,(wZ hb1).trans (wZ hb2)⟩
        · show Calls _ _ _ _ fun e w'=>e= .returned (.int .i64 (if (iO t.sg).2<wr then ((2:Int),s) else _).1)∧RW A w' S P L Bs B N b2 r (if (iO t.sg).2<wr then ((2:Int),s) else _).2 g _∧Dw.Mv (· =S) w w';rw [yai hlt];obtain ⟨s',hs'⟩: ∃s':PS,s'=(({ s with op:=4,nn:=false,hd:=hd,sg:= [],wr:=wr,it:=false }:PS).goto 7):=⟨_,rfl⟩;show Calls _ _ _ _ fun e w'=>e= .returned (.int .i64 0)∧RW A w' S P L Bs B N b2 r (({ s with op:=4,nn:=false,hd:=hd,sg:= [],wr:=wr,it:=false }:PS).goto 7) g _∧Dw.Mv (· =S) w w';rw [←hs'];have xD:=h.dH _ (yaS hk);rw [k1] at xD;have hbn:=h.rg.bnd;have hpb:PB r s':=hs'▸h.pb.begin 7 4 hd wr (.inr ⟨rfl,t,hg⟩) ⟨xD.1,by omega⟩ hw;have t1:s'.tk=s.tk:=by rw [hs'];rfl
          have t2:s'.sg= []:=by rw [hs'];rfl
          have t3:s'.hd=hd:=by rw [hs'];rfl
          have t4:s'.dn=false:=by rw [hs'];rfl
          have hrow2: ∀lv eG,((((((((((s.aJ r P sv lv eG).set 23 (.int .i64 tc)).set 14 (.int .i64 11)).set 21 (.bool false)).set 15 (.int .i64 4)).set 16 (.bool false)).set 17 (.int .i64 hd)).set 18 (.slice none 0 0)).set 19 (.int .u32 wr)).set 20 (.bool false))=s'.aJ r P (.slice none 0 0) lv tc:=fun lv eG=>by
            rw [hs'];unfold PS.aJ;rw [hb];rfl
          have hct:7≤s'.ph→ ∀t',bY s'.hd s'.tk=some t'→tc=t'.ct:=fun _ t' ht'=>by
            rw [t1,t3,hg] at ht';cases ht';exact htc
          clear hs' htc;generalize (iO t.sg).1=T1 at htot htb;generalize (iO t.sg).2=T2 at htot htb hlt;go_enter func35,ntmps35;go_wp2_with (first
            | (go_at_call 77;refine hf.mono ?_;rintro en w1 ⟨rfl,hb1⟩;have y13:=(hb1.cell (p:=⟨S,13,none⟩) q1.lt).trans c13;have y2:=(hb1.cell (p:=⟨G,k*3+2,none⟩) qm).trans e2)
            | (go_at_call 78;refine (htot _ hb1).mono ?_;rintro en w2 ⟨rfl,hb2⟩;have z1:=(q1.below hb1 q1.lt).below hb2 (yae q1.lt hb1.size);have CP:=z1.cell 13 _ rfl;have ze:=(hb2.cell (p:=⟨G,k*3+1,none⟩) (yae qm hb1.size)).trans ((hb1.cell (p:=⟨G,k*3+1,none⟩) qm).trans e1);have z14:=z1.cell 14 _ rfl;have z15:=z1.cell 15 _ rfl;have FV:=z1.cell 16 _ rfl;have z17:=z1.cell 17 _ rfl;have TS:=z1.cell 18 _ rfl;have z19:=z1.cell 19 _ rfl;have z20:=z1.cell 20 _ rfl;have z21:=z1.cell 21 _ rfl;have z23:=z1.cell 23 _ rfl;have f14:=z1.free 14;have f15:=z1.free 15;have f16:=z1.free 16;have f17:=z1.free 17;have f18:=z1.free 18;have f19:=z1.free 19;have f20:=z1.free 20;have f21:=z1.free 21;have f23:=z1.free 23)
            | go_in)
          go_ret;have hC:=((((((((z1.set 23 (.int .i64 tc) (by simp [PS.aJ])).set 14 (.int .i64 11) (by simp [PS.aJ])).set 21 (.bool false) (by simp [PS.aJ])).set 15 (.int .i64 4) (by simp [PS.aJ])).set 16 (.bool false) (by simp [PS.aJ])).set 17 (.int .i64 hd) (by simp [PS.aJ])).set 18 (.slice none 0 0) (by simp [PS.aJ])).set 19 (.int .u32 wr) (by simp [PS.aJ])).set 20 (.bool false) (by simp [PS.aJ]);rw [hrow2] at hC;have hm:=dM (dM (dM (dM (dM (dM (dM (dM (dM (Dw.Mv.refl (· =S) w2) S 23 (.int .i64 tc) rfl) S 14 (.int .i64 11) rfl) S 21 (.bool false) rfl) S 15 (.int .i64 4) rfl) S 16 (.bool false) rfl) S 17 (.int .i64 hd) rfl) S 18 (.slice none 0 0) rfl) S 19 (.int .u32 wr) rfl) S 20 (.bool false) rfl;exact ⟨rfl,((h.below hb1).below hb2).vO hm hC (by rw [t2];exact aX.none) t1 hct hpb (fun _=>t4),((wZ hb1).trans (wZ hb2)).trans hm⟩
    · rw [yaj hp];have ha: ¬s.bT=0:=by
        unfold PS.bT;split<;>omega
      generalize s.bT=aP at c14 ha;go_enter func35,ntmps35;go_wp2_with fail;go_ret;exact ⟨rfl,h,Dw.Mv.refl _ _⟩
theorem Tryz.eD {K:Nat→Prop} {a w:World} (h:Dw.Mv K a w) (b o:Nat) (v:Value) (hb:K b∨a.heap.size≤b):Dw.Mv K a (w.setCell ⟨b,o,none⟩ v):=by
 have q:=(Mv.setCell (S:=K) (a:=a) (w:=w) ⟨h.os,h.tape,h.output,h.size,h.block⟩ b o v hb);exact ⟨q.os,q.tape,q.output,q.size,q.block⟩
theorem Tryz.jU {K:Nat→Prop} {a w:World} (h:Below a.heap.size a w):Dw.Mv K a w:=⟨h.os,h.tape,h.output,h.size,fun b hb _=>h.block b hb⟩
set_option maxRecDepth 100000 in
theorem Tryz.rQ {w:World} {S:Nat} {l:List Value} (h:Cl w S l) (hl:l.length=24) {x14:Int} {x21:Bool} (e14:l[14]? =some (.int .i64 x14)) (e21:l[21]? =some (.bool x21)) (k what i aP:Int) (b:Bool) (hb:(aP==0)=b):
  Calls prog 108 #[.pointer (some ⟨S,0,none⟩),.agg #[.int .i64 k,.int .i64 what,.int .i64 i],.bool true,.int .i64 aP] w fun e w'=>e= .returned (.tuple #[.agg #[.int .i64 k,.int .i64 what,.int .i64 i],.int .i64 0])∧Cl w' S ((l.set 14 (.int .i64 aP)).set 21 (.bool b))∧Dw.Mv (· =S) w w':=by
 have hb2:=((yah w.heap.size w).alloc (yab _) (Obj.cells #[.int .i64 k,.int .i64 what,.int .i64 i] 77)).alloc (by simp) (Obj.cells #[.int .i64 0,.int .i64 0,.int .i64 0] 77);have k5:=(Cl.new w #[.int .i64 k,.int .i64 what,.int .i64 i] 77).alloc (Obj.cells #[.int .i64 0,.int .i64 0,.int .i64 0] 77);have k8:=Cl.new2 (w:=w.alloc (Obj.cells #[.int .i64 k,.int .i64 what,.int .i64 i] 77)) (b:=w.heap.size+1) (arr:= #[.int .i64 0,.int .i64 0,.int .i64 0]) (t:=77) (by simp);have hS:=h.below hb2 h.lt;have hlt:=h.lt;have c14:=hS.cell 14 _ e14;have c21:=hS.cell 21 _ e21;have f14:=hS.free 14;have f21:=hS.free 21;clear e14 e21;have hS2:=(hS.set 14 (.int .i64 aP) (by rw [hl];decide)).set 21 (.bool b) (by rw [List.length_set,hl];decide);have hm2:=dM (dM (jU (K:=(· =S)) hb2) S 14 (.int .i64 aP) rfl) S 21 (.bool b) rfl;have n1:w.heap.size≠S:=by omega
 have n2:w.heap.size+1≠S:=by omega
 have j5:=(k5.kept (yac _ ⟨S,14,none⟩ (.int .i64 aP) w.heap.size n1)).kept (yac _ ⟨S,21,none⟩ (.bool b) w.heap.size n1);have j8:=(k8.kept (yac _ ⟨S,14,none⟩ (.int .i64 aP) (w.heap.size+1) n2)).kept (yac _ ⟨S,21,none⟩ (.bool b) (w.heap.size+1) n2);have a0:=j5.cell 0 _ rfl;have a1:=j5.cell 1 _ rfl;have a2:=j5.cell 2 _ rfl;have b0:=j8.cell 0 _ rfl;have b1:=j8.cell 1 _ rfl;have b2:=j8.cell 2 _ rfl;have g0:=j8.free 0;have g1:=j8.free 1;have g2:=j8.free 2;clear hl k5 k8 hS;go_enter func108,ntmps108;clear hlt;go_wp2_with fail;have hlt:=h.lt;have sf:=((j8.set 0 (.int .i64 k) (by simp)).set 1 (.int .i64 what) (by simp)).set 2 (.int .i64 i) (by simp);refine yaP (iq rfl _ _ (w.heap.size+1) [.int .i64 k,.int .i64 what,.int .i64 i] _ rfl (fun j y hy=>by rw [yau];exact sf.cell j y hy) underlying77 rfl (by kernel_rfl)) rfl ?_;exact ⟨rfl,((hS2.kept (yac _ ⟨w.heap.size+1,0,none⟩ _ S (fun e=>n2 e.symm))).kept (yac _ ⟨w.heap.size+1,1,none⟩ _ S (fun e=>n2 e.symm))).kept (yac _ ⟨w.heap.size+1,2,none⟩ _ S (fun e=>n2 e.symm)),eD (eD (eD hm2 (w.heap.size+1) 0 _ (.inr (by omega))) (w.heap.size+1) 1 _ (.inr (by omega))) (w.heap.size+1) 2 _ (.inr (by omega))⟩
theorem Tryz.PB.goto {r:Rg} {s:PS} (h:PB r s) (p:Nat) (hp:p≤6∨(7≤s.ph∧p≤11)):PB r (s.goto p):=
 ⟨h.nx,h.us,h.ou,h.hd,h.wr,by show p≤11;omega,fun q=>by
  have q:7≤p:=q;rcases hp with hp|hp
  ·omega
  ·exact h.ret hp.1⟩
set_option maxRecDepth 100000 in
theorem Tryz.XP {A:Nat→Prop} {w:World} {S P L Bs B N b2:Nat} {r:Rg} {s:PS} {g:Nat→Int} {lv:Value} (h:RW A w S P L Bs B N b2 r s g lv) (hb:s.br=false) (hp:s.ph=3∨s.ph=5):
    Calls prog 82 #[.pointer (some ⟨S,0,none⟩)] w fun e w'=>e= .returned (.tuple #[.agg #[.int .i64 4,.int .i64 0,.int .i64 0],.int .i64 0])∧RW A w' S P L Bs B N b2 r (s.goto (s.ph+1)) g lv∧Dw.Mv (· =S) w w':=by
  obtain ⟨sv,ct,vs,q1,q2,q3,q4⟩:=h.obj;have k2:=Cl.new w #[.int .i64 0,.int .i64 0,.int .i64 0] 77;have hbx:=(yah w.heap.size w).alloc (yab _) (Obj.cells #[.int .i64 0,.int .i64 0,.int .i64 0] 77);have p1:=q1.below hbx q1.lt;have c14:=p1.cell 14 _ rfl;obtain ⟨s',hs'⟩: ∃s':PS,s'=s.goto (s.ph+1):=⟨_,rfl⟩;rw [←hs'];have hpb:PB r s':=hs'▸h.pb.goto _ (.inl (by omega));have t1:s'.tk=s.tk:=by rw [hs'];rfl
  have t2:s'.sg=s.sg:=by rw [hs'];rfl
  have t3: ¬7≤s'.ph:=by rw [hs'];show¬7≤s.ph+1;omega
  have t4:s'.dn=false:=by rw [hs'];rfl
  have hrow:((s.aJ r P sv lv ct).set 14 (.int .i64 (s.ph+1:Nat))).set 21 (.bool false)=s'.aJ r P sv lv ct:=by
    rw [hs'];unfold PS.aJ PS.bT;have:(s.goto (s.ph+1)).ph≤6:=by show s.ph+1≤6;omega
    rw [yaj this,hb];rfl
  have hat:s.bT=s.ph:=by unfold PS.bT;rw [yaj (by omega)]
  rw [hat] at c14;have hg1:=rQ (l:=s.aJ r P sv lv ct) p1 rfl rfl rfl 4 0 0 (s.ph+1:Nat) false (by simp;omega);rw [hrow] at hg1;clear hs' hrow hat;have hn:=q1.lt;have nS:w.heap.size≠S:=by omega
  have close: ∀ {w3:World},Cl w3 S (s'.aJ r P sv lv ct)→Dw.Mv (· =S) (w.alloc (Obj.cells #[.int .i64 0,.int .i64 0,.int .i64 0] 77)) w3→Cl w3 w.heap.size [.int .i64 0,.int .i64 0,.int .i64 0]∧RW A (((w3.setCell ⟨w.heap.size,0,none⟩ (.int .i64 4)).setCell ⟨w.heap.size,1,none⟩ (.int .i64 0)).setCell ⟨w.heap.size,2,none⟩ (.int .i64 0)) S P L Bs B N b2 r s' g lv∧Dw.Mv (· =S) w (((w3.setCell ⟨w.heap.size,0,none⟩ (.int .i64 4)).setCell ⟨w.heap.size,1,none⟩ (.int .i64 0)).setCell ⟨w.heap.size,2,none⟩ (.int .i64 0)):=fun {w3} hc hm=>by
    have hm1:Dw.Mv (· =S) w w3:=(jU hbx).trans hm;have hm2:=eD (eD (eD hm1 w.heap.size 0 (.int .i64 4) (.inr (yab _))) w.heap.size 1 (.int .i64 0) (.inr (yab _))) w.heap.size 2 (.int .i64 0) (.inr (yab _));refine ⟨k2.kept (hm.block _ k2.lt nS),h.vO hm2 (((hc.kept (yac _ ⟨w.heap.size,0,none⟩ _ S (fun e=>nS e.symm))).kept (yac _ ⟨w.heap.size,1,none⟩ _ S (fun e=>nS e.symm))).kept (yac _ ⟨w.heap.size,2,none⟩ _ S (fun e=>nS e.symm))) ?_ t1 (fun q=>absurd q t3) hpb (fun _=>t4),hm2⟩;rw [t2];exact q2.pG fun b hb hn=>hm2.block b hb fun e=>hn (.inl (by have e:b=S:=e;rw [e];exact h.aS))
  clear hn hbx;rcases hp with hp|hp
  all_goals
    rw [hp] at c14 hg1;go_enter func82,ntmps82;go_wp2_with (first
      | (go_at_call 108;refine hg1.mono ?_;rintro en w3 ⟨rfl,hc3,sV⟩;obtain ⟨kc,mK,hM⟩:=close hc3 sV;have b0:=kc.cell 0 _ rfl;have b1:=kc.cell 1 _ rfl;have b2':=kc.cell 2 _ rfl;have g0:=kc.free 0;have g1:=kc.free 1;have g2:=kc.free 2)
      | go_in)
    have sf:=((kc.set 0 (.int .i64 4) (by simp)).set 1 (.int .i64 0) (by simp)).set 2 (.int .i64 0) (by simp);refine yaP (iq rfl _ _ w.heap.size [.int .i64 4,.int .i64 0,.int .i64 0] _ rfl (fun j y hy=>by rw [yau];exact sf.cell j y hy) underlying77 rfl (by kernel_rfl)) rfl ?_;exact ⟨rfl,mK,hM⟩
set_option maxRecDepth 100000 in
theorem Tryz.xZ {w:World} {S:Nat} {d i:Int} (h3:w.cell? ⟨S,3,none⟩=some (.int .u64 d)) (hd:0≤d∧d≤1000000) (hi:0≤i∧i≤1000000):
  Calls prog 107 #[.pointer (some ⟨S,0,none⟩),.int .i64 i] w fun e w'=>e= .returned (.int .u64 (d+16*i))∧w'=w:=by
 have w1:IntKind.wrap .u64 i=i:=cZ hi.1 (by omega);have w2:IntKind.wrap .u64 (16*i)=16*i:=cZ (by omega) (by omega);have w3:IntKind.wrap .u64 (d+16*i)=d+16*i:=cZ (by omega) (by omega);go_enter func107,ntmps107;go_wp2_with fail;go_ret;exact ⟨rfl,rfl⟩
theorem Tryz.zt0 {A:Nat→Prop} {w:World} {S P L Bs B N b2:Nat} {r:Rg} {s:PS} {g:Nat→Int} {lv:Value} (h:RW A w S P L Bs B N b2 r s g lv) (hb:s.br=true∨s.ph=0):
  Calls prog 43 #[.pointer (some ⟨S,0,none⟩)] w fun e w'=>e= .returned (.tuple #[.agg #[.int .i64 0,.int .i64 0,.int .i64 0],.int .i64 (if s.br then 4 else 8)])∧RW A w' S P L Bs B N b2 r s g lv∧Dw.Mv (· =S) w w':=by
 obtain ⟨sv,ct,vs,q1,q2,q3,q4⟩:=h.obj;have k2:=Cl.new w #[.int .i64 0,.int .i64 0,.int .i64 0] 77;have hbx:=(yah w.heap.size w).alloc (yab _) (Obj.cells #[.int .i64 0,.int .i64 0,.int .i64 0] 77);have p1:=q1.below hbx q1.lt;have c14:=p1.cell 14 _ rfl;have kR:=p1.cell 22 _ rfl;have hm2:=jU (K:=(· =S)) hbx;have hR:=h.below hbx;clear hbx;cases hbr:s.br with
 | true=>
  rw [hbr] at kR;go_enter func43,ntmps43;go_wp2_with fail;refine yaP (iq rfl _ _ w.heap.size [.int .i64 0,.int .i64 0,.int .i64 0] _ rfl (fun j y hy=>by rw [yau];exact k2.cell j y hy) underlying77 rfl (by kernel_rfl)) rfl ?_;exact ⟨rfl,hR,hm2⟩
 | false=>
  rw [hbr] at kR;have hp:s.ph=0:=by
   rcases hb with q|q
   ·rw [hbr] at q;cases q
   ·exact q
  have ha:s.bT=0:=by unfold PS.bT;rw [hp];rfl
  rw [ha] at c14;go_enter func43,ntmps43;go_wp2_with fail;refine yaP (iq rfl _ _ w.heap.size [.int .i64 0,.int .i64 0,.int .i64 0] _ rfl (fun j y hy=>by rw [yau];exact k2.cell j y hy) underlying77 rfl (by kernel_rfl)) rfl ?_;exact ⟨rfl,hR,hm2⟩
set_option maxRecDepth 100000 in
theorem Tryz.XO {A:Nat→Prop} {w:World} {S P L Bs B N b2:Nat} {r:Rg} {s:PS} {g:Nat→Int} {lv:Value} (h:RW A w S P L Bs B N b2 r s g lv) (hb:s.br=false) (hp:s.ph=1∨s.ph=4) (fH:mF g s=true):
    Calls prog 82 #[.pointer (some ⟨S,0,none⟩)] w fun e w'=>e= .returned (.tuple #[.agg #[.int .i64 2,.int .i64 1,.int .i64 s.nx],.int .i64 0])∧RW A w' S P L Bs B N b2 r (s.goto 5) g lv∧Dw.Mv (· =S) w w':=by
  obtain ⟨sv,ct,vs,q1,q2,q3,q4⟩:=h.obj;have k2:=Cl.new w #[.int .i64 0,.int .i64 0,.int .i64 0] 77;have hbx:=(yah w.heap.size w).alloc (yab _) (Obj.cells #[.int .i64 0,.int .i64 0,.int .i64 0] 77);have p1:=q1.below hbx q1.lt;have c14:=p1.cell 14 _ rfl;have hat:s.bT=s.ph:=by unfold PS.bT;rw [yaj (by omega)]
  rw [hat] at c14;have hbn:=h.rg.bnd;have hd0:=h.rg.d;have hnx:=h.pb.nx;have hfit:=h.fit;obtain ⟨a,ha⟩: ∃a:Nat,4096+16*s.nx+14=a:=⟨(4096+16*s.nx+14).toNat,by omega⟩;have ha2:(4096+16*s.nx+14).toNat=a:=by rw [ha];rfl
  unfold mF at fH;rw [ha2] at fH;have bF:=lg g h.rm.byte a 2;rw [show (256:Int)^2=65536 from by decide] at bF;have hld:=fun w' (hq:bP w' P L Bs B N g)=>Ia P L Bs B N a 2 g w' hq h.hN (.inr (.inl rfl)) (by omega);have hpl:=fun (w':World) (hq:w'.cell? ⟨S,3,none⟩=some (.int .u64 r.d))=>xZ (i:=s.nx) hq (by omega) (by omega);have qw:=fun w'=>OP (b:=s.nw) bF w';rw [fH] at qw;generalize ax g a 2=F1 at hld qw bF;have w1':IntKind.wrap .u64 (r.d+16*s.nx+14)=a:=by rw [hd0,ha];exact cZ (by omega) (by omega)
  have w2':IntKind.wrap .u16 F1=F1:=yE bF.1 bF.2;have qG:=h.rm.below hbx;have c0:=p1.cell 0 _ rfl;have c3:=p1.cell 3 _ rfl;have c9:=p1.cell 9 _ rfl;have jr:Cl (w.alloc (Obj.cells #[.int .i64 0,.int .i64 0,.int .i64 0] 77)).drew S _:=p1.kept (w':=(w.alloc (Obj.cells #[.int .i64 0,.int .i64 0,.int .i64 0] 77)).drew) rfl;simp only [ybG] at hld;have iH:Cl (w.alloc (Obj.cells #[.int .i64 0,.int .i64 0,.int .i64 0] 77)).drew w.heap.size _:=k2.kept (w':=(w.alloc (Obj.cells #[.int .i64 0,.int .i64 0,.int .i64 0] 77)).drew) rfl;have hbd:Below w.heap.size w (w.alloc (Obj.cells #[.int .i64 0,.int .i64 0,.int .i64 0] 77)).drew:=hbx.drew;obtain ⟨s',hs'⟩: ∃s':PS,s'=s.goto 5:=⟨_,rfl⟩;rw [←hs'];have hpb:PB r s':=hs'▸h.pb.goto _ (.inl (by omega));have t1:s'.tk=s.tk:=by rw [hs'];rfl
  have t2:s'.sg=s.sg:=by rw [hs'];rfl
  have t3: ¬7≤s'.ph:=by rw [hs'];show¬7≤5;omega
  have t4:s'.dn=false:=by rw [hs'];rfl
  have hrow:((s.aJ r P sv lv ct).set 14 (.int .i64 5)).set 21 (.bool false)=s'.aJ r P sv lv ct:=by
    rw [hs'];unfold PS.aJ PS.bT;rw [hb];rfl
  have hg1:=fun w4 (p4:Cl w4 S (s.aJ r P sv lv ct))=>rQ (l:=s.aJ r P sv lv ct) p4 rfl rfl rfl 2 1 s.nx 5 false rfl;simp only [hrow] at hg1;have nS:w.heap.size≠S:=by have:=q1.lt;omega
  have close: ∀ {w4 w5:World},Below (w.alloc (Obj.cells #[.int .i64 0,.int .i64 0,.int .i64 0] 77)).drew.heap.size (w.alloc (Obj.cells #[.int .i64 0,.int .i64 0,.int .i64 0] 77)).drew w4→Cl w5 S (s'.aJ r P sv lv ct)→Dw.Mv (· =S) w4 w5→Cl w5 w.heap.size [.int .i64 0,.int .i64 0,.int .i64 0]∧RW A (((w5.setCell ⟨w.heap.size,0,none⟩ (.int .i64 2)).setCell ⟨w.heap.size,1,none⟩ (.int .i64 1)).setCell ⟨w.heap.size,2,none⟩ (.int .i64 s.nx)) S P L Bs B N b2 r s' g lv∧Dw.Mv (· =S) w (((w5.setCell ⟨w.heap.size,0,none⟩ (.int .i64 2)).setCell ⟨w.heap.size,1,none⟩ (.int .i64 1)).setCell ⟨w.heap.size,2,none⟩ (.int .i64 s.nx)):=fun {w4 w5} hb4 hc hm=>by
    have hz:w.heap.size<w4.heap.size:=yae iH.lt hb4.size;have hm1:Dw.Mv (· =S) w w5:=(jU (hbd.trans (hb4.mono hbd.size))).trans hm;have hm2:=eD (eD (eD hm1 w.heap.size 0 (.int .i64 2) (.inr (yab _))) w.heap.size 1 (.int .i64 1) (.inr (yab _))) w.heap.size 2 (.int .i64 s.nx) (.inr (yab _));refine ⟨(iH.below hb4 iH.lt).kept (hm.block _ hz nS),h.vO hm2 (((hc.kept (yac _ ⟨w.heap.size,0,none⟩ _ S (fun e=>nS e.symm))).kept (yac _ ⟨w.heap.size,1,none⟩ _ S (fun e=>nS e.symm))).kept (yac _ ⟨w.heap.size,2,none⟩ _ S (fun e=>nS e.symm))) ?_ t1 (fun q=>absurd q t3) hpb (fun _=>t4),hm2⟩;rw [t2];exact q2.pG fun b hb hn=>hm2.block b hb fun e=>hn (.inl (by have e:b=S:=e;rw [e];exact h.aS))
  clear hd0 ha ha2 fH hs' hrow hbd hbx;rcases hp with hp|hp
  all_goals
    rw [hp] at c14;go_enter func82,ntmps82;go_wp2_with fail;go_region_held3 (fun w'=>w'.cell? ⟨S,0,none⟩=some (.pointer (some ⟨P,0,none⟩))∧w'.cell? ⟨S,9,none⟩=some (.int .i64 s.nx)) (go_keep)
      ((first
        | (go_at_call 107;refine (hpl (w.alloc (Obj.cells #[.int .i64 0,.int .i64 0,.int .i64 0] 77)).drew c3).mono ?_;rintro en w3 ⟨rfl,hw3⟩;have hw3:=hw3.symm;subst hw3)
        | (go_at_call 109;refine (hld (w.alloc (Obj.cells #[.int .i64 0,.int .i64 0,.int .i64 0] 77)).drew (qG.kept (w':=(w.alloc (Obj.cells #[.int .i64 0,.int .i64 0,.int .i64 0] 77)).drew) (fun _ _ _=>rfl) (yab _))).mono ?_;rintro en w4 ⟨rfl,hb4⟩;have p4:=jr.below hb4 jr.lt;have d0:=p4.cell 0 _ rfl;have d9:=p4.cell 9 _ rfl)))
    all_goals
      have c10:=p4.cell 10 _ rfl;have Bh:=p4.cell 14 _ rfl;rw [hat,hp] at Bh;go_wp2_with (first
        | (go_at_call 111;refine (qw _).mono ?_;rintro en w6 ⟨rfl,hb6⟩;have p6:=p4.below hb6 p4.lt;have y9:=p6.cell 9 _ rfl;have FT:=p6.cell 14 _ rfl)
        | (go_at_call 108;refine (hg1 _ p6).mono ?_;rintro en w5 ⟨rfl,BM,dW⟩;obtain ⟨kc,mK,hM⟩:=close (hb4.trans (hb6.mono hb4.size)) BM dW;have b0:=kc.cell 0 _ rfl;have b1:=kc.cell 1 _ rfl;have b2':=kc.cell 2 _ rfl;have g0:=kc.free 0;have g1:=kc.free 1;have g2:=kc.free 2)
        | go_in)
      have sf:=((kc.set 0 (.int .i64 2) (by simp)).set 1 (.int .i64 1) (by simp)).set 2 (.int .i64 s.nx) (by simp);refine yaP (iq rfl _ _ w.heap.size [.int .i64 2,.int .i64 1,.int .i64 s.nx] _ rfl (fun j y hy=>by rw [yau];exact sf.cell j y hy) underlying77 rfl (by kernel_rfl)) rfl ?_;exact ⟨rfl,mK,hM⟩
set_option maxRecDepth 100000 in
theorem Tryz.zt2 {A:Nat→Prop} {w:World} {S P L Bs B N b2:Nat} {r:Rg} {s:PS} {g:Nat→Int} {lv:Value} (h:RW A w S P L Bs B N b2 r s g lv) (hb:s.br=false) (hp:s.ph=1) (hev:s.ev=true) (fH:mF g s=false):
    Calls prog 82 #[.pointer (some ⟨S,0,none⟩)] w fun e w'=>e= .returned (.tuple #[.agg #[.int .i64 2,.int .i64 1,.int .i64 s.nx],.int .i64 0])∧RW A w' S P L Bs B N b2 r (s.goto 2) g lv∧Dw.Mv (· =S) w w':=by
  obtain ⟨sv,ct,vs,q1,q2,q3,q4⟩:=h.obj;have k2:=Cl.new w #[.int .i64 0,.int .i64 0,.int .i64 0] 77;have hbx:=(yah w.heap.size w).alloc (yab _) (Obj.cells #[.int .i64 0,.int .i64 0,.int .i64 0] 77);have p1:=q1.below hbx q1.lt;have c14:=p1.cell 14 _ rfl;have hat:s.bT=s.ph:=by unfold PS.bT;rw [yaj (by omega)]
  rw [hat] at c14;have hbn:=h.rg.bnd;have hd0:=h.rg.d;have hnx:=h.pb.nx;have hfit:=h.fit;obtain ⟨a,ha⟩: ∃a:Nat,4096+16*s.nx+14=a:=⟨(4096+16*s.nx+14).toNat,by omega⟩;have ha2:(4096+16*s.nx+14).toNat=a:=by rw [ha];rfl
  unfold mF at fH;rw [ha2] at fH;have bF:=lg g h.rm.byte a 2;rw [show (256:Int)^2=65536 from by decide] at bF;have hld:=fun w' (hq:bP w' P L Bs B N g)=>Ia P L Bs B N a 2 g w' hq h.hN (.inr (.inl rfl)) (by omega);have hpl:=fun (w':World) (hq:w'.cell? ⟨S,3,none⟩=some (.int .u64 r.d))=>xZ (i:=s.nx) hq (by omega) (by omega);have qw:=fun w'=>OP (b:=s.nw) bF w';rw [fH] at qw;generalize ax g a 2=F1 at hld qw bF;have w1':IntKind.wrap .u64 (r.d+16*s.nx+14)=a:=by rw [hd0,ha];exact cZ (by omega) (by omega)
  have w2':IntKind.wrap .u16 F1=F1:=yE bF.1 bF.2;have qG:=h.rm.below hbx;have c0:=p1.cell 0 _ rfl;have c3:=p1.cell 3 _ rfl;have c9:=p1.cell 9 _ rfl;have jr:Cl (w.alloc (Obj.cells #[.int .i64 0,.int .i64 0,.int .i64 0] 77)).drew S _:=p1.kept (w':=(w.alloc (Obj.cells #[.int .i64 0,.int .i64 0,.int .i64 0] 77)).drew) rfl;simp only [ybG] at hld;have iH:Cl (w.alloc (Obj.cells #[.int .i64 0,.int .i64 0,.int .i64 0] 77)).drew w.heap.size _:=k2.kept (w':=(w.alloc (Obj.cells #[.int .i64 0,.int .i64 0,.int .i64 0] 77)).drew) rfl;have hbd:Below w.heap.size w (w.alloc (Obj.cells #[.int .i64 0,.int .i64 0,.int .i64 0] 77)).drew:=hbx.drew;obtain ⟨s',hs'⟩: ∃s':PS,s'=s.goto 2:=⟨_,rfl⟩;rw [←hs'];have hpb:PB r s':=hs'▸h.pb.goto _ (.inl (by omega));have t1:s'.tk=s.tk:=by rw [hs'];rfl
  have t2:s'.sg=s.sg:=by rw [hs'];rfl
  have t3: ¬7≤s'.ph:=by rw [hs'];show¬7≤2;omega
  have t4:s'.dn=false:=by rw [hs'];rfl
  have hrow:((s.aJ r P sv lv ct).set 14 (.int .i64 2)).set 21 (.bool false)=s'.aJ r P sv lv ct:=by
    rw [hs'];unfold PS.aJ PS.bT;rw [hb];rfl
  have hg1:=fun w4 (p4:Cl w4 S (s.aJ r P sv lv ct))=>rQ (l:=s.aJ r P sv lv ct) p4 rfl rfl rfl 2 1 s.nx 2 false rfl;simp only [hrow] at hg1;have nS:w.heap.size≠S:=by have:=q1.lt;omega
  have close: ∀ {w4 w5:World},Below (w.alloc (Obj.cells #[.int .i64 0,.int .i64 0,.int .i64 0] 77)).drew.heap.size (w.alloc (Obj.cells #[.int .i64 0,.int .i64 0,.int .i64 0] 77)).drew w4→Cl w5 S (s'.aJ r P sv lv ct)→Dw.Mv (· =S) w4 w5→Cl w5 w.heap.size [.int .i64 0,.int .i64 0,.int .i64 0]∧RW A (((w5.setCell ⟨w.heap.size,0,none⟩ (.int .i64 2)).setCell ⟨w.heap.size,1,none⟩ (.int .i64 1)).setCell ⟨w.heap.size,2,none⟩ (.int .i64 s.nx)) S P L Bs B N b2 r s' g lv∧Dw.Mv (· =S) w (((w5.setCell ⟨w.heap.size,0,none⟩ (.int .i64 2)).setCell ⟨w.heap.size,1,none⟩ (.int .i64 1)).setCell ⟨w.heap.size,2,none⟩ (.int .i64 s.nx)):=fun {w4 w5} hb4 hc hm=>by
    have hz:w.heap.size<w4.heap.size:=yae iH.lt hb4.size;have hm1:Dw.Mv (· =S) w w5:=(jU (hbd.trans (hb4.mono hbd.size))).trans hm;have hm2:=eD (eD (eD hm1 w.heap.size 0 (.int .i64 2) (.inr (yab _))) w.heap.size 1 (.int .i64 1) (.inr (yab _))) w.heap.size 2 (.int .i64 s.nx) (.inr (yab _));refine ⟨(iH.below hb4 iH.lt).kept (hm.block _ hz nS),h.vO hm2 (((hc.kept (yac _ ⟨w.heap.size,0,none⟩ _ S (fun e=>nS e.symm))).kept (yac _ ⟨w.heap.size,1,none⟩ _ S (fun e=>nS e.symm))).kept (yac _ ⟨w.heap.size,2,none⟩ _ S (fun e=>nS e.symm))) ?_ t1 (fun q=>absurd q t3) hpb (fun _=>t4),hm2⟩;rw [t2];exact q2.pG fun b hb hn=>hm2.block b hb fun e=>hn (.inl (by have e:b=S:=e;rw [e];exact h.aS))
  clear hd0 ha ha2 fH hs' hrow hbd hbx
  all_goals
    rw [hp] at c14;go_enter func82,ntmps82;go_wp2_with fail;go_region_held3 (fun w'=>w'.cell? ⟨S,0,none⟩=some (.pointer (some ⟨P,0,none⟩))∧w'.cell? ⟨S,9,none⟩=some (.int .i64 s.nx)) (go_keep)
      ((first
        | (go_at_call 107;refine (hpl (w.alloc (Obj.cells #[.int .i64 0,.int .i64 0,.int .i64 0] 77)).drew c3).mono ?_;rintro en w3 ⟨rfl,hw3⟩;have hw3:=hw3.symm;subst hw3)
        | (go_at_call 109;refine (hld (w.alloc (Obj.cells #[.int .i64 0,.int .i64 0,.int .i64 0] 77)).drew (qG.kept (w':=(w.alloc (Obj.cells #[.int .i64 0,.int .i64 0,.int .i64 0] 77)).drew) (fun _ _ _=>rfl) (yab _))).mono ?_;rintro en w4 ⟨rfl,hb4⟩;have p4:=jr.below hb4 jr.lt;have d0:=p4.cell 0 _ rfl;have d9:=p4.cell 9 _ rfl)))
    all_goals
      have c10:=p4.cell 10 _ rfl;have Bh:=p4.cell 14 _ rfl;rw [hat,hp] at Bh;go_wp2_with (first
        | (go_at_call 111;refine (qw _).mono ?_;rintro en w6 ⟨rfl,hb6⟩;have p6:=p4.below hb6 p4.lt;have y9:=p6.cell 9 _ rfl;have FT:=p6.cell 14 _ rfl;rw [hat,hp] at FT;have y6:=p6.cell 6 _ rfl;rw [hev] at y6)
        | (go_at_call 108;refine (hg1 _ p6).mono ?_;rintro en w5 ⟨rfl,BM,dW⟩;obtain ⟨kc,mK,hM⟩:=close (hb4.trans (hb6.mono hb4.size)) BM dW;have b0:=kc.cell 0 _ rfl;have b1:=kc.cell 1 _ rfl;have b2':=kc.cell 2 _ rfl;have g0:=kc.free 0;have g1:=kc.free 1;have g2:=kc.free 2)
        | go_in)
      have sf:=((kc.set 0 (.int .i64 2) (by simp)).set 1 (.int .i64 1) (by simp)).set 2 (.int .i64 s.nx) (by simp);refine yaP (iq rfl _ _ w.heap.size [.int .i64 2,.int .i64 1,.int .i64 s.nx] _ rfl (fun j y hy=>by rw [yau];exact sf.cell j y hy) underlying77 rfl (by kernel_rfl)) rfl ?_;exact ⟨rfl,mK,hM⟩
set_option maxRecDepth 100000 in
theorem Tryz.XM {A:Nat→Prop} {w:World} {S P L Bs B N b2:Nat} {r:Rg} {s:PS} {g:Nat→Int} {lv:Value} (h:RW A w S P L Bs B N b2 r s g lv) (hb:s.br=false) (hp:s.ph=1∧s.ev=false∨s.ph=4) (fH:mF g s=false):
    Calls prog 82 #[.pointer (some ⟨S,0,none⟩)] w fun e w'=>e= .returned (.tuple #[.agg #[.int .i64 2,.int .i64 1,.int .i64 s.nx],.int .i64 0])∧RW A w' S P L Bs B N b2 r (({ s with nn:=true }:PS).stop) g lv∧Dw.Mv (· =S) w w':=by
  obtain ⟨sv,ct,vs,q1,q2,q3,q4⟩:=h.obj;have k2:=Cl.new w #[.int .i64 0,.int .i64 0,.int .i64 0] 77;have hbx:=(yah w.heap.size w).alloc (yab _) (Obj.cells #[.int .i64 0,.int .i64 0,.int .i64 0] 77);have p1:=q1.below hbx q1.lt;have c14:=p1.cell 14 _ rfl;have hat:s.bT=s.ph:=by unfold PS.bT;rw [yaj (by omega)]
  rw [hat] at c14;have hbn:=h.rg.bnd;have hd0:=h.rg.d;have hnx:=h.pb.nx;have hfit:=h.fit;obtain ⟨a,ha⟩: ∃a:Nat,4096+16*s.nx+14=a:=⟨(4096+16*s.nx+14).toNat,by omega⟩;have ha2:(4096+16*s.nx+14).toNat=a:=by rw [ha];rfl
  unfold mF at fH;rw [ha2] at fH;have bF:=lg g h.rm.byte a 2;rw [show (256:Int)^2=65536 from by decide] at bF;have hld:=fun w' (hq:bP w' P L Bs B N g)=>Ia P L Bs B N a 2 g w' hq h.hN (.inr (.inl rfl)) (by omega);have hpl:=fun (w':World) (hq:w'.cell? ⟨S,3,none⟩=some (.int .u64 r.d))=>xZ (i:=s.nx) hq (by omega) (by omega);have qw:=fun w'=>OP (b:=s.nw) bF w';rw [fH] at qw;generalize ax g a 2=F1 at hld qw bF;have w1':IntKind.wrap .u64 (r.d+16*s.nx+14)=a:=by rw [hd0,ha];exact cZ (by omega) (by omega)
  have w2':IntKind.wrap .u16 F1=F1:=yE bF.1 bF.2;have qG:=h.rm.below hbx;have c0:=p1.cell 0 _ rfl;have c3:=p1.cell 3 _ rfl;have c9:=p1.cell 9 _ rfl;have jr:Cl (w.alloc (Obj.cells #[.int .i64 0,.int .i64 0,.int .i64 0] 77)).drew S _:=p1.kept (w':=(w.alloc (Obj.cells #[.int .i64 0,.int .i64 0,.int .i64 0] 77)).drew) rfl;simp only [ybG] at hld;have iH:Cl (w.alloc (Obj.cells #[.int .i64 0,.int .i64 0,.int .i64 0] 77)).drew w.heap.size _:=k2.kept (w':=(w.alloc (Obj.cells #[.int .i64 0,.int .i64 0,.int .i64 0] 77)).drew) rfl;have hbd:Below w.heap.size w (w.alloc (Obj.cells #[.int .i64 0,.int .i64 0,.int .i64 0] 77)).drew:=hbx.drew;obtain ⟨s',hs'⟩: ∃s':PS,s'=({ s with nn:=true }:PS).stop:=⟨_,rfl⟩;rw [←hs'];have hpb:PB r s':=hs'▸⟨h.pb.nx,h.pb.us,h.pb.ou,h.pb.hd,h.pb.wr,yaE _,fun q=>by have q:7≤0:=q;omega⟩;have t1:s'.tk=s.tk:=by rw [hs'];rfl
  have t2:s'.sg=s.sg:=by rw [hs'];rfl
  have t3: ¬7≤s'.ph:=by rw [hs'];show¬7≤0;omega
  have t4:(s'.ph≠0∨s'.br=true)→s'.dn=false:=by rw [hs'];intro q;rcases q with q|q;exact absurd rfl q;cases q
  have hrow:(((s.aJ r P sv lv ct).set 16 (.bool true)).set 14 (.int .i64 0)).set 21 (.bool true)=s'.aJ r P sv lv ct:=by
    rw [hs'];unfold PS.aJ PS.bT;rw [hb];rfl
  have hg1:=fun w4 (p4:Cl w4 S ((s.aJ r P sv lv ct).set 16 (.bool true)))=>rQ (l:=(s.aJ r P sv lv ct).set 16 (.bool true)) p4 rfl rfl rfl 2 1 s.nx 0 true rfl;simp only [hrow] at hg1;have nS:w.heap.size≠S:=by have:=q1.lt;omega
  have close: ∀ {w4 w5:World},Dw.Mv (· =S) w w4→Cl w4 w.heap.size [.int .i64 0,.int .i64 0,.int .i64 0]→Cl w5 S (s'.aJ r P sv lv ct)→Dw.Mv (· =S) w4 w5→Cl w5 w.heap.size [.int .i64 0,.int .i64 0,.int .i64 0]∧RW A (((w5.setCell ⟨w.heap.size,0,none⟩ (.int .i64 2)).setCell ⟨w.heap.size,1,none⟩ (.int .i64 1)).setCell ⟨w.heap.size,2,none⟩ (.int .i64 s.nx)) S P L Bs B N b2 r s' g lv∧Dw.Mv (· =S) w (((w5.setCell ⟨w.heap.size,0,none⟩ (.int .i64 2)).setCell ⟨w.heap.size,1,none⟩ (.int .i64 1)).setCell ⟨w.heap.size,2,none⟩ (.int .i64 s.nx)):=fun {w4 w5} h4 k4 hc hm=>by
    have hz:=k4.lt;have hm1:Dw.Mv (· =S) w w5:=h4.trans hm;have hm2:=eD (eD (eD hm1 w.heap.size 0 (.int .i64 2) (.inr (yab _))) w.heap.size 1 (.int .i64 1) (.inr (yab _))) w.heap.size 2 (.int .i64 s.nx) (.inr (yab _));refine ⟨k4.kept (hm.block _ hz nS),h.vO hm2 (((hc.kept (yac _ ⟨w.heap.size,0,none⟩ _ S (fun e=>nS e.symm))).kept (yac _ ⟨w.heap.size,1,none⟩ _ S (fun e=>nS e.symm))).kept (yac _ ⟨w.heap.size,2,none⟩ _ S (fun e=>nS e.symm))) ?_ t1 (fun q=>absurd q t3) hpb t4,hm2⟩;rw [t2];exact q2.pG fun b hb hn=>hm2.block b hb fun e=>hn (.inl (by have e:b=S:=e;rw [e];exact h.aS))
  clear hd0 ha ha2 fH hs' hrow hbx;rcases hp with ⟨hp,hev⟩|hp
  all_goals
    rw [hp] at c14;go_enter func82,ntmps82;go_wp2_with fail;go_region_held3 (fun w'=>w'.cell? ⟨S,0,none⟩=some (.pointer (some ⟨P,0,none⟩))∧w'.cell? ⟨S,9,none⟩=some (.int .i64 s.nx)) (go_keep)
      ((first
        | (go_at_call 107;refine (hpl (w.alloc (Obj.cells #[.int .i64 0,.int .i64 0,.int .i64 0] 77)).drew c3).mono ?_;rintro en w3 ⟨rfl,hw3⟩;have hw3:=hw3.symm;subst hw3)
        | (go_at_call 109;refine (hld (w.alloc (Obj.cells #[.int .i64 0,.int .i64 0,.int .i64 0] 77)).drew (qG.kept (w':=(w.alloc (Obj.cells #[.int .i64 0,.int .i64 0,.int .i64 0] 77)).drew) (fun _ _ _=>rfl) (yab _))).mono ?_;rintro en w4 ⟨rfl,hb4⟩;have p4:=jr.below hb4 jr.lt;have d0:=p4.cell 0 _ rfl;have d9:=p4.cell 9 _ rfl)))
    all_goals
      have c10:=p4.cell 10 _ rfl;have Bh:=p4.cell 14 _ rfl;rw [hat,hp] at Bh;go_wp2_with (first
        | (go_at_call 111;refine (qw _).mono ?_;rintro en w6 ⟨rfl,hb6⟩;have p6:=p4.below hb6 p4.lt;have y9:=p6.cell 9 _ rfl;have FT:=p6.cell 14 _ rfl;rw [hat,hp] at FT;have y6:=p6.cell 6 _ rfl
           try rw [hev] at y6
           have y16:=p6.cell 16 _ rfl;have f16:=p6.free 16;have p7:=p6.set 16 (.bool true) (by simp [PS.aJ]);have z9:=p7.cell 9 (.int .i64 s.nx) rfl;have m7:=dM (jU (K:=(· =S)) (hbd.trans ((hb4.trans (hb6.mono hb4.size)).mono hbd.size))) S 16 (.bool true) rfl;have k7:=((iH.below hb4 iH.lt).below hb6 (yae iH.lt hb4.size)).kept (yac w6 ⟨S,16,none⟩ (.bool true) w.heap.size nS))
        | (go_at_call 108;refine (hg1 _ p7).mono ?_;rintro en w5 ⟨rfl,BM,dW⟩;obtain ⟨kc,mK,hM⟩:=close m7 k7 BM dW;have b0:=kc.cell 0 _ rfl;have b1:=kc.cell 1 _ rfl;have b2':=kc.cell 2 _ rfl;have g0:=kc.free 0;have g1:=kc.free 1;have g2:=kc.free 2)
        | go_in)
      have sf:=((kc.set 0 (.int .i64 2) (by simp)).set 1 (.int .i64 1) (by simp)).set 2 (.int .i64 s.nx) (by simp);refine yaP (iq rfl _ _ w.heap.size [.int .i64 2,.int .i64 1,.int .i64 s.nx] _ rfl (fun j y hy=>by rw [yau];exact sf.cell j y hy) underlying77 rfl (by kernel_rfl)) rfl ?_;exact ⟨rfl,mK,hM⟩
theorem Tryz.RW.FN {A:Nat→Prop} {w w':World} {S P L Bs B N b2:Nat} {r:Rg} {s s':PS} {g g':Nat→Int} {lv:Value} (h:RW A w S P L Bs B N b2 r s g lv) (hm:Dw.Mv (fun b=>b=S∨b=B) w w') (hr:bP w' P L Bs B N g') {pQ:Value} {lZ:Int} (hc:Cl w' S (s'.aJ r P pQ lv lZ)) (hsv:aX (fun b=>A b∨lv.ownBlock=some b) w' pQ s'.sg) (ht:s'.tk=s.tk) (hct:7≤s'.ph→ ∀t,bY s'.hd s'.tk=some t→lZ=t.ct) (hp:PB r s') (hd:(s'.ph≠0∨s'.br=true)→s'.dn=false):RW A w' S P L Bs B N b2 r s' g' lv:=by
 obtain ⟨sv,ct,vs,q1,q2,q3,q4⟩:=h.obj;obtain ⟨_,⟨t,hrow⟩,_⟩:=id q3;refine ⟨⟨pQ,lZ,vs,hc,hsv,?_,hct⟩,hr,h.aS,h.aB,fun b hb=>yae (h.lt b hb) hm.size,h.lo,yaw h.b2 hm.size,h.sd,h.rg,hp,h.hN,h.fit,hd,ht▸h.dH,ht▸h.nd⟩;rw [ht];have hlo:=h.lo;refine q3.kept (fun b hb hn=>hm.block b hb fun e=> ?_) (fun b e=>hm.block b (hrow.lt b e).2 fun e2=> ?_)
 ·rcases e with e|e
  ·exact hn (e▸h.aS)
  ·exact hn (e▸h.aB)
 ·have:=(hrow.lt b e).1;rcases e2 with e2|e2<;>omega
set_option maxRecDepth 100000 in
theorem Tryz.zt3 {A:Nat→Prop} {w:World} {S P L Bs B N b2:Nat} {r:Rg} {s:PS} {g:Nat→Int} {lv:Value} (h:RW A w S P L Bs B N b2 r s g lv) (hb:s.br=false) (hp:s.ph=2):
    Calls prog 82 #[.pointer (some ⟨S,0,none⟩)] w fun e w'=>e= .returned (.tuple #[.agg #[.int .i64 3,.int .i64 11,.int .i64 0],.int .i64 0])∧RW A w' S P L Bs B N b2 r (s.goto 3) (dS g r.c.toNat 4 (mU s.nx s.nw+131072)) lv∧Dw.Mv (fun b=>b=S∨b=B) w w':=by
  obtain ⟨sv,ct,vs,q1,q2,q3,q4⟩:=h.obj;have k2:=Cl.new w #[.int .i64 0,.int .i64 0,.int .i64 0] 77;have hbx:=(yah w.heap.size w).alloc (yab _) (Obj.cells #[.int .i64 0,.int .i64 0,.int .i64 0] 77);have p1:=q1.below hbx q1.lt;have c14:=p1.cell 14 _ rfl;have hat:s.bT=s.ph:=by unfold PS.bT;rw [yaj (by omega)]
  rw [hat] at c14;have hbn:=h.rg.bnd;have hd0:=h.rg.d;have hnx:=h.pb.nx;have hfit:=h.fit;have hcc:=h.rg.c;obtain ⟨a,ha⟩: ∃a:Nat,r.c=a:=⟨r.c.toNat,by omega⟩;have ha2:r.c.toNat=a:=by rw [ha];rfl
  rw [ha2];have bW:0≤mU s.nx s.nw∧mU s.nx s.nw<65536:=by unfold mU;split<;>omega
  have hwd:=fun w'=>zvW (a:=s.nx) (x:=s.nw) (by omega) w';have hew:=fun w'=>zzv bW w';have hst:=fun w' (hq:bP w' P L Bs B N g)=>NT P L Bs B N a 4 (mU s.nx s.nw+131072) g w' hq h.hN (.inr (.inr (.inl rfl))) (by omega);unfold bQ at hwd;have qG:=h.rm.below hbx;have c0:=p1.cell 0 _ rfl;have c5:=p1.cell 5 _ rfl;rw [ha] at c5;have c9:=p1.cell 9 _ rfl;have c10:=p1.cell 10 _ rfl;have jr:Cl (w.alloc (Obj.cells #[.int .i64 0,.int .i64 0,.int .i64 0] 77)).drew S _:=p1.kept (w':=(w.alloc (Obj.cells #[.int .i64 0,.int .i64 0,.int .i64 0] 77)).drew) rfl;simp only [ybG] at hst;have iH:Cl (w.alloc (Obj.cells #[.int .i64 0,.int .i64 0,.int .i64 0] 77)).drew w.heap.size _:=k2.kept (w':=(w.alloc (Obj.cells #[.int .i64 0,.int .i64 0,.int .i64 0] 77)).drew) rfl;have hbd:Below w.heap.size w (w.alloc (Obj.cells #[.int .i64 0,.int .i64 0,.int .i64 0] 77)).drew:=hbx.drew;obtain ⟨s',hs'⟩: ∃s':PS,s'=s.goto 3:=⟨_,rfl⟩;rw [←hs'];have hpb:PB r s':=hs'▸h.pb.goto _ (.inl (by omega));have t1:s'.tk=s.tk:=by rw [hs'];rfl
  have t2:s'.sg=s.sg:=by rw [hs'];rfl
  have t3: ¬7≤s'.ph:=by rw [hs'];show¬7≤3;omega
  have t4:s'.dn=false:=by rw [hs'];rfl
  have hrow:((s.aJ r P sv lv ct).set 14 (.int .i64 3)).set 21 (.bool false)=s'.aJ r P sv lv ct:=by
    rw [hs'];unfold PS.aJ PS.bT;rw [hb];rfl
  have hg1:=fun w4 (p4:Cl w4 S (s.aJ r P sv lv ct))=>rQ (l:=s.aJ r P sv lv ct) p4 rfl rfl rfl 3 11 0 3 false rfl;simp only [hrow] at hg1;have nS:w.heap.size≠S:=by have:=q1.lt;omega
  have nB:w.heap.size≠B:=by have:=h.rm.bl;omega
  have zN:S≠B:=h.sd.2.2.2;have close: ∀ {w4 w5 w6:World},Below (w.alloc (Obj.cells #[.int .i64 0,.int .i64 0,.int .i64 0] 77)).drew.heap.size (w.alloc (Obj.cells #[.int .i64 0,.int .i64 0,.int .i64 0] 77)).drew w4→bP w5 P L Bs B N (dS g a 4 (mU s.nx s.nw+131072))→Mv (· =B) w4 w5→Cl w6 S (s'.aJ r P sv lv ct)→Dw.Mv (· =S) w5 w6→Cl w6 w.heap.size [.int .i64 0,.int .i64 0,.int .i64 0]∧RW A (((w6.setCell ⟨w.heap.size,0,none⟩ (.int .i64 3)).setCell ⟨w.heap.size,1,none⟩ (.int .i64 11)).setCell ⟨w.heap.size,2,none⟩ (.int .i64 0)) S P L Bs B N b2 r s' (dS g a 4 (mU s.nx s.nw+131072)) lv∧Dw.Mv (fun b=>b=S∨b=B) w (((w6.setCell ⟨w.heap.size,0,none⟩ (.int .i64 3)).setCell ⟨w.heap.size,1,none⟩ (.int .i64 11)).setCell ⟨w.heap.size,2,none⟩ (.int .i64 0)):=fun {w4 w5 w6} hb4 qA dW hc hm=>by
    have hz:w.heap.size<w4.heap.size:=yae iH.lt hb4.size;have BZ:w.heap.size<w5.heap.size:=yae hz dW.size;have e5:Dw.Mv (fun b=>b=S∨b=B) w4 w5:=⟨dW.os,dW.tape,dW.output,dW.size,fun b hb hn=>dW.block b hb fun e=>hn (.inr e)⟩;have hm1:Dw.Mv (fun b=>b=S∨b=B) w w6:=((jU (hbd.trans (hb4.mono hbd.size))).trans e5).trans (hm.mono fun b e=> .inl e);have hm2:=eD (eD (eD hm1 w.heap.size 0 (.int .i64 3) (.inr (yab _))) w.heap.size 1 (.int .i64 11) (.inr (yab _))) w.heap.size 2 (.int .i64 0) (.inr (yab _));have hsz:=h.rm.pl;have hsl:=h.rm.ll;have hss:=h.rm.sl;have hsb:=h.rm.bl;have r6:=qA.Cs hm h.sd;refine ⟨((iH.below hb4 iH.lt).kept (dW.block _ hz nB)).kept (hm.block _ BZ nS),h.FN hm2 (r6.kept (fun k hk hq=> ?_) (by simp)) (((hc.kept (yac _ ⟨w.heap.size,0,none⟩ _ S (fun e=>nS e.symm))).kept (yac _ ⟨w.heap.size,1,none⟩ _ S (fun e=>nS e.symm))).kept (yac _ ⟨w.heap.size,2,none⟩ _ S (fun e=>nS e.symm))) ?_ t1 (fun q=>absurd q t3) hpb (fun _=>t4),hm2⟩
    · have hne:k≠w.heap.size:=by rcases hq with q|q|q|q<;>omega
      exact (yac _ ⟨w.heap.size,2,none⟩ _ k hne).trans ((yac _ ⟨w.heap.size,1,none⟩ _ k hne).trans (yac _ ⟨w.heap.size,0,none⟩ _ k hne))
    · rw [t2];exact q2.pG fun b hb hn=>hm2.block b hb fun e=>hn (.inl (by
        rcases e with e|e
        · rw [e];exact h.aS
        · rw [e];exact h.aB))
  clear hd0 hcc ha ha2 hs' hrow hbd hbx;rw [hp] at c14;go_enter func82,ntmps82;go_wp2_with fail;go_region_held3 (fun w'=>w'.cell? ⟨S,0,none⟩=some (.pointer (some ⟨P,0,none⟩))∧w'.cell? ⟨S,5,none⟩=some (.int .u64 a)∧w'.cell? ⟨S,9,none⟩=some (.int .i64 s.nx)∧w'.cell? ⟨S,10,none⟩=some (.bool s.nw)) (go_keep)
    ((first
      | (go_at_call 113;refine (hwd (w.alloc (Obj.cells #[.int .i64 0,.int .i64 0,.int .i64 0] 77)).drew).mono ?_;rintro en w3 ⟨rfl,hb3⟩;have p3:=jr.below hb3 jr.lt;have d30:=p3.cell 0 _ rfl;have d35:=(hb3.cell (p:=⟨S,5,none⟩) jr.lt).trans c5;have d39:=p3.cell 9 _ rfl;have d310:=p3.cell 10 _ rfl)
      | (go_at_call 112;refine (hew _).mono ?_;rintro en w4 ⟨rfl,hb4⟩;have p4:=p3.below hb4 p3.lt;have d40:=p4.cell 0 _ rfl;have d45:=(hb4.cell (p:=⟨S,5,none⟩) p3.lt).trans d35;have d49:=p4.cell 9 _ rfl;have Qi:=p4.cell 10 _ rfl;have r4:=((qG.kept (w':=(w.alloc (Obj.cells #[.int .i64 0,.int .i64 0,.int .i64 0] 77)).drew) (fun _ _ _=>rfl) (yab _)).below hb3).below hb4)
      | (go_at_call 36;refine (hst _ r4).mono ?_;rintro en w5 ⟨rfl,qA,dW⟩;have p5:=p4.kept (dW.block S p4.lt zN);have d50:=p5.cell 0 _ rfl;have d55:=((yan (a:=⟨S,5,none⟩) (dW.block S p4.lt zN)).trans d45);have d59:=p5.cell 9 _ rfl;have abR:=p5.cell 10 _ rfl)))
  all_goals
    go_wp2_with (first
      | (go_at_call 108;refine (hg1 _ p5).mono ?_;rintro en w6 ⟨rfl,hc6,qy⟩;obtain ⟨kc,mK,hM⟩:=close (hb3.trans (hb4.mono hb3.size)) qA dW hc6 qy;have b0:=kc.cell 0 _ rfl;have b1:=kc.cell 1 _ rfl;have b2':=kc.cell 2 _ rfl;have g0:=kc.free 0;have g1:=kc.free 1;have g2:=kc.free 2)
      | go_in)
    have sf:=((kc.set 0 (.int .i64 3) (by simp)).set 1 (.int .i64 11) (by simp)).set 2 (.int .i64 0) (by simp);refine yaP (iq rfl _ _ w.heap.size [.int .i64 3,.int .i64 11,.int .i64 0] _ rfl (fun j y hy=>by rw [yau];exact sf.cell j y hy) underlying77 rfl (by kernel_rfl)) rfl ?_;exact ⟨rfl,mK,hM⟩
set_option maxRecDepth 100000 in
theorem Tryz.YV {A:Nat→Prop} {w:World} {S P L Bs B N b2:Nat} {r:Rg} {s:PS} {g:Nat→Int} {lv:Value} (h:RW A w S P L Bs B N b2 r s g lv) (hb:s.br=false) (hp:s.ph=8∨s.ph=10):
    Calls prog 81 #[.pointer (some ⟨S,0,none⟩)] w fun e w'=>e= .returned (.tuple #[.agg #[.int .i64 4,.int .i64 0,.int .i64 0],.int .i64 0])∧RW A w' S P L Bs B N b2 r (s.goto (s.ph+1)) g lv∧Dw.Mv (· =S) w w':=by
  obtain ⟨sv,ct,vs,q1,q2,q3,q4⟩:=h.obj;have k2:=(Cl.new w #[.int .i64 0,.int .i64 0,.int .i64 0] 77).alloc (Obj.cells #[.int .i64 3,.int .i64 1,.int .i64 s.us] 77);have hbx:=(yah w.heap.size w).alloc (yab _) (Obj.cells #[.int .i64 0,.int .i64 0,.int .i64 0] 77);have p0:=q1.below hbx q1.lt;have x3:=p0.cell 3 _ rfl;have Mh:=p0.cell 11 _ rfl;replace hbx:=hbx.alloc (by simp) (Obj.cells #[.int .i64 3,.int .i64 1,.int .i64 s.us] 77);have p1:=q1.below hbx q1.lt;have hbn:=h.rg.bnd;have hd0:=h.rg.d;have dG:=h.pb.us;have hpl:=fun (w':World) (hq:w'.cell? ⟨S,3,none⟩=some (.int .u64 r.d))=>xZ (i:=s.us) hq (by omega) (by omega);have c14:=p1.cell 14 _ rfl;obtain ⟨s',hs'⟩: ∃s':PS,s'=s.goto (s.ph+1):=⟨_,rfl⟩;rw [←hs'];have hpb:PB r s':=hs'▸h.pb.goto _ (.inr ⟨by omega,by omega⟩);have t1:s'.tk=s.tk:=by rw [hs'];rfl
  have t2:s'.sg=s.sg:=by rw [hs'];rfl
  have t3:s'.hd=s.hd:=by rw [hs'];rfl
  have t4:s'.dn=false:=by rw [hs'];rfl
  have hrow:((s.aJ r P sv lv ct).set 14 (.int .i64 (s.ph+5:Nat))).set 21 (.bool false)=s'.aJ r P sv lv ct:=by
    rw [hs'];unfold PS.aJ PS.bT;have: ¬(s.goto (s.ph+1)).ph≤6:=by show¬s.ph+1≤6;omega
    rw [yai this,hb];rfl
  have hat:s.bT=(s.ph+4:Nat):=by unfold PS.bT;rw [yai (by omega)];push_cast;rfl
  rw [hat] at c14;have hg1:=rQ (l:=s.aJ r P sv lv ct) p1 rfl rfl rfl 4 0 0 (s.ph+5:Nat) false (by simp;omega);rw [hrow] at hg1;clear hs' hrow hat;have hn:=q1.lt;have nS:w.heap.size≠S:=by omega
  have close: ∀ {w3:World},Cl w3 S (s'.aJ r P sv lv ct)→Dw.Mv (· =S) ((w.alloc (Obj.cells #[.int .i64 0,.int .i64 0,.int .i64 0] 77)).alloc (Obj.cells #[.int .i64 3,.int .i64 1,.int .i64 s.us] 77)) w3→Cl w3 w.heap.size [.int .i64 0,.int .i64 0,.int .i64 0]∧RW A (((w3.setCell ⟨w.heap.size,0,none⟩ (.int .i64 4)).setCell ⟨w.heap.size,1,none⟩ (.int .i64 0)).setCell ⟨w.heap.size,2,none⟩ (.int .i64 0)) S P L Bs B N b2 r s' g lv∧Dw.Mv (· =S) w (((w3.setCell ⟨w.heap.size,0,none⟩ (.int .i64 4)).setCell ⟨w.heap.size,1,none⟩ (.int .i64 0)).setCell ⟨w.heap.size,2,none⟩ (.int .i64 0)):=fun {w3} hc hm=>by
    have hm1:Dw.Mv (· =S) w w3:=(jU hbx).trans hm;have hm2:=eD (eD (eD hm1 w.heap.size 0 (.int .i64 4) (.inr (yab _))) w.heap.size 1 (.int .i64 0) (.inr (yab _))) w.heap.size 2 (.int .i64 0) (.inr (yab _));refine ⟨k2.kept (hm.block _ k2.lt nS),h.vO hm2 (((hc.kept (yac _ ⟨w.heap.size,0,none⟩ _ S (fun e=>nS e.symm))).kept (yac _ ⟨w.heap.size,1,none⟩ _ S (fun e=>nS e.symm))).kept (yac _ ⟨w.heap.size,2,none⟩ _ S (fun e=>nS e.symm))) ?_ t1 (fun _ t q=>q4 (by omega) t (by rw [t3,t1] at q;exact q)) hpb (fun _=>t4),hm2⟩;rw [t2];exact q2.pG fun b hb hn=>hm2.block b hb fun e=>hn (.inl (by have e:b=S:=e;rw [e];exact h.aS))
  clear hn hbx hd0;rcases hp with hp|hp
  all_goals
    rw [hp] at c14 hg1;go_enter func81,ntmps81;go_wp2_with (first
      | (go_at_call 107;refine (hpl _ x3).mono ?_;rintro en w9 ⟨rfl,mO⟩;have mO:=mO.symm;subst mO)
      | (go_at_call 108;refine hg1.mono ?_;rintro en w3 ⟨rfl,hc3,sV⟩;obtain ⟨kc,mK,hM⟩:=close hc3 sV;have b0:=kc.cell 0 _ rfl;have b1:=kc.cell 1 _ rfl;have b2':=kc.cell 2 _ rfl;have g0:=kc.free 0;have g1:=kc.free 1;have g2:=kc.free 2)
      | go_in)
    have sf:=((kc.set 0 (.int .i64 4) (by simp)).set 1 (.int .i64 0) (by simp)).set 2 (.int .i64 0) (by simp);refine yaP (iq rfl _ _ w.heap.size [.int .i64 4,.int .i64 0,.int .i64 0] _ rfl (fun j y hy=>by rw [yau];exact sf.cell j y hy) underlying77 rfl (by kernel_rfl)) rfl ?_;exact ⟨rfl,mK,hM⟩
set_option maxRecDepth 100000 in
theorem Tryz.zua {A:Nat→Prop} {w:World} {S P L Bs B N b2:Nat} {r:Rg} {s:PS} {g:Nat→Int} {lv:Value} (h:RW A w S P L Bs B N b2 r s g lv) (hb:s.br=false) (hp:s.ph=9):
    Calls prog 81 #[.pointer (some ⟨S,0,none⟩)] w fun e w'=>e= .returned (.tuple #[.agg #[.int .i64 3,.int .i64 1,.int .i64 s.us],.int .i64 0])∧RW A w' S P L Bs B N b2 r (s.goto 10) (dS g (4096+16*s.us+14).toNat 2 ((if 0<s.wr then 2 else 0)+if s.uw then 32896 else 0)) lv∧Dw.Mv (fun b=>b=S∨b=B) w w':=by
  obtain ⟨sv,ct,vs,q1,q2,q3,q4⟩:=h.obj;have k2:=(Cl.new w #[.int .i64 0,.int .i64 0,.int .i64 0] 77).alloc (Obj.cells #[.int .i64 3,.int .i64 1,.int .i64 s.us] 77);have k3:=Cl.new2 (w:=w.alloc (Obj.cells #[.int .i64 0,.int .i64 0,.int .i64 0] 77)) (b:=w.heap.size+1) (arr:= #[.int .i64 3,.int .i64 1,.int .i64 s.us]) (t:=77) (by simp);have hbx:=(yah w.heap.size w).alloc (yab _) (Obj.cells #[.int .i64 0,.int .i64 0,.int .i64 0] 77);have p0:=q1.below hbx q1.lt;have x3:=p0.cell 3 _ rfl;have Mh:=p0.cell 11 _ rfl;replace hbx:=hbx.alloc (by simp) (Obj.cells #[.int .i64 3,.int .i64 1,.int .i64 s.us] 77);have p1:=q1.below hbx q1.lt;have hbn:=h.rg.bnd;have hd0:=h.rg.d;have dG:=h.pb.us;have hfit:=h.fit;have hpl:=fun (w':World) (hq:w'.cell? ⟨S,3,none⟩=some (.int .u64 r.d))=>xZ (i:=s.us) hq (by omega) (by omega);have c14:=p1.cell 14 _ rfl;have hat:s.bT=13:=by unfold PS.bT;rw [yai (by omega),hp];rfl
  rw [hat] at c14;obtain ⟨a,ha⟩: ∃a:Nat,4096+16*s.us+14=a:=⟨(4096+16*s.us+14).toNat,by omega⟩;have ha2:(4096+16*s.us+14).toNat=a:=by rw [ha];rfl
  rw [ha2];obtain ⟨F,hF,hF2⟩: ∃F:Int,F=(if 0<s.wr then (2:Int) else 0)∧(F=0∨F=2):=by
    by_cases q:0<s.wr
    · exact ⟨2,by rw [yaj q],.inr rfl⟩
    · exact ⟨0,by rw [yai q],.inl rfl⟩
  rw [←hF];obtain ⟨V,hV⟩: ∃V:Int,V=F+if s.uw then 32896 else 0:=⟨_,rfl⟩
  rw [←hV];have hmk:=fun w'=>zv7 (x:=s.uw) hF2 w';rw [←hV] at hmk;have bV:0≤V∧V<65536:=by rw [hV];split<;>omega
  have wV:IntKind.wrap .u64 V=V:=cZ bV.1 (by omega);have hst:=fun w' (hq:bP w' P L Bs B N g)=>NT P L Bs B N a 2 V g w' hq h.hN (.inr (.inl rfl)) (by omega);have w1':IntKind.wrap .u64 (r.d+16*s.us+14)=a:=by rw [hd0,ha];exact cZ (by omega) (by omega)
  have qG:=h.rm.below hbx;have c0:=p1.cell 0 _ rfl;have c12:=p1.cell 12 _ rfl;have c19:=p1.cell 19 _ rfl;have z0:=k3.cell 0 _ rfl;have z1:=k3.cell 1 _ rfl;have z2:=k3.cell 2 _ rfl;simp only [ybG] at hst;obtain ⟨WW,kU⟩: ∃WW,WW=((w.alloc (Obj.cells #[.int .i64 0,.int .i64 0,.int .i64 0] 77)).alloc (Obj.cells #[.int .i64 3,.int .i64 1,.int .i64 s.us] 77)).drew:=⟨_,rfl⟩;have jr:Cl WW S (s.aJ r P sv lv ct):=kU▸p1.kept rfl;have iH:Cl WW w.heap.size [.int .i64 0,.int .i64 0,.int .i64 0]:=kU▸k2.kept rfl;have Cg:Cl WW (w.heap.size+1) [.int .i64 3,.int .i64 1,.int .i64 s.us]:=kU▸k3.kept rfl;have hbd:Below w.heap.size w WW:=by rw [kU];exact hbx.drew
  have LV:bP WW P L Bs B N g:=by rw [kU];exact qG.kept (fun _ _ _=>rfl) (yab _)
  obtain ⟨s',hs'⟩: ∃s':PS,s'=s.goto 10:=⟨_,rfl⟩;rw [←hs'];have hpb:PB r s':=hs'▸h.pb.goto _ (.inr ⟨by omega,by omega⟩);have t1:s'.tk=s.tk:=by rw [hs'];rfl
  have t2:s'.sg=s.sg:=by rw [hs'];rfl
  have t3:s'.hd=s.hd:=by rw [hs'];rfl
  have t4:s'.dn=false:=by rw [hs'];rfl
  have t5:s'.uw=s.uw:=by rw [hs'];rfl
  have hrow:((s.aJ r P sv lv ct).set 14 (.int .i64 14)).set 21 (.bool false)=s'.aJ r P sv lv ct:=by
    rw [hs'];unfold PS.aJ PS.bT;rw [hb];rfl
  have hg1:=fun w4 (p4:Cl w4 S (s.aJ r P sv lv ct))=>rQ (l:=s.aJ r P sv lv ct) p4 rfl rfl rfl 3 1 s.us 14 false rfl;simp only [hrow] at hg1;have nS:w.heap.size≠S:=by have:=q1.lt;omega
  have Fx:w.heap.size+1≠S:=by have:=q1.lt;omega
  have nB:w.heap.size≠B:=by have:=h.rm.bl;omega
  have Ls:w.heap.size+1≠B:=by have:=h.rm.bl;omega
  have zN:S≠B:=h.sd.2.2.2;have close: ∀ {w4 w5 w6:World},Below WW.heap.size WW w4→bP w5 P L Bs B N (dS g a 2 V)→Mv (· =B) w4 w5→Cl w6 S (s'.aJ r P sv lv ct)→Dw.Mv (· =S) w5 w6→Cl w6 w.heap.size [.int .i64 0,.int .i64 0,.int .i64 0]∧RW A (((w6.setCell ⟨w.heap.size,0,none⟩ (.int .i64 3)).setCell ⟨w.heap.size,1,none⟩ (.int .i64 1)).setCell ⟨w.heap.size,2,none⟩ (.int .i64 s.us)) S P L Bs B N b2 r s' (dS g a 2 V) lv∧Dw.Mv (fun b=>b=S∨b=B) w (((w6.setCell ⟨w.heap.size,0,none⟩ (.int .i64 3)).setCell ⟨w.heap.size,1,none⟩ (.int .i64 1)).setCell ⟨w.heap.size,2,none⟩ (.int .i64 s.us)):=fun {w4 w5 w6} hb4 qA dW hc hm=>by
    have hz:w.heap.size<w4.heap.size:=yae iH.lt hb4.size;have BZ:w.heap.size<w5.heap.size:=yae hz dW.size;have e5:Dw.Mv (fun b=>b=S∨b=B) w4 w5:=⟨dW.os,dW.tape,dW.output,dW.size,fun b hb hn=>dW.block b hb fun e=>hn (.inr e)⟩;have hm1:Dw.Mv (fun b=>b=S∨b=B) w w6:=((jU (hbd.trans (hb4.mono hbd.size))).trans e5).trans (hm.mono fun b e=> .inl e);have hm2:=eD (eD (eD hm1 w.heap.size 0 (.int .i64 3) (.inr (yab _))) w.heap.size 1 (.int .i64 1) (.inr (yab _))) w.heap.size 2 (.int .i64 s.us) (.inr (yab _));have hsz:=h.rm.pl;have hsl:=h.rm.ll;have hss:=h.rm.sl;have hsb:=h.rm.bl;have r6:=qA.Cs hm h.sd;refine ⟨((iH.below hb4 iH.lt).kept (dW.block _ hz nB)).kept (hm.block _ BZ nS),h.FN hm2 (r6.kept (fun k hk hq=> ?_) (by simp)) (((hc.kept (yac _ ⟨w.heap.size,0,none⟩ _ S (fun e=>nS e.symm))).kept (yac _ ⟨w.heap.size,1,none⟩ _ S (fun e=>nS e.symm))).kept (yac _ ⟨w.heap.size,2,none⟩ _ S (fun e=>nS e.symm))) ?_ t1 (fun _ t q=>q4 (by omega) t (by rw [t3,t1] at q;exact q)) hpb (fun _=>t4),hm2⟩
    · have hne:k≠w.heap.size:=by rcases hq with q|q|q|q<;>omega
      exact (yac _ ⟨w.heap.size,2,none⟩ _ k hne).trans ((yac _ ⟨w.heap.size,1,none⟩ _ k hne).trans (yac _ ⟨w.heap.size,0,none⟩ _ k hne))
    · rw [t2];exact q2.pG fun b hb hn=>hm2.block b hb fun e=>hn (.inl (by
        rcases e with e|e
        · rw [e];exact h.aS
        · rw [e];exact h.aB))
  clear hd0 ha ha2 hs' hrow hbd hbx hV hat;by_cases hw:0<s.wr
  all_goals
    have Kh:=hF
    first|rw [yaj hw] at Kh|rw [yai hw] at Kh
    subst Kh;clear hF hF2;go_enter func81,ntmps81;go_wp2_with (first
      | (go_at_call 107;refine (hpl _ x3).mono ?_;rintro en w9 ⟨rfl,mO⟩;have mO:=mO.symm;subst mO)
      | go_in)
    go_region_held3 (fun w'=>w'.cell? ⟨S,0,none⟩=some (.pointer (some ⟨P,0,none⟩))∧w'.cell? ⟨S,12,none⟩=some (.bool s.uw)∧w'.cell? ⟨w.heap.size+1,0,none⟩=some (.int .i64 3)∧w'.cell? ⟨w.heap.size+1,1,none⟩=some (.int .i64 1)∧w'.cell? ⟨w.heap.size+1,2,none⟩=some (.int .i64 s.us)) (go_keep)
      ((first
        | (go_at_call 37;refine (hmk _).mono ?_;rintro en w4 ⟨rfl,hb4⟩;rw [←kU] at hb4;have p4:=jr.below hb4 jr.lt;have k4:=Cg.below hb4 Cg.lt;have r4:=LV.below hb4;have d40:=p4.cell 0 _ rfl;have abO:=p4.cell 12 _ rfl;have d4a:=k4.cell 0 _ rfl;have d4b:=k4.cell 1 _ rfl;have d4c:=k4.cell 2 _ rfl)
        | (go_at_call 36;refine (hst _ r4).mono ?_;rintro en w5 ⟨rfl,qA,dW⟩;have p5:=p4.kept (dW.block S p4.lt zN);have k5:=k4.kept (dW.block _ k4.lt Ls);have d50:=p5.cell 0 _ rfl;have abS:=p5.cell 12 _ rfl;have d5a:=k5.cell 0 _ rfl;have d5b:=k5.cell 1 _ rfl;have d5c:=k5.cell 2 _ rfl)
        | (go_at_call 108;refine (hg1 _ p5).mono ?_;rintro en w6 ⟨rfl,hc6,qy⟩;obtain ⟨kc,mK,hM⟩:=close hb4 qA dW hc6 qy;have k6:=k5.kept (qy.block _ k5.lt Fx);have d60:=hc6.cell 0 _ rfl;have aag:=hc6.cell 12 _ rfl;rw [t5] at aag;have d6a:=k6.cell 0 _ rfl;have d6b:=k6.cell 1 _ rfl;have d6c:=k6.cell 2 _ rfl;have b0:=kc.cell 0 _ rfl;have b1:=kc.cell 1 _ rfl;have b2':=kc.cell 2 _ rfl;have g0:=kc.free 0;have g1:=kc.free 1;have g2:=kc.free 2)))
    all_goals
      go_wp2_with fail;have sf:=((kc.set 0 (.int .i64 3) (by simp)).set 1 (.int .i64 1) (by simp)).set 2 (.int .i64 s.us) (by simp);refine yaP (iq rfl _ _ w.heap.size [.int .i64 3,.int .i64 1,.int .i64 s.us] _ rfl (fun j y hy=>by rw [yau];exact sf.cell j y hy) underlying77 rfl (by kernel_rfl)) rfl ?_;exact ⟨rfl,mK,hM⟩
end Go.Proofs
namespace Go.Proofs
open Go.Dw
def Tryz.znJ:List aG:=zEQ
def Tryz.zsd:List Sh:= []
def Tryz.znK:List AV:= [.agg [.int .u64 (aj 3),.int .u32 (aW 4),.int .u16 (aK 5),.int .u16 (aK 6)]]
def Tryz.zzT:List (SB×Bool):= []
def Tryz.zwK:List Leaf:= [
 ⟨.opq 5 none,[],[],4,[]⟩]
def Tryz.zC7:List (List (SB×Bool)×Nat):= [
 ([], 0)]
theorem Tryz.zzS:(ev prog (bB znJ) 100000 (.call 38 znK (bn 0 zsd) (cK zwK 0))).ways zzT=some zC7:=by kernel_rfl
theorem Tryz.zC8:(bD zsd&&zag znJ&&AV.bK znK&&dh zwK)=true:=by kernel_rfl
open Go.RowKit Go.Maps Go.Sort
theorem Tryz.Nf (p:Pt) (hp:p.ok) (w:World):
  Calls prog 38 #[.agg #[.int .u64 p.a,.int .u32 p.ln,.int .u16 p.f,.int .u16 p.nx]] w fun e w'=> ∃u,e= .returned u∧aA 5 1 w' w.heap.size u p.bytes.length (gW p.bytes)∧Below w.heap.size w w':=by
 obtain ⟨ρ,d3,d4,d5,d6⟩: ∃ρ:Val,(aj 3).den ρ=p.a∧(aW 4).den ρ=p.ln∧(aK 5).den ρ=p.f∧(aK 6).den ρ=p.nx:=
  ⟨cB [0,0,0,p.a,p.ln,p.f,p.nx] [] [],fM hp.a.1 hp.a.2,lU hp.ln.1 hp.ln.2,jC hp.f.1 hp.f.2,jC hp.nx.1 hp.nx.2⟩
 let L:Nat→List Int:=fun k=>match k with
  | 0=> []|1=>bytesOf p.a 8|2=>bytesOf p.a 8++bytesOf p.ln 4|3=>bytesOf p.a 8++bytesOf p.ln 4++bytesOf p.f 2|_=>p.bytes
 have l1:(L 1).length=8:=by simp [L,vQ]
 have l2:(L 2).length=12:=by simp [L,vQ]
 have l3:(L 3).length=14:=by simp [L,vQ]
 refine yaq (zap (ρ:=ρ) (K:=fun _=>False) (g:=Td w.heap.size L) (bl:= []) (vals:= [.agg #[.int .u64 p.a,.int .u32 p.ln,.int .u16 p.f,.int .u16 p.nx]]) mixed zzS zC8 (fun b h=>h.elim) trivial trivial ⟨fun _=>False,fun _ h=>h.elim,trivial⟩
  ⟨I5 (n:=8) (.inl ⟨rfl,rfl⟩) rfl (by rw [d3];rfl) (by decide) (yaE _),I5 (n:=4) (.inr ⟨by decide,rfl⟩) rfl (by rw [d4];rfl) (by decide) (by omega),I5 (n:=2) (.inr ⟨by decide,rfl⟩) rfl (by rw [d5];rfl) (by decide) (by omega),I5 (n:=2) (.inr ⟨by decide,rfl⟩) rfl (by rw [d6];rfl) (by decide) (by omega),trivial⟩
  (af (dO (af (ai d3) (af (ai d4) (af (ai d5) (af (ai d6) RL.nil))))) RL.nil) (aR.2 trivial)) fun e w' hh=> ?_
 obtain ⟨_,j,he⟩:=mE hh;have hb:=gF he (fun _ h=>h);obtain ⟨F2,_,u,hu,hou,_⟩:=he.eY;exact ⟨u,he.ret.trans (by rw [uj hu]),hou,hb⟩
open Go.Deep
theorem Tryz.zr1 (ys:List Int): ∀(xs:List Int) (g:Nat→Int) (a:Nat),fB g a (xs++ys)=fB (fB g a xs) (a+xs.length) ys
 | [], _,_=>rfl
 | x::r,g,a=>by
  rw [yco,fB,fB,zr1 ys r,ya6,show a+1+r.length=a+(r.length+1) by omega]
theorem Tryz.YW (g:Nat→Int) (a n:Nat) (v:Int):fB g a (bytesOf v n)=dS g a n v:=by
 funext j;rw [OQ,vQ];unfold dS;by_cases h:a≤j∧j<a+n
 ·rw [yaj h,yaj h,zpm _ _ _ (by omega)]
 ·rw [yai h,yai h]
theorem Tryz.abI:(0:Int)≤0∧(0:Int)<18446744073709551616:=by decide
theorem Tryz.abH:(0:Int)≤0∧(0:Int)<65536:=by decide
theorem Tryz.zFc {w:World} {b2:Nat} {u:Value} {p:Pt} (h:aA 5 1 w b2 u p.bytes.length (gW p.bytes)): ∃G c,u= .slice (some ⟨G,0,none⟩) 16 c∧16≤c∧G<w.heap.size∧w.rangeAt G 8 ((bytesOf p.ln 4++bytesOf p.f 2).map (Value.int .u8)):=by
 rw [Pt.EH] at h;have hcap:=h;obtain ⟨sa,c,rfl,hr⟩:=aA.row h;rcases hr with hr|⟨G,rfl,_,hr⟩
 ·have:=yaI List.length hr;simp [gW,Pt.EH] at this
 ·refine ⟨G,c,rfl,aA.cap hcap (by decide),@World.block_lt_of_cell? w ⟨G,0,none⟩ (.int .u8 (p.bytes.getD 0 0)) ?_,fun j y hy=> ?_⟩
  ·have:=hr 0 (.int .u8 (p.bytes.getD 0 0)) (by simp [gW,Pt.bytes,bytesOf]);exact this
  ·have:=hr (8+j) y (by
    simp only [gW,Pt.bytes,ycK];have l8:((bytesOf p.a 8).map (Value.int .u8)).length=8:=by rw [ybs,vQ]
    rw [ybl,ybl,yaW (by rw [l8];exact Nat.le_add_right 8 j),l8,Nat.add_sub_cancel_left];rw [ycK] at hy;have hj:=(yax.1 hy).1;rw [←ybl,yaV hj];exact hy)
   rw [yau] at this;exact this
set_option maxRecDepth 100000 in
theorem Tryz.zub {A:Nat→Prop} {w:World} {S P L Bs B N b2:Nat} {r:Rg} {s:PS} {g:Nat→Int} {lv:Value} (h:RW A w S P L Bs B N b2 r s g lv) (hb:s.br=false) (hp:s.ph=7):
    Calls prog 81 #[.pointer (some ⟨S,0,none⟩)] w fun e w'=>e= .returned (.tuple #[.agg #[.int .i64 3,.int .i64 1,.int .i64 s.us],.int .i64 0])∧RW A w' S P L Bs B N b2 r (s.goto 8) (dS (dS g (4096+16*s.us+8).toNat 4 s.wr) (4096+16*s.us+12).toNat 2 s.hd) lv∧Dw.Mv (fun b=>b=S∨b=B) w w':=by
  obtain ⟨sv,ct,vs,q1,q2,q3,q4⟩:=h.obj;have k2:=(Cl.new w #[.int .i64 0,.int .i64 0,.int .i64 0] 77).alloc (Obj.cells #[.int .i64 3,.int .i64 1,.int .i64 s.us] 77);have k3:=Cl.new2 (w:=w.alloc (Obj.cells #[.int .i64 0,.int .i64 0,.int .i64 0] 77)) (b:=w.heap.size+1) (arr:= #[.int .i64 3,.int .i64 1,.int .i64 s.us]) (t:=77) (by simp);have hbx:=(yah w.heap.size w).alloc (yab _) (Obj.cells #[.int .i64 0,.int .i64 0,.int .i64 0] 77);have p0:=q1.below hbx q1.lt;have x3:=p0.cell 3 _ rfl;have Mh:=p0.cell 11 _ rfl;replace hbx:=hbx.alloc (by simp) (Obj.cells #[.int .i64 3,.int .i64 1,.int .i64 s.us] 77);have p1:=q1.below hbx q1.lt;have hbn:=h.rg.bnd;have hd0:=h.rg.d;have dG:=h.pb.us;have hfit:=h.fit;have hpl:=fun (w':World) (hq:w'.cell? ⟨S,3,none⟩=some (.int .u64 r.d))=>xZ (i:=s.us) hq (by omega) (by omega);have c14:=p1.cell 14 _ rfl;have hat:s.bT=11:=by unfold PS.bT;rw [yai (by omega),hp];rfl
  rw [hat] at c14;obtain ⟨a,ha⟩: ∃a:Nat,4096+16*s.us+8=a:=⟨(4096+16*s.us+8).toNat,by omega⟩;have ha2:(4096+16*s.us+8).toNat=a:=by rw [ha];rfl
  have BG:(4096+16*s.us+12).toNat=a+4:=by omega
  rw [ha2,BG];have bwr:=h.pb.wr;have JO:=h.pb.hd;have hpk:=fun w'=>Nf ⟨0,0,s.wr,s.hd,0⟩ ⟨abI,bwr,JO,abH⟩ w';simp only at hpk;have whd:IntKind.wrap .u16 s.hd=s.hd:=yE JO.1 JO.2;obtain ⟨xs,hxs⟩: ∃xs:List Int,xs=bytesOf s.wr 4++bytesOf s.hd 2:=⟨_,rfl⟩;have hxl:xs.length=6:=by rw [hxs];rfl
  have hxb: ∀x∈xs,0≤x∧x<256:=by rw [hxs];exact fun x hx=>(yaR.1 hx).elim (Nv _ _ x) (Nv _ _ x)
  have hpg:fB g a xs=dS (dS g a 4 s.wr) (a+4) 2 s.hd:=by rw [hxs,zr1,YW,YW,vQ]
  rw [←hpg];have hst:=fun w' G c (hq:bP w' P L Bs B N g) (hr:w'.rangeAt G 8 (xs.map (Value.int .u8))) hG=>Z8 P L Bs B N a G 8 c xs g w' hq h.hN (by omega) (by omega) hxb hr hG;rw [hxl] at hst;have xJ:=fun w' b2 u (hu:aA 5 1 w' b2 u _ (gW (⟨0,0,s.wr,s.hd,0⟩:Pt).bytes))=>zFc hu;simp only [←hxs] at xJ;generalize (⟨0,0,s.wr,s.hd,0⟩:Pt)=pt at hpk xJ;have w1':IntKind.wrap .u64 (r.d+16*s.us+8)=a:=by rw [hd0,ha];exact cZ (by omega) (by omega)
  have qG:=h.rm.below hbx;have c0:=p1.cell 0 _ rfl;have c17:=p1.cell 17 _ rfl;have c19:=p1.cell 19 _ rfl;have z0:=k3.cell 0 _ rfl;have z1:=k3.cell 1 _ rfl;have z2:=k3.cell 2 _ rfl;obtain ⟨WW,kU⟩: ∃WW,WW=((w.alloc (Obj.cells #[.int .i64 0,.int .i64 0,.int .i64 0] 77)).alloc (Obj.cells #[.int .i64 3,.int .i64 1,.int .i64 s.us] 77)).drew:=⟨_,rfl⟩;have jr:Cl WW S (s.aJ r P sv lv ct):=kU▸p1.kept rfl;have iH:Cl WW w.heap.size [.int .i64 0,.int .i64 0,.int .i64 0]:=kU▸k2.kept rfl;have Cg:Cl WW (w.heap.size+1) [.int .i64 3,.int .i64 1,.int .i64 s.us]:=kU▸k3.kept rfl;have hbd:Below w.heap.size w WW:=by rw [kU];exact hbx.drew
  have LV:bP WW P L Bs B N g:=by rw [kU];exact qG.kept (fun _ _ _=>rfl) (yab _)
  obtain ⟨s',hs'⟩: ∃s':PS,s'=s.goto 8:=⟨_,rfl⟩;rw [←hs'];have hpb:PB r s':=hs'▸h.pb.goto _ (.inr ⟨by omega,by omega⟩);have t1:s'.tk=s.tk:=by rw [hs'];rfl
  have t2:s'.sg=s.sg:=by rw [hs'];rfl
  have t3:s'.hd=s.hd:=by rw [hs'];rfl
  have t4:s'.dn=false:=by rw [hs'];rfl
  have hrow:((s.aJ r P sv lv ct).set 14 (.int .i64 12)).set 21 (.bool false)=s'.aJ r P sv lv ct:=by
    rw [hs'];unfold PS.aJ PS.bT;rw [hb];rfl
  have hg1:=fun w4 (p4:Cl w4 S (s.aJ r P sv lv ct))=>rQ (l:=s.aJ r P sv lv ct) p4 rfl rfl rfl 3 1 s.us 12 false rfl;simp only [hrow] at hg1;have nS:w.heap.size≠S:=by have:=q1.lt;omega
  have Fx:w.heap.size+1≠S:=by have:=q1.lt;omega
  have nB:w.heap.size≠B:=by have:=h.rm.bl;omega
  have Ls:w.heap.size+1≠B:=by have:=h.rm.bl;omega
  have zN:S≠B:=h.sd.2.2.2;have close: ∀ {w4 w5 w6:World},Below WW.heap.size WW w4→bP w5 P L Bs B N (fB g a xs)→Mv (· =B) w4 w5→Cl w6 S (s'.aJ r P sv lv ct)→Dw.Mv (· =S) w5 w6→Cl w6 w.heap.size [.int .i64 0,.int .i64 0,.int .i64 0]∧RW A (((w6.setCell ⟨w.heap.size,0,none⟩ (.int .i64 3)).setCell ⟨w.heap.size,1,none⟩ (.int .i64 1)).setCell ⟨w.heap.size,2,none⟩ (.int .i64 s.us)) S P L Bs B N b2 r s' (fB g a xs) lv∧Dw.Mv (fun b=>b=S∨b=B) w (((w6.setCell ⟨w.heap.size,0,none⟩ (.int .i64 3)).setCell ⟨w.heap.size,1,none⟩ (.int .i64 1)).setCell ⟨w.heap.size,2,none⟩ (.int .i64 s.us)):=fun {w4 w5 w6} hb4 qA dW hc hm=>by
    have hz:w.heap.size<w4.heap.size:=yae iH.lt hb4.size;have BZ:w.heap.size<w5.heap.size:=yae hz dW.size;have e5:Dw.Mv (fun b=>b=S∨b=B) w4 w5:=⟨dW.os,dW.tape,dW.output,dW.size,fun b hb hn=>dW.block b hb fun e=>hn (.inr e)⟩;have hm1:Dw.Mv (fun b=>b=S∨b=B) w w6:=((jU (hbd.trans (hb4.mono hbd.size))).trans e5).trans (hm.mono fun b e=> .inl e);have hm2:=eD (eD (eD hm1 w.heap.size 0 (.int .i64 3) (.inr (yab _))) w.heap.size 1 (.int .i64 1) (.inr (yab _))) w.heap.size 2 (.int .i64 s.us) (.inr (yab _));have hsz:=h.rm.pl;have hsl:=h.rm.ll;have hss:=h.rm.sl;have hsb:=h.rm.bl;have r6:=qA.Cs hm h.sd;refine ⟨((iH.below hb4 iH.lt).kept (dW.block _ hz nB)).kept (hm.block _ BZ nS),h.FN hm2 (r6.kept (fun k hk hq=> ?_) (by simp)) (((hc.kept (yac _ ⟨w.heap.size,0,none⟩ _ S (fun e=>nS e.symm))).kept (yac _ ⟨w.heap.size,1,none⟩ _ S (fun e=>nS e.symm))).kept (yac _ ⟨w.heap.size,2,none⟩ _ S (fun e=>nS e.symm))) ?_ t1 (fun _ t q=>q4 (by omega) t (by rw [t3,t1] at q;exact q)) hpb (fun _=>t4),hm2⟩
    · have hne:k≠w.heap.size:=by rcases hq with q|q|q|q<;>omega
      exact (yac _ ⟨w.heap.size,2,none⟩ _ k hne).trans ((yac _ ⟨w.heap.size,1,none⟩ _ k hne).trans (yac _ ⟨w.heap.size,0,none⟩ _ k hne))
    · rw [t2];exact q2.pG fun b hb hn=>hm2.block b hb fun e=>hn (.inl (by
        rcases e with e|e
        · rw [e];exact h.aS
        · rw [e];exact h.aB))
  have nD: ∀(w4:World) (b:Nat) (l:List Value),Cl w4 b l→Cl w4.drew b l:=fun w4 b l h=>h.kept rfl;clear hd0 ha ha2 BG hs' hrow hbd hbx hat hxs hxl hpg hxb;go_enter func81,ntmps81;go_wp2_with (first
    | (go_at_call 107;refine (hpl _ x3).mono ?_;rintro en w9 ⟨rfl,mO⟩;have mO:=mO.symm;subst mO)
    | go_in)
  go_region_held3 (fun w'=>w'.cell? ⟨S,17,none⟩=some (.int .i64 s.hd)∧w'.cell? ⟨S,19,none⟩=some (.int .u32 s.wr)) (go_keep)
    ((first
      | (go_at_call 38;refine (hpk _).mono ?_;rintro en w4 ⟨u,rfl,hu,hb4⟩;rw [←kU] at hb4 hu;obtain ⟨G,c,rfl,hcap,hG,ET⟩:=xJ _ _ _ hu;have p4:=jr.below hb4 jr.lt;have k4:=Cg.below hb4 Cg.lt;have r4:=LV.below hb4;have abP:=p4.cell 17 _ rfl;have abQ:=p4.cell 19 _ rfl;have d40:=p4.cell 0 _ rfl;have d4a:=k4.cell 0 _ rfl;have d4b:=k4.cell 1 _ rfl;have d4c:=k4.cell 2 _ rfl)))
  have e1: ¬(c=8):=by omega
  have e2:(8:Int)≤14:=by decide
  have e3:(14:Int)≤(c:Int):=by omega
  have aat:Below WW.heap.size WW w4.drew:=hb4.drew;have r4d:bP w4.drew P L Bs B N g:=r4.kept (fun _ _ _=>rfl) (yab _);have aan:w4.drew.rangeAt G 8 (xs.map (Value.int .u8)):=ET;have sQ:G<w4.drew.heap.size:=hG;have SF:=nD _ _ _ p4;have R3:=nD _ _ _ k4;go_wp2_with fail;go_region_held3 (fun w'=>w'.cell? ⟨S,0,none⟩=some (.pointer (some ⟨P,0,none⟩))∧w'.cell? ⟨w.heap.size+1,0,none⟩=some (.int .i64 3)∧w'.cell? ⟨w.heap.size+1,1,none⟩=some (.int .i64 1)∧w'.cell? ⟨w.heap.size+1,2,none⟩=some (.int .i64 s.us)) (go_keep)
    ((first
      | (go_at_call 41;refine (hst _ _ _ r4d aan sQ).mono ?_;rintro en w5 ⟨rfl,qA,dW⟩;have p5:=SF.kept (dW.block S SF.lt zN);have k5:=R3.kept (dW.block _ R3.lt Ls);have d50:=p5.cell 0 _ rfl;have d5a:=k5.cell 0 _ rfl;have d5b:=k5.cell 1 _ rfl;have d5c:=k5.cell 2 _ rfl)
      | (go_at_call 108;refine (hg1 _ p5).mono ?_;rintro en w6 ⟨rfl,hc6,qy⟩;obtain ⟨kc,mK,hM⟩:=close aat qA dW hc6 qy;have k6:=k5.kept (qy.block _ k5.lt Fx);have d60:=hc6.cell 0 _ rfl;have d6a:=k6.cell 0 _ rfl;have d6b:=k6.cell 1 _ rfl;have d6c:=k6.cell 2 _ rfl;have b0:=kc.cell 0 _ rfl;have b1:=kc.cell 1 _ rfl;have b2':=kc.cell 2 _ rfl;have g0:=kc.free 0;have g1:=kc.free 1;have g2:=kc.free 2)))
  all_goals
    go_wp2_with fail;have sf:=((kc.set 0 (.int .i64 3) (by simp)).set 1 (.int .i64 1) (by simp)).set 2 (.int .i64 s.us) (by simp);refine yaP (iq rfl _ _ w.heap.size [.int .i64 3,.int .i64 1,.int .i64 s.us] _ rfl (fun j y hy=>by rw [yau];exact sf.cell j y hy) underlying77 rfl (by kernel_rfl)) rfl ?_;exact ⟨rfl,mK,hM⟩
theorem Tryz.zr5 {h:Int}: ∀ {tk:List (Int×bN)} {k:Nat} (hk:k<tk.length),tk[k].1=h→(∀(j:Nat) (hj:j<k),tk[j].1≠h)→iB h tk=tk.take k++tk.drop (k+1)
 | e::r,0,_,h1,_=>by
  have h1:e.1=h:=h1;unfold iB;rw [yaj h1.symm];rfl
 | e::r,k+1,hk,h1,h2=>by
  have h0:=h2 0 (by omega);have h0:e.1≠h:=h0;have hk':k<r.length:=by simpa using hk
  unfold iB;rw [yai (fun q=>h0 q.symm),zr5 hk' h1 (fun j hj=>h2 (j+1) (by omega))];rfl
theorem Tryz.Gv: ∀(a:List (Int×bN)) (x:List Value) (_:x.length=a.length) (b:List (Int×bN)) (y:List Value),eF (a++b) (x++y)=eF a x++eF b y
 | [], [], _,b,y=>rfl
 | e::r,[],h,_,_=>by simp at h
 | e::r,v::vs,h,b,y=>by
  simp only [yco,eF,Gv r vs (by simpa using h) b y]
theorem Tryz.zmK {tk:List (Int×bN)} {vs:List Value} (h:vs.length=tk.length) {k:Nat} (hk:k≤tk.length):(eF tk vs).take (k*3)=eF (tk.take k) (vs.take k):=by
 have e:eF tk vs=eF (tk.take k) (vs.take k)++eF (tk.drop k) (vs.drop k):=by
  rw [←Gv _ _ (by simp [h]),ybH,ybH]
 have l:(eF (tk.take k) (vs.take k)).length=k*3:=by rw [rO _ _ (by simp [h]),ybD,ycJ hk]
 rw [e,←l,ydN]
theorem Tryz.zmL {tk:List (Int×bN)} {vs:List Value} (h:vs.length=tk.length) {k:Nat} (hk:k≤tk.length):(eF tk vs).drop (k*3)=eF (tk.drop k) (vs.drop k):=by
 have e:eF tk vs=eF (tk.take k) (vs.take k)++eF (tk.drop k) (vs.drop k):=by
  rw [←Gv _ _ (by simp [h]),ybH,ybH]
 have l:(eF (tk.take k) (vs.take k)).length=k*3:=by rw [rO _ _ (by simp [h]),ybD,ycJ hk]
 rw [e,←l,List.drop_left]
theorem Tryz.zpF {A:Nat→Prop} {w:World} {tk:List (Int×bN)} {vs:List Value} (h:vs.length=tk.length) (hv: ∀(i:Nat) (h:i<tk.length) (h':i<vs.length),aX A w vs[i] tk[i].2.sg): ∀u∈eF tk vs,u.oneCell'=true:=by
 induction tk generalizing vs with
 | nil=>intro u hu;cases vs<;>cases hu
 | cons e r ih=>
  cases vs with
  | nil=>simp at h
  | cons v vs=>
   intro u hu;simp only [eF,yad] at hu;rcases hu with rfl|rfl|rfl|hu
   ·rfl
   ·rfl
   ·obtain ⟨sa,c,e,_⟩:=hv 0 (by simp) (by simp);have e:u=_:=e;rw [e];rfl
   ·exact ih (by simpa using h) (fun i q q'=>hv (i+1) (by simpa using q) (by simpa using q')) u hu
section
variable {A:Nat→Prop} {w w':World} {S P L Bs B N b2:Nat} {r:Tryz.Rg} {s s':Tryz.PS} {g g':Nat→Int} {lv:Value}
theorem Tryz.RW.vN (h:RW A w S P L Bs B N b2 r s g lv) (hm:Dw.Mv (fun b=>b=S∨lv.ownBlock=some b) w w') {pQ:Value} {lZ:Int} {dJ:Value} {vs':List Value} (hc:Cl w' S (s'.aJ r P pQ dJ lZ)) (hsv:aX (fun b=>A b∨dJ.ownBlock=some b) w' pQ s'.sg) (hT:uP A w' b2 dJ s'.tk vs') (hct:7≤s'.ph→ ∀t,bY s'.hd s'.tk=some t→lZ=t.ct) (hp:PB r s') (hd:(s'.ph≠0∨s'.br=true)→s'.dn=false) (xD: ∀e∈s'.tk,0≤e.1∧e.1<r.n) (hnd:(s'.tk.map (·.1)).Nodup):RW A w' S P L Bs B N b2 r s' g dJ:=by
 obtain ⟨sv,ct,vs,q1,q2,q3,q4⟩:=h.obj;obtain ⟨_,⟨t,hrow⟩,_⟩:=id q3;have hlo:=h.lo;have hsd:=h.sd;refine ⟨⟨pQ,lZ,vs',hc,hsv,hT,hct⟩,h.rm.kept (fun k hk hq=>hm.block k hk fun e=> ?_) hm.size,h.aS,h.aB,fun b hb=>yae (h.lt b hb) hm.size,h.lo,yaw h.b2 hm.size,h.sd,h.rg,hp,h.hN,h.fit,hd,xD,hnd⟩;rcases e with e|e
 ·rcases hq with q|q|q|q
  ·exact hsd.1 (e.symm.trans q)
  ·exact hsd.2.1 (e.symm.trans q)
  ·exact hsd.2.2.1 (e.symm.trans q)
  ·exact hsd.2.2.2 (e.symm.trans q)
 ·have:=(hrow.lt k e).1;rcases hq with q|q|q|q<;>omega
end
end Go.Proofs
namespace Go.Proofs
open Go.Dw Go.RowKit Go.Maps Go.Sort Go.Deep
set_option maxRecDepth 100000 in
theorem Tryz.zzs {w:World} {S P:Nat} {r:Rg} {s:PS} {sv lv:Value} {ct:Int} (h:Cl w S (s.aJ r P sv lv ct)) (k what i aP:Int) (hdn:s.dn=false):
  Calls prog 108 #[.pointer (some ⟨S,0,none⟩),.agg #[.int .i64 k,.int .i64 what,.int .i64 i],.bool false,.int .i64 aP] w fun e w'=>e= .returned (.tuple #[.agg #[.int .i64 k,.int .i64 what,.int .i64 i],.int .i64 4])∧Cl w' S (s.brk.aJ r P (.slice none 0 0) lv ct)∧Dw.Mv (· =S) w w':=by
 have hb2:=((yah w.heap.size w).alloc (yab _) (Obj.cells #[.int .i64 k,.int .i64 what,.int .i64 i] 77)).alloc (by simp) (Obj.cells #[.int .i64 0,.int .i64 0,.int .i64 0] 77);have k5:=(Cl.new w #[.int .i64 k,.int .i64 what,.int .i64 i] 77).alloc (Obj.cells #[.int .i64 0,.int .i64 0,.int .i64 0] 77);have k8:=Cl.new2 (w:=w.alloc (Obj.cells #[.int .i64 k,.int .i64 what,.int .i64 i] 77)) (b:=w.heap.size+1) (arr:= #[.int .i64 0,.int .i64 0,.int .i64 0]) (t:=77) (by simp);have hS:=h.below hb2 h.lt;have hlt:=h.lt;have c14:=hS.cell 14 _ rfl;have c15:=hS.cell 15 _ rfl;have c16:=hS.cell 16 _ rfl;have c17:=hS.cell 17 _ rfl;have c18:=hS.cell 18 _ rfl;have c19:=hS.cell 19 _ rfl;have c20:=hS.cell 20 _ rfl;have c21:=hS.cell 21 _ rfl;have kR:=hS.cell 22 _ rfl;have f14:=hS.free 14;have f15:=hS.free 15;have f16:=hS.free 16;have f17:=hS.free 17;have f18:=hS.free 18;have f19:=hS.free 19;have f20:=hS.free 20;have f21:=hS.free 21;have f22:=hS.free 22;have hrow:(((((((((s.aJ r P sv lv ct).set 22 (.bool true)).set 14 (.int .i64 0)).set 21 (.bool false)).set 15 (.int .i64 0)).set 16 (.bool false)).set 17 (.int .i64 0)).set 18 (.slice none 0 0)).set 19 (.int .u32 0)).set 20 (.bool false)=s.brk.aJ r P (.slice none 0 0) lv ct:=by
  unfold PS.aJ PS.bT PS.brk;rw [hdn];rfl
 have hS2:=((((((((hS.set 22 (.bool true) (by simp [PS.aJ])).set 14 (.int .i64 0) (by simp [PS.aJ])).set 21 (.bool false) (by simp [PS.aJ])).set 15 (.int .i64 0) (by simp [PS.aJ])).set 16 (.bool false) (by simp [PS.aJ])).set 17 (.int .i64 0) (by simp [PS.aJ])).set 18 (.slice none 0 0) (by simp [PS.aJ])).set 19 (.int .u32 0) (by simp [PS.aJ])).set 20 (.bool false) (by simp [PS.aJ]);rw [hrow] at hS2;have hm2:=dM (dM (dM (dM (dM (dM (dM (dM (dM (jU (K:=(· =S)) hb2) S 22 (.bool true) rfl) S 14 (.int .i64 0) rfl) S 21 (.bool false) rfl) S 15 (.int .i64 0) rfl) S 16 (.bool false) rfl) S 17 (.int .i64 0) rfl) S 18 (.slice none 0 0) rfl) S 19 (.int .u32 0) rfl) S 20 (.bool false) rfl;have n1:w.heap.size≠S:=by omega
 have n2:w.heap.size+1≠S:=by omega
 have keep: ∀(b:Nat) (l:List Value),b≠S→Cl ((w.alloc (Obj.cells #[.int .i64 k,.int .i64 what,.int .i64 i] 77)).alloc (Obj.cells #[.int .i64 0,.int .i64 0,.int .i64 0] 77)) b l→Cl ((((((((((((w.alloc (Obj.cells #[.int .i64 k,.int .i64 what,.int .i64 i] 77)).alloc (Obj.cells #[.int .i64 0,.int .i64 0,.int .i64 0] 77)).setCell ⟨S,22,none⟩ (.bool true)).setCell ⟨S,14,none⟩ (.int .i64 0)).setCell ⟨S,21,none⟩ (.bool false)).setCell ⟨S,15,none⟩ (.int .i64 0)).setCell ⟨S,16,none⟩ (.bool false)).setCell ⟨S,17,none⟩ (.int .i64 0)).setCell ⟨S,18,none⟩ (.slice none 0 0)).setCell ⟨S,19,none⟩ (.int .u32 0)).setCell ⟨S,20,none⟩ (.bool false))) b l:=fun b l hb hc=>
  ((((((((hc.kept (yac _ ⟨S,22,none⟩ _ b hb)).kept (yac _ ⟨S,14,none⟩ _ b hb)).kept (yac _ ⟨S,21,none⟩ _ b hb)).kept (yac _ ⟨S,15,none⟩ _ b hb)).kept (yac _ ⟨S,16,none⟩ _ b hb)).kept (yac _ ⟨S,17,none⟩ _ b hb)).kept (yac _ ⟨S,18,none⟩ _ b hb)).kept (yac _ ⟨S,19,none⟩ _ b hb)).kept (yac _ ⟨S,20,none⟩ _ b hb)
 have j5:=keep _ _ n1 k5;have j8:=keep _ _ n2 k8;have a0:=j5.cell 0 _ rfl;have a1:=j5.cell 1 _ rfl;have a2:=j5.cell 2 _ rfl;have b0:=j8.cell 0 _ rfl;have b1:=j8.cell 1 _ rfl;have b2:=j8.cell 2 _ rfl;have g0:=j8.free 0;have g1:=j8.free 1;have g2:=j8.free 2;clear k5 k8 hS hlt keep hrow;go_enter func108,ntmps108;go_wp2_with fail;have sf:=((j8.set 0 (.int .i64 k) (by simp)).set 1 (.int .i64 what) (by simp)).set 2 (.int .i64 i) (by simp);refine yaP (iq rfl _ _ (w.heap.size+1) [.int .i64 k,.int .i64 what,.int .i64 i] _ rfl (fun j y hy=>by rw [yau];exact sf.cell j y hy) underlying77 rfl (by kernel_rfl)) rfl ?_;exact ⟨rfl,((hS2.kept (yac _ ⟨w.heap.size+1,0,none⟩ _ S (fun e=>n2 e.symm))).kept (yac _ ⟨w.heap.size+1,1,none⟩ _ S (fun e=>n2 e.symm))).kept (yac _ ⟨w.heap.size+1,2,none⟩ _ S (fun e=>n2 e.symm)),eD (eD (eD hm2 (w.heap.size+1) 0 _ (.inr (by omega))) (w.heap.size+1) 1 _ (.inr (by omega))) (w.heap.size+1) 2 _ (.inr (by omega))⟩
section
variable {A A' K:Nat→Prop} {w w':World} {S P L Bs B N b2:Nat} {r:Tryz.Rg} {s s':Tryz.PS} {g g':Nat→Int} {lv:Value}
theorem Tryz.aX.xR {A A':Nat→Prop} {w w':World} {v:Value} {l:List Sg} (h:aX A w v l) (hA: ∀b,b<w.heap.size→A' b→A b) (hk: ∀b,b<w.heap.size→ ¬A b→w'.heap[b]? =w.heap[b]?):aX A' w' v l:=by
 obtain ⟨sa,c,rfl,hl,hr⟩:=h;refine ⟨sa,c,rfl,hl,?_⟩;rcases hr with h0|⟨R,o,rfl,hn,hr⟩
 ·exact .inl h0
 ·by_cases h0:l= []
  ·exact .inl h0
  ·have hR:=rZ hr h0;exact .inr ⟨R,o,rfl,fun q=>hn (hA R hR q),iR hr (hk R hR hn)⟩
theorem Tryz.RW.vD (h:RW A w S P L Bs B N b2 r s g lv) (hA: ∀b,b<w.heap.size→A' b→A b∨lv.ownBlock=some b) (aS:A' S) (aB:A' B) (hl: ∀b,A' b→b<w'.heap.size) (hk: ∀b,b<w.heap.size→(¬(A b∨lv.ownBlock=some b)∨b=S∨b=P∨b=L∨b=Bs∨b=B∨lv.ownBlock=some b)→w'.heap[b]? =w.heap[b]?) (hs:w.heap.size≤w'.heap.size):RW A' w' S P L Bs B N b2 r s g lv:=by
 obtain ⟨sv,ct,vs,q1,q2,q3,q4⟩:=h.obj;obtain ⟨q5,⟨t,hrow⟩,q6⟩:=q3;have hseg: ∀ {v:Value} {l:List Sg},aX (fun b=>A b∨lv.ownBlock=some b) w v l→aX (fun b=>A' b∨lv.ownBlock=some b) w' v l:=fun q=>q.xR (fun b hb hh=>hh.elim (hA b hb) .inr) fun b hb hn=>hk b hb (.inl hn);exact ⟨⟨sv,ct,vs,q1.kept (hk S q1.lt (.inr (.inl rfl))),hseg q2,⟨q5,⟨t,hrow.kept fun b e=>hk b (hrow.lt b e).2 (.inr (.inr (.inr (.inr (.inr (.inr e))))))⟩,fun i a b=>hseg (q6 i a b)⟩,q4⟩,h.rm.kept (fun k hk' hq=>hk k hk' (by rcases hq with q|q|q|q<;>simp [q])) hs,aS,aB,hl,h.lo,yaw h.b2 hs,h.sd,h.rg,h.pb,h.hN,h.fit,h.dn,h.dH,h.nd⟩
theorem Tryz.RW.mv (h:RW A w S P L Bs B N b2 r s g lv) (hm:Dw.Mv K w w') (hK: ∀b,K b→A b) (hn: ¬K S∧ ¬K P∧ ¬K L∧ ¬K Bs∧ ¬K B) (hl: ∀b,lv.ownBlock=some b→ ¬K b):RW A w' S P L Bs B N b2 r s g lv:=by
 obtain ⟨n1,n2,n3,n4,n5⟩:=hn;refine h.vD (fun b _ q=> .inl q) h.aS h.aB (fun b hb=>yae (h.lt b hb) hm.size) (fun b hb hh=>hm.block b hb fun k=> ?_) hm.size;rcases hh with hh|rfl|rfl|rfl|rfl|rfl|hh
 ·exact hh (.inl (hK b k))
 ·exact n1 k
 ·exact n2 k
 ·exact n3 k
 ·exact n4 k
 ·exact n5 k
 ·exact hl b hh k
theorem Tryz.RW.less (h:RW A w S P L Bs B N b2 r s g lv) (hA: ∀b,A' b→A b) (aS:A' S) (aB:A' B):RW A' w S P L Bs B N b2 r s g lv:=
 h.vD (fun b _ q=> .inl (hA b q)) aS aB (fun b q=>h.lt b (hA b q)) (fun _ _ _=>rfl) (yab _)
theorem Tryz.RW.box (h:RW A w S P L Bs B N b2 r s g lv) (o:Obj):RW (fun b=>A b∨b=w.heap.size) (w.alloc o) S P L Bs B N b2 r s g lv:=by
 have hb:=(yah w.heap.size w).alloc (yab _) o;refine h.vD (fun b hb q=>q.elim .inl fun e=>by omega) (.inl h.aS) (.inl h.aB) (fun b q=> ?_) (fun b hh _=>hb.block b hh) hb.size;rcases q with q|rfl
 ·exact yae (h.lt b q) hb.size
 ·simp
end
set_option maxRecDepth 100000 in
theorem Tryz.mX {A:Nat→Prop} {w:World} {S P L Bs B N b2:Nat} {r:Rg} {s s':PS} {g g':Nat→Int} {lv:Value} (h:RW A w S P L Bs B N b2 r s g lv) (hb:s.br=false) (hp:s.ph≠0) {f:FuncId} (hf:(7≤s.ph∧f=81)∨(s.ph≤6∧f=82)) {k what i E:Int} (hc: ∀A1 w1,RW A1 w1 S P L Bs B N b2 r s g lv→Calls prog f #[.pointer (some ⟨S,0,none⟩)] w1 fun e w'=>e= .returned (.tuple #[.agg #[.int .i64 k,.int .i64 what,.int .i64 i],.int .i64 E])∧ ∃dJ,RW A1 w' S P L Bs B N b2 r s' g' dJ∧(∀b,dJ.ownBlock=some b→lv.ownBlock=some b∨w1.heap.size≤b)∧Dw.Mv (fun b=>b=S∨b=B∨lv.ownBlock=some b) w1 w'):
    Calls prog 43 #[.pointer (some ⟨S,0,none⟩)] w fun e w'=>e= .returned (.tuple #[.agg #[.int .i64 k,.int .i64 what,.int .i64 i],.int .i64 E])∧ ∃dJ,RW A w' S P L Bs B N b2 r s' g' dJ∧(∀b,dJ.ownBlock=some b→lv.ownBlock=some b∨w.heap.size≤b)∧Dw.Mv (fun b=>b=S∨b=B∨lv.ownBlock=some b) w w':=by
  have h1:=h.box (Obj.cells #[.int .i64 0,.int .i64 0,.int .i64 0] 77);have hcall:=hc _ _ h1;have k2:=Cl.new w #[.int .i64 0,.int .i64 0,.int .i64 0] 77;have hbx:=(yah w.heap.size w).alloc (yab _) (Obj.cells #[.int .i64 0,.int .i64 0,.int .i64 0] 77);obtain ⟨sv,ct,vs,q1,q2,q3,q4⟩:=h.obj;have p1:=q1.below hbx q1.lt;have c14:=p1.cell 14 _ rfl;have kR:=p1.cell 22 _ rfl;rw [hb] at kR;have ha: ¬s.bT=0:=by unfold PS.bT;split<;>omega
  have ha2:s.bT>10↔7≤s.ph:=by unfold PS.bT;split<;>omega
  have nS:w.heap.size≠S:=by have:=q1.lt;omega
  have nB:w.heap.size≠B:=by have:=h.rm.bl;omega
  obtain ⟨_,⟨ty,hrow⟩,_⟩:=id q3;have close: ∀ {w2:World} {dJ:Value},RW (fun b=>A b∨b=w.heap.size) w2 S P L Bs B N b2 r s' g' dJ→(∀b,dJ.ownBlock=some b→lv.ownBlock=some b∨(w.alloc (Obj.cells #[.int .i64 0,.int .i64 0,.int .i64 0] 77)).heap.size≤b)→Dw.Mv (fun b=>b=S∨b=B∨lv.ownBlock=some b) (w.alloc (Obj.cells #[.int .i64 0,.int .i64 0,.int .i64 0] 77)) w2→
      Cl w2 w.heap.size [.int .i64 0,.int .i64 0,.int .i64 0]∧ ∃dJ,RW A (((w2.setCell ⟨w.heap.size,0,none⟩ (.int .i64 k)).setCell ⟨w.heap.size,1,none⟩ (.int .i64 what)).setCell ⟨w.heap.size,2,none⟩ (.int .i64 i)) S P L Bs B N b2 r s' g' dJ∧(∀b,dJ.ownBlock=some b→lv.ownBlock=some b∨w.heap.size≤b)∧Dw.Mv (fun b=>b=S∨b=B∨lv.ownBlock=some b) w (((w2.setCell ⟨w.heap.size,0,none⟩ (.int .i64 k)).setCell ⟨w.heap.size,1,none⟩ (.int .i64 what)).setCell ⟨w.heap.size,2,none⟩ (.int .i64 i)):=fun {w2 dJ} hR hlv hm=>by
    have hnl:lv.ownBlock≠some w.heap.size:=fun e=>by have:=(hrow.lt _ e).2;omega
    have hnk: ¬(w.heap.size=S∨w.heap.size=B∨lv.ownBlock=some w.heap.size):=by
      rintro (e|e|e)
      · exact nS e
      · exact nB e
      · exact hnl e
    have hm1:Dw.Mv (fun b=>b=S∨b=B∨lv.ownBlock=some b) w w2:=(jU hbx).trans hm;have hm2:=eD (eD (eD hm1 w.heap.size 0 (.int .i64 k) (.inr (yab _))) w.heap.size 1 (.int .i64 what) (.inr (yab _))) w.heap.size 2 (.int .i64 i) (.inr (yab _));have sV:=dM (dM (dM (Dw.Mv.refl (· =w.heap.size) w2) w.heap.size 0 (.int .i64 k) rfl) w.heap.size 1 (.int .i64 what) rfl) w.heap.size 2 (.int .i64 i) rfl;have e1:=h.rm.pl;have e2:=h.rm.ll;have e3:=h.rm.sl;have Rp: ∀b,dJ.ownBlock=some b→lv.ownBlock=some b∨w.heap.size+1≤b:=fun b e=>by have:=hlv b e;simpa using this
    refine ⟨k2.kept (hm.block _ k2.lt hnk),dJ,(hR.mv sV (fun b e=> .inr e) ⟨fun e=>nS e.symm,fun e=> ?_,fun e=> ?_,fun e=> ?_,fun e=>nB e.symm⟩ fun b e hh=> ?_).less (fun b q=> .inl q) h.aS h.aB,fun b e=>(Rp b e).imp_right (fun q=>by omega),hm2⟩
    · have e:P=w.heap.size:=e;omega
    · have e:L=w.heap.size:=e;omega
    · have e:Bs=w.heap.size:=e;omega
    · have hh:b=w.heap.size:=hh;rcases Rp b e with q|q
      · exact hnl (hh▸q)
      · omega
  clear hbx hc h1 q1 q2 q3 q4 p1;rcases hf with ⟨hq,rfl⟩|⟨hq,rfl⟩
  all_goals
    first
      | (have BG:s.bT>10:=ha2.2 (by omega))
      | (have BG: ¬s.bT>10:=fun e=>absurd (ha2.1 e) (by omega))
    clear ha2 hq;generalize s.bT=aP at c14 ha BG;go_enter func43,ntmps43;go_wp2_with (first
      | (go_at_call 81;refine hcall.mono ?_;rintro en w2 ⟨rfl,dJ,hR,hlv,hm⟩;obtain ⟨kc,hfin⟩:=close hR hlv hm;have b0:=kc.cell 0 _ rfl;have b1:=kc.cell 1 _ rfl;have b2':=kc.cell 2 _ rfl;have g0:=kc.free 0;have g1:=kc.free 1;have g2:=kc.free 2)
      | (go_at_call 82;refine hcall.mono ?_;rintro en w2 ⟨rfl,dJ,hR,hlv,hm⟩;obtain ⟨kc,hfin⟩:=close hR hlv hm;have b0:=kc.cell 0 _ rfl;have b1:=kc.cell 1 _ rfl;have b2':=kc.cell 2 _ rfl;have g0:=kc.free 0;have g1:=kc.free 1;have g2:=kc.free 2)
      | go_in)
    have sf:=((kc.set 0 (.int .i64 k) (by simp)).set 1 (.int .i64 what) (by simp)).set 2 (.int .i64 i) (by simp);refine yaP (iq rfl _ _ w.heap.size [.int .i64 k,.int .i64 what,.int .i64 i] _ rfl (fun j y hy=>by rw [yau];exact sf.cell j y hy) underlying77 rfl (by kernel_rfl)) rfl ?_;exact ⟨rfl,hfin⟩
end Go.Proofs
namespace Go.Proofs
open Go.Dw Go.RowKit Go.Maps Go.Sort Go.Deep
def Tryz.PS.out (s:PS):PS:=if s.ph=0∧s.dn=true then s else { s with op:=0,nn:=false,hd:=0,sg:= [],wr:=0,it:=false }
def Tryz.PS.has (s:PS):Bool:=decide (s.ph=0)&&s.dn
theorem Tryz.Dg (w:World) (t:TypeId) (sz:Nat):(w.alloc (Obj.cells #[] t)).ownsRow w.heap.size t sz (.slice (some ⟨w.heap.size,0,none⟩) 0 0) 0 []:=
 ⟨by simp,.inr ⟨_,0,_,rfl,yab _,ybv w _,yab _,yaE _,by simp,by simp⟩⟩
set_option maxRecDepth 100000 in
theorem Tryz.zp2 {A:Nat→Prop} {w:World} {S P L Bs B N b2:Nat} {r:Rg} {s:PS} {g:Nat→Int} {lv:Value} (h:RW A w S P L Bs B N b2 r s g lv) (hln:s.sg.length≤1000000):
    Calls prog 44 #[.pointer (some ⟨S,0,none⟩)] w fun e w'=> ∃u,e= .returned (.tuple #[.agg #[.int .i64 s.out.op,.bool s.out.nn,.int .i64 s.out.hd,u,.int .u32 s.out.wr,.bool s.out.it],.bool s.has])∧bG w' w.heap.size u s.out.sg∧Below w.heap.size w w':=by
  obtain ⟨sv,ct,vs,q1,q2,q3,q4⟩:=h.obj;have k2:=Cl.new w #[.int .i64 0,.bool false,.int .i64 0,.slice none 0 0,.int .u32 0,.bool false] 50;have hbx:=(yah w.heap.size w).alloc (yab _) (Obj.cells #[.int .i64 0,.bool false,.int .i64 0,.slice none 0 0,.int .u32 0,.bool false] 50);have p1:=q1.below hbx q1.lt;have c14:=p1.cell 14 _ rfl;have c21:=p1.cell 21 _ rfl;by_cases hd:s.ph=0∧s.dn=true
  · have e1:s.out=s:=by unfold PS.out;rw [yaj hd]
    have e2:s.has=true:=by unfold PS.has;rw [hd.1,hd.2];rfl
    rw [e1,e2];have ha:s.bT=0:=by unfold PS.bT;rw [hd.1];rfl
    rw [ha] at c14;rw [hd.2] at c21;obtain ⟨sa,c,rfl,hok,hr⟩:=q2;have c15:=p1.cell 15 _ rfl;have c16:=p1.cell 16 _ rfl;have c17:=p1.cell 17 _ rfl;have c18:=p1.cell 18 _ rfl;have c19:=p1.cell 19 _ rfl;have c20:=p1.cell 20 _ rfl;obtain ⟨i,hi,i1,i2,i3⟩:=ybo D8;have xG:=M5 s.sg;have hlen:=CS s.sg;have nS:w.heap.size≠S:=by have:=q1.lt;omega
    have hA:=(yah w.heap.size w).alloc (yab _);clear q1 q3 q4 hd p1 ha e1 e2;have hw2:Below w.heap.size w ((w.alloc (Obj.cells #[.int .i64 0,.bool false,.int .i64 0,.slice none 0 0,.int .u32 0,.bool false] 50)).alloc (Obj.cells #[.int .i64 s.op,.bool s.nn,.int .i64 s.hd,.slice sa s.sg.length c,.int .u32 s.wr,.bool s.it] 50)):=hbx.alloc (by simp) _;have ka:=(Cl.new w #[.int .i64 0,.bool false,.int .i64 0,.slice none 0 0,.int .u32 0,.bool false] 50).alloc (Obj.cells #[.int .i64 s.op,.bool s.nn,.int .i64 s.hd,.slice sa s.sg.length c,.int .u32 s.wr,.bool s.it] 50);have kb:=Cl.new2 (w:=w.alloc (Obj.cells #[.int .i64 0,.bool false,.int .i64 0,.slice none 0 0,.int .u32 0,.bool false] 50)) (b:=w.heap.size+1) (arr:= #[.int .i64 s.op,.bool s.nn,.int .i64 s.hd,.slice sa s.sg.length c,.int .u32 s.wr,.bool s.it]) (t:=50) (by simp);obtain ⟨W2,hW2⟩: ∃W2,W2=(w.alloc (Obj.cells #[.int .i64 0,.bool false,.int .i64 0,.slice none 0 0,.int .u32 0,.bool false] 50)).alloc (Obj.cells #[.int .i64 s.op,.bool s.nn,.int .i64 s.hd,.slice sa s.sg.length c,.int .u32 s.wr,.bool s.it] 50):=⟨_,rfl⟩;rw [←hW2] at hw2 ka kb;have hs2:W2.heap.size=w.heap.size+2:=by rw [hW2];simp
    have hba:=(yah W2.heap.size W2).alloc (yab _) (Obj.cells #[] 43);have Ci:=kb.below hba kb.lt;have z3:=Ci.cell 3 _ rfl;have hoe:=Dg W2 43 3;have close: ∀ {wa:World} {fU:Option Addr} {c2:Nat},bG wa (w.heap.size+1+1) (.slice fU s.sg.length c2) s.sg→Below (w.heap.size+1+1) W2 wa→
        (Cl wa (w.heap.size+1) [.int .i64 s.op,.bool s.nn,.int .i64 s.hd,.slice sa s.sg.length c,.int .u32 s.wr,.bool s.it]∧Cl wa w.heap.size [.int .i64 0,.bool false,.int .i64 0,.slice none 0 0,.int .u32 0,.bool false])∧
        (Cl (((((((wa.setCell ⟨w.heap.size+1,3,none⟩ (.slice fU s.sg.length c2)).setCell ⟨w.heap.size,0,none⟩ (.int .i64 s.op)).setCell ⟨w.heap.size,1,none⟩ (.bool s.nn)).setCell ⟨w.heap.size,2,none⟩ (.int .i64 s.hd)).setCell ⟨w.heap.size,3,none⟩ (.slice fU s.sg.length c2)).setCell ⟨w.heap.size,4,none⟩ (.int .u32 s.wr)).setCell ⟨w.heap.size,5,none⟩ (.bool s.it)) w.heap.size [.int .i64 s.op,.bool s.nn,.int .i64 s.hd,.slice fU s.sg.length c2,.int .u32 s.wr,.bool s.it]∧
        bG (((((((wa.setCell ⟨w.heap.size+1,3,none⟩ (.slice fU s.sg.length c2)).setCell ⟨w.heap.size,0,none⟩ (.int .i64 s.op)).setCell ⟨w.heap.size,1,none⟩ (.bool s.nn)).setCell ⟨w.heap.size,2,none⟩ (.int .i64 s.hd)).setCell ⟨w.heap.size,3,none⟩ (.slice fU s.sg.length c2)).setCell ⟨w.heap.size,4,none⟩ (.int .u32 s.wr)).setCell ⟨w.heap.size,5,none⟩ (.bool s.it)) w.heap.size (.slice fU s.sg.length c2) s.sg∧
        Below w.heap.size w (((((((wa.setCell ⟨w.heap.size+1,3,none⟩ (.slice fU s.sg.length c2)).setCell ⟨w.heap.size,0,none⟩ (.int .i64 s.op)).setCell ⟨w.heap.size,1,none⟩ (.bool s.nn)).setCell ⟨w.heap.size,2,none⟩ (.int .i64 s.hd)).setCell ⟨w.heap.size,3,none⟩ (.slice fU s.sg.length c2)).setCell ⟨w.heap.size,4,none⟩ (.int .u32 s.wr)).setCell ⟨w.heap.size,5,none⟩ (.bool s.it))):=fun {wa fU c2} hu hb2=>by
      rw [show w.heap.size+1+1=W2.heap.size by omega] at hu hb2;have hs3:=hb2.size;have R5:=ka.below hb2 ka.lt;have Ci:=kb.below hb2 kb.lt;have hlt:=hu.lt;have Ll:=R5.kept (yac wa ⟨w.heap.size+1,3,none⟩ (.slice fU s.sg.length c2) w.heap.size (by show w.heap.size≠w.heap.size+1;omega));have k0:=(((((Ll.set 0 (.int .i64 s.op) (show 0<6 by decide)).set 1 (.bool s.nn) (show 1<6 by decide)).set 2 (.int .i64 s.hd) (show 2<6 by decide)).set 3 (.slice fU s.sg.length c2) (show 3<6 by decide)).set 4 (.int .u32 s.wr) (show 4<6 by decide)).set 5 (.bool s.it) (show 5<6 by decide);have hmv:=(((((((Mv.refl (fun b=>b=w.heap.size∨b=w.heap.size+1) wa).setCell (w.heap.size+1) 3 (.slice fU s.sg.length c2) (.inl (.inr rfl))).setCell (w.heap.size) 0 (.int .i64 s.op) (.inl (.inl rfl))).setCell (w.heap.size) 1 (.bool s.nn) (.inl (.inl rfl))).setCell (w.heap.size) 2 (.int .i64 s.hd) (.inl (.inl rfl))).setCell (w.heap.size) 3 (.slice fU s.sg.length c2) (.inl (.inl rfl))).setCell (w.heap.size) 4 (.int .u32 s.wr) (.inl (.inl rfl))).setCell (w.heap.size) 5 (.bool s.it) (.inl (.inl rfl));exact ⟨⟨Ci,R5⟩,k0,(hu.kept fun b hb=>hmv.block b (hlt b hb).2.1 fun e=>by have:=(hlt b hb).1;omega).mono (by omega),(hw2.trans (hb2.mono (by omega))).trans (hmv.below (base:=w.heap.size) (fun k hk=>by omega) (by have:=hw2.size;omega))⟩
    have mh:Below (w.heap.size+1+1) W2 (W2.alloc (Obj.cells #[] 43)):=hba.mono (by omega);rw [hW2] at hoe z3 close mh;cases sa with
    | none=>
      have h0:s.sg= []:=by
        rcases hr with q|⟨R,o,q,_⟩
        · exact q
        · cases q
      have hk3:Below (w.heap.size+1+1) ((w.alloc (Obj.cells #[.int .i64 0,.bool false,.int .i64 0,.slice none 0 0,.int .u32 0,.bool false] 50)).alloc (Obj.cells #[.int .i64 s.op,.bool s.nn,.int .i64 s.hd,.slice none s.sg.length c,.int .u32 s.wr,.bool s.it] 50)) _:=mh;have hl0:s.sg.length=0:=by rw [h0];rfl
      have kf:=((Cl.new w #[.int .i64 s.op,.bool s.nn,.int .i64 s.hd,.slice (some ⟨w.heap.size+1+1,0,none⟩) 0 0,.int .u32 s.wr,.bool s.it] 50).alloc (Obj.cells #[.int .i64 s.op,.bool s.nn,.int .i64 s.hd,.slice (some ⟨w.heap.size+1+1,0,none⟩) 0 0,.int .u32 s.wr,.bool s.it] 50)).alloc (Obj.cells #[] 43);have hbf:=((yah w.heap.size w).alloc (yab _) (Obj.cells #[.int .i64 s.op,.bool s.nn,.int .i64 s.hd,.slice (some ⟨w.heap.size+1+1,0,none⟩) 0 0,.int .u32 s.wr,.bool s.it] 50)).alloc (by simp) (Obj.cells #[.int .i64 s.op,.bool s.nn,.int .i64 s.hd,.slice (some ⟨w.heap.size+1+1,0,none⟩) 0 0,.int .u32 s.wr,.bool s.it] 50);have hof:=Dg ((w.alloc (Obj.cells #[.int .i64 s.op,.bool s.nn,.int .i64 s.hd,.slice (some ⟨w.heap.size+1+1,0,none⟩) 0 0,.int .u32 s.wr,.bool s.it] 50)).alloc (Obj.cells #[.int .i64 s.op,.bool s.nn,.int .i64 s.hd,.slice (some ⟨w.heap.size+1+1,0,none⟩) 0 0,.int .u32 s.wr,.bool s.it] 50)) 43 3;rw [hl0] at z3 c18;rw [h0];clear hk3 close h0 hl0 hr hba Ci ka kb hw2 hoe mh hlen xG hok;go_enter func44,ntmps44;go_wp2_with fail;refine yaP (iq rfl _ _ w.heap.size [.int .i64 s.op,.bool s.nn,.int .i64 s.hd,.slice (some ⟨w.heap.size+1+1,0,none⟩) 0 0,.int .u32 s.wr,.bool s.it] _ rfl (fun j v hv=>by rw [yau];exact kf.cell j v hv) underlying50 rfl (by kernel_rfl)) rfl ?_;refine ⟨_,rfl,?_,hbf.alloc (by simp;omega) _⟩;have q:bG (((w.alloc (Obj.cells #[.int .i64 s.op,.bool s.nn,.int .i64 s.hd,.slice (some ⟨w.heap.size+1+1,0,none⟩) 0 0,.int .u32 s.wr,.bool s.it] 50)).alloc (Obj.cells #[.int .i64 s.op,.bool s.nn,.int .i64 s.hd,.slice (some ⟨w.heap.size+1+1,0,none⟩) 0 0,.int .u32 s.wr,.bool s.it] 50)).alloc (Obj.cells #[] 43)) ((w.alloc (Obj.cells #[.int .i64 s.op,.bool s.nn,.int .i64 s.hd,.slice (some ⟨w.heap.size+1+1,0,none⟩) 0 0,.int .u32 s.wr,.bool s.it] 50)).alloc (Obj.cells #[.int .i64 s.op,.bool s.nn,.int .i64 s.hd,.slice (some ⟨w.heap.size+1+1,0,none⟩) 0 0,.int .u32 s.wr,.bool s.it] 50)).heap.size (.slice (some ⟨w.heap.size+1+1,0,none⟩) 0 0) []:=by
        unfold bG;simpa [dV] using hof
      exact q.mono (by simp;omega)
    | some ad=>
      have hnews: ∀j u,(dV s.sg)[j]? =some u→(((w.alloc (Obj.cells #[.int .i64 0,.bool false,.int .i64 0,.slice none 0 0,.int .u32 0,.bool false] 50)).alloc (Obj.cells #[.int .i64 s.op,.bool s.nn,.int .i64 s.hd,.slice (some ad) s.sg.length c,.int .u32 s.wr,.bool s.it] 50)).alloc (Obj.cells #[] 43)).cell? (ad.add j)=some u:=fun j u hj=>by
        rcases hr with q|⟨R,o,q,_,hr⟩
        · rw [q] at hj;cases hj
        · cases q;rw [Dw.addr_add];have hR:=World.block_lt_of_cell? w _ (hr j u hj);have hw3:=hw2.trans (hba.mono (by omega));rw [hW2] at hw3;exact (hw3.cell (p:=⟨R,o+j,none⟩) hR).trans (hr j u hj)
      clear hr hba Ci ka kb hw2;go_enter func44,ntmps44;go_wp2_with (first
        | (at_builtin;go_loud (refine ycp _ rfl _ _ 40 rfl (w.heap.size+1+1) 43 i _ 3 16 (by kernel_rfl) hi i1 i2 i3 rfl (by decide) (.slice (some ⟨w.heap.size+1+1,0,none⟩) 0 0) 0 [] rfl (by simpa using hoe) ad s.sg.length c (dV s.sg) rfl (by omega) hnews xG (by unfold maxLen;omega) (by omega) (by simp) ?_);intro u wa h2 h3 h4 h5;have hu:bG wa (w.heap.size+1+1) u s.sg:=(by unfold bG;simpa using h2);obtain ⟨fU,c2,hue,hj⟩:=hu.slice;clear hj h2 h4 h5;subst hue;obtain ⟨⟨xM,pF⟩,kc4,zF,hb4⟩:=close hu ⟨h3.os,h3.tape,h3.output,yaw mh.size h3.size,fun b hb=>(h3.block b (by simp;omega) (fun e=>by simp [Value.ownBlock] at e;omega)).trans (mh.block b hb)⟩;have y0:=xM.cell 0 _ rfl;have y1:=xM.cell 1 _ rfl;have y2:=xM.cell 2 _ rfl;have y3:=xM.cell 3 _ rfl;have y4:=xM.cell 4 _ rfl;have y5:=xM.cell 5 _ rfl;have x0:=pF.cell 0 _ rfl;have x1:=pF.cell 1 _ rfl;have x2:=pF.cell 2 _ rfl;have x3:=pF.cell 3 _ rfl;have x4:=pF.cell 4 _ rfl;have x5:=pF.cell 5 _ rfl;have f0:=pF.free 0;have f1:=pF.free 1;have f2:=pF.free 2;have f3:=pF.free 3;have f4:=pF.free 4;have f5:=pF.free 5;have g3:=xM.free 3;go_frame)
        | go_in)
      refine yaP (iq rfl _ _ w.heap.size [.int .i64 s.op,.bool s.nn,.int .i64 s.hd,.slice fU s.sg.length c2,.int .u32 s.wr,.bool s.it] _ rfl (fun j v hv=>by rw [yau];exact kc4.cell j v hv) underlying50 rfl (by kernel_rfl)) rfl ?_;exact ⟨_,rfl,zF,hb4⟩
  · have e1:s.out= { s with op:=0,nn:=false,hd:=0,sg:= [],wr:=0,it:=false }:=by unfold PS.out;rw [yai hd]
    have e2:s.has=false:=by
      unfold PS.has;cases q:s.dn with
      | false=>simp
      | true=>simp only [Bool.and_true,yas];exact fun e=>hd ⟨e,q⟩
    rw [e1,e2];refine yaq (show Calls _ _ _ _ fun e w'=>e= .returned (.tuple #[.agg #[.int .i64 0,.bool false,.int .i64 0,.slice none 0 0,.int .u32 0,.bool false],.bool false])∧Below w.heap.size w w' from ?_) fun e w' hh=>⟨_,hh.1,bG.nil _ _,hh.2⟩;by_cases hp:s.ph=0
    · have hdn:s.dn=false:=by
        cases q:s.dn with
        | false=>rfl
        | true=>exact absurd ⟨hp,q⟩ hd
      have ha:s.bT=0:=by unfold PS.bT;rw [hp];rfl
      rw [ha] at c14;rw [hdn] at c21;clear ha hdn hd;go_enter func44,ntmps44;go_wp2_with fail;refine yaP (iq rfl _ _ w.heap.size [.int .i64 0,.bool false,.int .i64 0,.slice none 0 0,.int .u32 0,.bool false] _ rfl (fun j y hy=>by rw [yau];exact k2.cell j y hy) underlying50 rfl (by kernel_rfl)) rfl ?_;exact ⟨rfl,hbx⟩
    · have ha: ¬s.bT=0:=by unfold PS.bT;split<;>omega
      have hab:(s.bT !=0)=true:=by simpa using ha
      generalize s.bT=aP at c14 ha hab;clear hd;go_enter func44,ntmps44;go_wp2_with fail;refine yaP (iq rfl _ _ w.heap.size [.int .i64 0,.bool false,.int .i64 0,.slice none 0 0,.int .u32 0,.bool false] _ rfl (fun j y hy=>by rw [yau];exact k2.cell j y hy) underlying50 rfl (by kernel_rfl)) rfl ?_;exact ⟨rfl,hbx⟩
def Tryz.yx (s:PS) (id:Int):List Sg:=match bY id s.tk with|some t=>t.sg|none=> []
set_option maxRecDepth 100000 in
theorem Tryz.znm {A:Nat→Prop} {w:World} {S P L Bs B N b2:Nat} {r:Rg} {s:PS} {g:Nat→Int} {lv:Value} (h:RW A w S P L Bs B N b2 r s g lv) (hl:s.tk.length≤100000) (hlen: ∀e∈s.tk,e.2.sg.length≤1000000) (id:Int):
    Calls prog 46 #[.pointer (some ⟨S,0,none⟩),.int .i64 id] w fun e w'=> ∃u,e= .returned (.tuple #[u,.bool (bY id s.tk).isSome])∧bG w' w.heap.size u (yx s id)∧Below w.heap.size w w':=by
  obtain ⟨sv,ct,vs,q1,q2,q3,q4⟩:=h.obj;have c13:=q1.cell 13 _ rfl;have hfind:=fun i hi=>Gl (S:=S) c13 q3 hl id i hi;unfold yx;cases hg:bY id s.tk with
  | none=>
    have hf:=hfind (-1) (.inl ⟨rfl,CR hg⟩);clear hfind;go_enter func46,ntmps46;go_wp2_with (first
      | (go_at_call 77;refine hf.mono ?_;rintro en w1 ⟨rfl,hb1⟩)
      | go_in)
    go_ret2;exact ⟨_,rfl,bG.nil _ _,hb1⟩
  | some t=>
    obtain ⟨k,hk,k1,kt,k3⟩:=CQ hg;have hf:=hfind k (.inr ⟨k,hk,rfl,k1,k3⟩);clear hfind;obtain ⟨q5,⟨ty,hrow⟩,q6⟩:=q3;have hvk:k<vs.length:=by rw [q5];exact hk
    have hsv:=q6 k hk hvk;rw [kt] at hsv;have hln:=hlen _ (yaS hk);rw [kt] at hln;obtain ⟨sa,c,hlv,hr⟩:=aA.row hrow;rcases hr with hr|⟨G,hsa,lJ,hr⟩
    · have:=yaI List.length hr;rw [rO s.tk vs q5] at this;simp only [ybO] at this;omega
    have qm:=(hrow.lt G lJ).2;have hcap:s.tk.length≤c:=by rw [hlv] at hrow;exact aA.cap hrow (by omega)
    have e2:=hr _ _ (zV s.tk vs q5 k hk).2.2;rw [yau] at e2;obtain ⟨sk,ck,hvv,hok,gN⟩:=hsv;rw [hvv] at e2;rw [hlv,hsa] at c13;have hkl:(k:Int)<s.tk.length:=by omega
    have hk0: ¬(k:Int)<0:=by omega
    obtain ⟨i,hi,i1,i2,i3⟩:=ybo D8;have xG:=M5 t.sg;have hlen3:=CS t.sg;have hS:=q1.lt;clear hlen q2 q6 hr hvv hS;cases sk with
    | none=>
      have h0:t.sg= []:=by
        rcases gN with q|⟨R,o,q,_⟩
        · exact q
        · cases q
      have hl0:t.sg.length=0:=by rw [h0];rfl
      rw [hl0] at e2;clear gN hok xG hlen3 hln;show Calls _ _ _ _ fun e w'=> ∃u,e= .returned (.tuple #[u,.bool true])∧bG w' w.heap.size u t.sg∧Below w.heap.size w w';rw [h0];clear h0 hl0;go_enter func46,ntmps46;go_wp2_with (first
        | (go_at_call 77;refine hf.mono ?_;rintro en w1 ⟨rfl,hb1⟩;have y13:=(hb1.cell (p:=⟨S,13,none⟩) q1.lt).trans c13;have y2:=(hb1.cell (p:=⟨G,k*3+2,none⟩) qm).trans e2;have hba:=(yah w1.heap.size w1).alloc (yab _) (Obj.cells #[] 43);have x13:=(hba.cell (p:=⟨S,13,none⟩) (yae q1.lt hb1.size)).trans y13;have x2:=(hba.cell (p:=⟨G,k*3+2,none⟩) (yae qm hb1.size)).trans y2)
        | go_in)
      go_ret2;have q:bG (w1.alloc (Obj.cells #[] 43)) w1.heap.size (.slice (some ⟨w1.heap.size,0,none⟩) 0 0) []:=by
        unfold bG;simpa [dV] using Dg w1 43 3
      exact ⟨_,rfl,q.mono hb1.size,hb1.alloc hb1.size _⟩
    | some ad=>
      have hnews: ∀(w1:World),Below w.heap.size w w1→ ∀j u,(dV t.sg)[j]? =some u→(w1.alloc (Obj.cells #[] 43)).cell? (ad.add j)=some u:=fun w1 hb1 j u hj=>by
        rcases gN with q|⟨R,o,q,_,hr⟩
        · rw [q] at hj;cases hj
        · cases q;rw [Dw.addr_add];have hR:=World.block_lt_of_cell? w _ (hr j u hj);have hw3:=hb1.alloc hb1.size (Obj.cells #[] 43);exact (hw3.cell (p:=⟨R,o+j,none⟩) hR).trans (hr j u hj)
      clear gN hok;go_enter func46,ntmps46;go_wp2_with (first
        | (go_at_call 77;refine hf.mono ?_;rintro en w1 ⟨rfl,hb1⟩;have y13:=(hb1.cell (p:=⟨S,13,none⟩) q1.lt).trans c13;have y2:=(hb1.cell (p:=⟨G,k*3+2,none⟩) qm).trans e2;have hba:=(yah w1.heap.size w1).alloc (yab _) (Obj.cells #[] 43);have x13:=(hba.cell (p:=⟨S,13,none⟩) (yae q1.lt hb1.size)).trans y13;have x2:=(hba.cell (p:=⟨G,k*3+2,none⟩) (yae qm hb1.size)).trans y2;have hoe:=Dg w1 43 3;have hnw:=hnews w1 hb1)
        | (at_builtin;go_loud (refine ycp _ rfl _ _ 40 rfl w1.heap.size 43 i _ 3 16 (by kernel_rfl) hi i1 i2 i3 rfl (by decide) (.slice (some ⟨w1.heap.size,0,none⟩) 0 0) 0 [] rfl hoe ad t.sg.length ck (dV t.sg) rfl (by omega) hnw xG (by unfold maxLen;omega) (by omega) (by simp) ?_);intro u wa h2 h3 h4 h5;go_frame)
        | go_in)
      go_ret2;have hu:bG wa w1.heap.size u t.sg:=by unfold bG;simpa using h2
      have mh:Below w1.heap.size w1 wa:=⟨h3.os,h3.tape,h3.output,yaw hba.size h3.size,fun b hb=>(h3.block b (by simp;omega) (fun e=>by simp [Value.ownBlock] at e;omega)).trans (hba.block b hb)⟩;exact ⟨u,rfl,hu.mono hb1.size,hb1.trans (mh.mono hb1.size)⟩
theorem Tryz.ztO {tk:List (Int×bN)} {vs:List Value} (h:vs.length=tk.length) {k:Nat} (hk:k<tk.length) (i:Nat) (hi:i<(tk.take k++tk.drop (k+1)).length) (hi':i<(vs.take k++vs.drop (k+1)).length): ∃(j:Nat) (hj:j<tk.length) (hj':j<vs.length),(tk.take k++tk.drop (k+1))[i]=tk[j]∧(vs.take k++vs.drop (k+1))[i]=vs[j]:=by
 have hl:(tk.take k).length=k:=by simp;omega
 have hl':(vs.take k).length=k:=by simp;omega
 simp only [yaX,ycE,hl] at hi;by_cases hik:i<k
 ·refine ⟨i,by omega,by omega,?_,?_⟩
  ·rw [ybR (by omega),List.getElem_take]
  ·rw [ybR (by omega),List.getElem_take]
 ·refine ⟨k+1+(i-k),by omega,by omega,?_,?_⟩
  ·rw [ybJ (by omega),List.getElem_drop];simp only [hl]
  ·rw [ybJ (by omega),List.getElem_drop];simp only [hl']
set_option maxRecDepth 100000 in
theorem Tryz.PG:(prog.info? 122).map (fun i=>(i.zero,i.size,i.bytes))=some (some (.agg #[.int .i64 0,.int .i64 0,.slice none 0 0]),3,40):=by kernel_rfl
theorem Tryz.zuO (w:World) (t:TypeId) (sz:Nat):((w.alloc (Obj.cells #[] t)).drew).ownsRow w.heap.size t sz (.slice (some ⟨w.heap.size,0,none⟩) 0 0) 0 []:=
 ⟨by simp,.inr ⟨_,0,_,rfl,yab _,ydh w _,yab _,yaE _,by simp,by simp⟩⟩
theorem Tryz.zq9 {w:World} {G:Nat} {cs:List Value} (h:w.rangeAt G 0 cs) {k c:Nat} (hc:cs.length≤c*3): ∀j u,(cs.drop (k*3))[j]? =some u→w.cell? ((if c=k then (⟨G,0,none⟩:Addr) else ⟨G,k*3,none⟩).add j)=some u:=fun j u hu=>by
 by_cases hk:c=k
 ·subst hk;rw [List.drop_eq_nil_of_le hc] at hu;cases hu
 ·rw [yai hk];rw [Dw.addr_add];rw [yb5] at hu;have:=h _ u hu
  rwa [yau] at this
set_option maxRecDepth 100000 in
theorem Tryz.zp3 {A:Nat→Prop} {w:World} {S P L Bs B N b2:Nat} {r:Rg} {s s':PS} {g:Nat→Int} {lv:Value} (h:RW A w S P L Bs B N b2 r s g lv) (hb:s.br=false) (hp:s.ph=11) (hit:s.it=false) (hct: ∀e∈s.tk,1≤e.2.ct∧e.2.ct≤r.n) (hl:s.tk.length≤100000) {t:bN} (hg:bY s.hd s.tk=some t)
    (hs':s'=({ s with us:=(aZ r.n s.us s.uw t.ct).1,uw:=(aZ r.n s.us s.uw t.ct).2,it:=lD r.n (aZ r.n s.us s.uw t.ct).1 (aZ r.n s.us s.uw t.ct).2 t.ct (ax g r.v.toNat 4) s.it,tk:=iB s.hd s.tk,ou:=s.ou-t.ct }:PS).stop) (hpb:PB r s'):
    Calls prog 81 #[.pointer (some ⟨S,0,none⟩)] w fun e w'=>e= .returned (.tuple #[.agg #[.int .i64 2,.int .i64 10,.int .i64 0],.int .i64 0])∧ ∃dJ,RW A w' S P L Bs B N b2 r s' g dJ∧(∀b,dJ.ownBlock=some b→w.heap.size≤b)∧Dw.Mv (· =S) w w':=by
  obtain ⟨sv,ct,vs,q1,q2,q3,q4⟩:=h.obj;have aaE:=q4 (by omega) t hg;subst aaE;have hti:1≤t.ct∧t.ct≤r.n:=hct _ (qJ hg);have k2:=(Cl.new w #[.int .i64 0,.int .i64 0,.int .i64 0] 77).alloc (Obj.cells #[.int .i64 3,.int .i64 1,.int .i64 s.us] 77);have hbx:=(yah w.heap.size w).alloc (yab _) (Obj.cells #[.int .i64 0,.int .i64 0,.int .i64 0] 77);have p0:=q1.below hbx q1.lt;have x3:=p0.cell 3 _ rfl;have Mh:=p0.cell 11 _ rfl;replace hbx:=hbx.alloc (by simp) (Obj.cells #[.int .i64 3,.int .i64 1,.int .i64 s.us] 77);have p1:=q1.below hbx q1.lt;have hbn:=h.rg.bnd;have hd0:=h.rg.d;have hv0:=h.rg.v;have dG:=h.pb.us;have hfit:=h.fit;have hpl:=fun (w':World) (hq:w'.cell? ⟨S,3,none⟩=some (.int .u64 r.d))=>xZ (i:=s.us) hq (by omega) (by omega);have c14:=p1.cell 14 _ rfl;have hat:s.bT=15:=by unfold PS.bT;rw [yai (by omega),hp];rfl
  rw [hat] at c14;obtain ⟨a,ha⟩: ∃a:Nat,r.v=a:=⟨r.v.toNat,by omega⟩;have ha2:r.v.toNat=a:=by rw [ha];rfl
  rw [ha2,hit] at hs';have hld:=fun w' (hq:bP w' P L Bs B N g)=>Ia P L Bs B N a 4 g w' hq h.hN (.inr (.inr (.inl rfl))) (by omega);have bF:=lg g h.rm.byte a 4;rw [show (256:Int)^4=4294967296 from by decide] at bF;have hgo:=fun w'=>IE (n:=r.n) (a:=s.us) (c:=t.ct) (x:=s.uw) ⟨by omega,by omega⟩ dG ⟨by omega,by omega⟩ w';have hub:0≤(aZ r.n s.us s.uw t.ct).1∧(aZ r.n s.us s.uw t.ct).1<r.n:=by unfold aZ;split<;>simp only<;>omega
  have hte:=fun w'=>zvR (n:=r.n) (us:=(aZ r.n s.us s.uw t.ct).1) (uw:=(aZ r.n s.us s.uw t.ct).2) (ct:=t.ct) (f:=ax g a 4) ⟨by omega,by omega⟩ hub ⟨by omega,by omega⟩ bF w';obtain ⟨k,hk,k1,kt,k3⟩:=CQ hg;have hdel:=zr5 hk k1 k3;rw [hdel] at hs';have aa0: ∀e∈s.tk.take k++s.tk.drop (k+1),0≤e.1∧e.1<r.n:=fun e he=>h.dH e (by rw [←hdel] at he;exact (zX _ _).subset he);have aaU:((s.tk.take k++s.tk.drop (k+1)).map (·.1)).Nodup:=by rw [←hdel];exact h.nd.sublist ((zX _ _).map _)
  unfold bQ at hgo hte;generalize (aZ r.n s.us s.uw t.ct).1=u1 at hgo hte hs' hub;generalize (aZ r.n s.us s.uw t.ct).2=u2 at hgo hte hs';generalize lD r.n u1 u2 t.ct (ax g a 4) false=xL at hte hs';generalize ax g a 4=F1 at hld hte;simp only [ybG] at hld;have K9: ∀v2:Value,((((((s.aJ r P sv lv t.ct).set 11 (.int .i64 u1)).set 12 (.bool u2)).set 20 (.bool xL)).set 13 v2).set 14 (.int .i64 0)).set 21 (.bool true)=s'.aJ r P sv v2 t.ct:=fun v2=>by
    rw [hs'];unfold PS.aJ;rw [hb];rfl
  have ql:s'.tk=s.tk.take k++s.tk.drop (k+1):=by rw [hs'];rfl
  have J6:s'.sg=s.sg:=by rw [hs'];rfl
  have J4:s'.ph=0:=by rw [hs'];rfl
  have J3:s'.br=false:=by rw [hs'];rfl
  clear hs';obtain ⟨q5,⟨ty,hrow⟩,q6⟩:=id q3;obtain ⟨sa,c,hlv,rE⟩:=aA.row hrow;rcases rE with hr|⟨G,hsa,lJ,hr⟩
  · have:=yaI List.length hr;rw [rO s.tk vs q3.1] at this;simp only [ybO] at this;omega
  have QD:=hrow.lt G lJ;have hcap:s.tk.length≤c:=by rw [hlv] at hrow;exact aA.cap hrow (by omega)
  have hGS:G≠S:=by have:=h.lo.1;omega
  obtain ⟨WW,kU⟩: ∃WW,WW=((w.alloc (Obj.cells #[.int .i64 0,.int .i64 0,.int .i64 0] 77)).alloc (Obj.cells #[.int .i64 3,.int .i64 1,.int .i64 s.us] 77)).drew:=⟨_,rfl⟩;have jr:Cl WW S (s.aJ r P sv lv t.ct):=kU▸p1.kept rfl;have iH:Cl WW w.heap.size [.int .i64 0,.int .i64 0,.int .i64 0]:=kU▸k2.kept rfl;have hbd:Below w.heap.size w WW:=by rw [kU];exact hbx.drew
  have LW:=(h.rm.below hbx).kept (w':=((w.alloc (Obj.cells #[.int .i64 0,.int .i64 0,.int .i64 0] 77)).alloc (Obj.cells #[.int .i64 3,.int .i64 1,.int .i64 s.us] 77)).drew) (fun _ _ _=>rfl) (yab _);have c0:=p1.cell 0 _ rfl;have c4:=p1.cell 4 _ rfl;have Qf:=jr.cell 4 _ rfl;rw [ha] at c4 Qf;have nS:w.heap.size≠S:=by have:=q1.lt;omega
  have xh:=q1.lt;have hSS:S<w.heap.size:=q1.lt;clear hd0 hv0 ha ha2 hbx hat hdel hfit;clear xh hSS;go_enter func81,ntmps81;go_wp2_with (first
    | (go_at_call 107;refine (hpl _ x3).mono ?_;rintro en w9 ⟨rfl,mO⟩;have mO:=mO.symm;subst mO)
    | go_in)
  go_region_held3 (fun w'=>w'.cell? ⟨S,0,none⟩=some (.pointer (some ⟨P,0,none⟩))∧w'.cell? ⟨S,4,none⟩=some (.int .u64 a)) (go_keep)
    ((first
      | (go_at_call 109;refine (hld _ LW).mono ?_;rintro en w4 ⟨rfl,hb4⟩;rw [←kU] at hb4;have p4:=jr.below hb4 jr.lt;have d40:=p4.cell 0 _ rfl;have d44:=(hb4.cell (p:=⟨S,4,none⟩) jr.lt).trans Qf)))
  have aau:=hbd.trans (hb4.mono hbd.size);have R7:Cl w4 w.heap.size _:=iH.below hb4 iH.lt;have e11:=p4.cell 11 _ rfl;have e12:=p4.cell 12 _ rfl;have e23:=p4.cell 23 _ rfl;have e2:=p4.cell 2 _ rfl;go_wp2_with fail;go_cut [] from 115 to 134 (fun wx=>Cl wx S (((s.aJ r P sv lv t.ct).set 11 (.int .i64 u1)).set 12 (.bool u2))∧Dw.Mv (· =S) w4 wx)
  case first=>
    go_region_law (first
      | (go_simp;go_at_call 20;refine (hgo w4.drew).mono ?_;rintro en w5 ⟨rfl,hb5⟩;have p5:=(p4.kept (w':=w4.drew) rfl).below hb5 p4.lt;have zT:=p5.cell 11 _ rfl;have vP:=p5.cell 12 _ rfl;have f11:=p5.free 11;have f12:=p5.free 12))
    all_goals
      go_wp2_with fail;go_meet;exact ⟨(p5.set 11 (.int .i64 u1) (by simp [PS.aJ])).set 12 (.bool u2) (by simp [PS.aJ]),dM (dM (show Dw.Mv (· =S) w4 w5 from ⟨hb5.os,hb5.tape,hb5.output,hb5.size,fun b hb _=>hb5.block b hb⟩) S 11 (.int .i64 u1) rfl) S 12 (.bool u2) rfl⟩
  case rest=>
    obtain ⟨p6,qy⟩:=hcut;have Rs:Dw.Mv (· =S) w wc:=(jU aau).trans qy;have zI:Cl wc w.heap.size _:=R7.kept (qy.block _ R7.lt nS);have zT:=p6.cell 11 _ rfl;have vP:=p6.cell 12 _ rfl;have y23:=p6.cell 23 _ rfl;have y2:=p6.cell 2 _ rfl;have y20:=p6.cell 20 _ rfl;clear e11 e12 e23 e2;go_wp2_with fail;go_region_held3 (fun w'=>w'.cell? ⟨S,11,none⟩=some (.int .i64 u1)∧w'.cell? ⟨S,12,none⟩=some (.bool u2)∧w'.cell? ⟨S,23,none⟩=some (.int .i64 t.ct)∧w'.cell? ⟨S,2,none⟩=some (.int .i64 r.n)) (go_keep)
      ((first
        | (go_at_call 110;refine (hte wc.drew).mono ?_;rintro en w7 ⟨rfl,fu⟩;have p7:=(p6.kept (w':=wc.drew) rfl).below fu p6.lt;have z11:=p7.cell 11 _ rfl;have z12:=p7.cell 12 _ rfl;have z23:=p7.cell 23 _ rfl;have z2:=p7.cell 2 _ rfl;have z20:=p7.cell 20 _ rfl;have f20:=p7.free 20;have p8:=p7.set 20 (.bool xL) (by simp [PS.aJ]);have d11:=p8.cell 11 _ rfl;have d12:=p8.cell 12 _ rfl;have d23:=p8.cell 23 _ rfl;have d2:=p8.cell 2 _ rfl)))
    have lK:Dw.Mv (· =S) w (w7.setCell ⟨S,20,none⟩ (.bool xL)):=Rs.trans (dM (show Dw.Mv (· =S) wc w7 from ⟨fu.os,fu.tape,fu.output,fu.size,fun b hb _=>fu.block b hb⟩) S 20 (.bool xL) rfl);have vE:=(zI.kept (w':=wc.drew) rfl).below fu zI.lt;replace vE:=vE.kept (yac w7 ⟨S,20,none⟩ (.bool xL) w.heap.size nS);generalize hw8:w7.setCell ⟨S,20,none⟩ (.bool xL)=w8 at p8 lK vE ⊢;clear hw8 d11 d12 d23 d2 z11 z12 z23 z2 z20 f20 p7 fu zT vP y23 y2 y20 zI p6 Rs qy;have hT: ∀ {w'},Dw.Mv (· =S) w w'→uP A w' b2 lv s.tk vs:=fun {w'} hm=>q3.kept (fun b hb hn=>hm.block b hb fun e=>hn (by have e:b=S:=e;rw [e];exact h.aS)) (fun b e=>hm.block b (hrow.lt b e).2 fun e2=>by have e2:b=S:=e2;have:=(hrow.lt b e).1;have:=h.lo.1;omega);have e13:=p8.cell 13 _ rfl;have e17:=p8.cell 17 _ rfl;have hf:=Gl (S:=S) e13 (hT lK) hl s.hd k (.inr ⟨k,hk,rfl,k1,k3⟩);have hone:=zpF q5 q6;have hlen:=rO s.tk vs q5;have hrG: ∀ {w'},Dw.Mv (· =S) w w'→w'.rangeAt G 0 (eF s.tk vs):=fun {w'} hm=>iR hr (hm.block G QD.2 hGS);go_wp2_with (first
      | (go_at_call 77;refine hf.mono ?_;rintro en w9 ⟨rfl,rC⟩)
      | go_in)
    have mM:Dw.Mv (· =S) w w9:=lK.trans (jU rC);have p9:=p8.below rC p8.lt;have zJ:=vE.below rC vE.lt;have QC:=hrG mM;have aal:G<w9.heap.size:=yae QD.2 mM.size;have y13:=p9.cell 13 _ rfl;have f13:=p9.free 13;rw [hlv,hsa] at y13;obtain ⟨i0,hi0,j1,j2,j3⟩:=ybo PG;have hU:prog.underlying 97=some (.slice 122):=by kernel_rfl
    have hoe:=zuO w9 122 3;have sQ:G<((w9.alloc (Obj.cells #[] 122)).drew).heap.size:=by simp;omega
    have uZ:((w9.alloc (Obj.cells #[] 122)).drew).rangeAt G 0 (eF s.tk vs):=iR QC (ycD w9 _ (h:=aal));have hn1:((eF s.tk vs).take (k*3)).length=k*3:=by rw [ybD,hlen];omega
    have hn2:((eF s.tk vs).drop ((k+1)*3)).length=(s.tk.length-(k+1))*3:=by rw [ycE,hlen];omega
    have c1:(0:Int)≤(k:Int):=by omega
    have c2:(k:Int)≤(c:Int):=by omega
    have c3:(k:Int)+1≤(s.tk.length:Int):=by omega
    have c4:(s.tk.length:Int)≤(c:Int):=by omega
    have c5:(0:Int)≤(k:Int)+1:=by omega
    have c6:=Ec k (by omega);have c7:(k:Int)+1≤(c:Int):=by omega
    have acn:w9.heap.size≠S:=by have:=p9.lt;omega
    have aax:=(yah w9.heap.size w9).alloc (yab _) (Obj.cells #[] 122);have LF:=p9.below aax p9.lt;have CO:=LF.cell 13 _ rfl;rw [hlv,hsa] at CO;have zl:S<((w9.alloc (Obj.cells #[] 122)).drew).heap.size:=LF.lt;go_cut [] from 161 to 179 (fun wx=> ∃v2 t2,aA t2 3 wx w9.heap.size v2 (s.tk.length-1) (eF (s.tk.take k++s.tk.drop (k+1)) (vs.take k++vs.drop (k+1)))∧Cl wx S (((((s.aJ r P sv lv t.ct).set 11 (.int .i64 u1)).set 12 (.bool u2)).set 20 (.bool xL)).set 13 v2)∧Dw.Mv (· =S) w9 wx)
    case first=>
      go_region_law (first
        | (refine rT (P0:=prog) (by rfl) _ _ _ (by rfl) w9.heap.size 122 122 i0 _ 3 40 hU hi0 j1 j2 j3 rfl (by decide) (.slice (some ⟨w9.heap.size,0,none⟩) 0 0) 0 [] (by rfl) hoe (some ⟨G,0,none⟩) ⟨G,0,none⟩ rfl k c ((eF s.tk vs).take (k*3)) (by rfl) hn1
             (zvc uZ (k*3)) (fun u hu=>hone u (ybL hu)) (by unfold maxLen;omega) (by omega) (by simp) ?_
           intro v1 wa t1 hown1 hgrow1 o8;have sP:=zp5 uZ hgrow1 sQ (fun e=>by simp [Value.ownBlock] at e;omega);have hSb:=hgrow1.block S zl (fun e=>by simp [Value.ownBlock] at e;omega);have SG:=LF.kept (w':=wa) hSb;have TR:=SG.cell 13 _ rfl;rw [hlv,hsa] at TR)
        | (refine rT (P0:=prog) (by rfl) _ _ _ (by rfl) w9.heap.size 122 t1 i0 _ 3 40 hU hi0 j1 j2 j3 rfl (by decide) v1 (0+k) ([]++(eF s.tk vs).take (k*3)) (by rfl) hown1 (if c=k+1 then some ⟨G,0,none⟩ else some ⟨G,(k+1)*3,none⟩) (if c=k+1 then ⟨G,0,none⟩ else ⟨G,(k+1)*3,none⟩) (by split<;>rfl) (s.tk.length-(k+1)) (c-(k+1)) ((eF s.tk vs).drop ((k+1)*3)) (by rfl) hn2
             (zq9 sP (by rw [hlen];omega)) (fun u hu=>hone u (ybi hu)) (by unfold maxLen;omega) (by omega) (by have:=hgrow1.size;simp at this;omega) ?_
           intro v2 wb t2 hown2 hgrow2 wY;have hSc:=hgrow2.block S (yae zl hgrow1.size) (fun e=>by
             rcases o8 with q|q
             · rw [q] at e;simp [Value.ownBlock] at e;omega
             · rw [q] at e;simp at e;have:=p9.lt;omega)
           have LG:=SG.kept (w':=wb) hSc;have acv:=LG.cell 13 _ rfl;obtain ⟨fU,c2,hv2,KR⟩:=aA.row hown2;clear KR;subst hv2;have abU:=LG.free 13))
      all_goals (go_wp2_with fail)
      all_goals
        go_meet;have hcs: []++(eF s.tk vs).take (k*3)++(eF s.tk vs).drop ((k+1)*3)=eF (s.tk.take k++s.tk.drop (k+1)) (vs.take k++vs.drop (k+1)):=by
          rw [ydG,zmK q5 (by omega),zmL q5 (by omega),Gv _ _ (by simp [q5])]
        have hcl:0+k+(s.tk.length-(k+1))=s.tk.length-1:=by omega
        have aaC:k+(s.tk.length-(k+1))=s.tk.length-1:=by omega
        rw [hcs,hcl] at hown2;rw [aaC];have e1:Below w9.heap.size w9 ((w9.alloc (Obj.cells #[] 122)).drew):=⟨rfl,rfl,rfl,by simp,fun b hb=>ycD w9 _ (h:=hb)⟩;have e2:Below w9.heap.size ((w9.alloc (Obj.cells #[] 122)).drew) wa:=⟨hgrow1.os,hgrow1.tape,hgrow1.output,hgrow1.size,fun b hb=>hgrow1.block b (by simp;omega) (fun e=>by simp [Value.ownBlock] at e;omega)⟩;have hs1:=hgrow1.size;simp at hs1;have e3:Below w9.heap.size wa wb:=⟨hgrow2.os,hgrow2.tape,hgrow2.output,hgrow2.size,fun b hb=>hgrow2.block b (by omega) (fun e=>by
          rcases o8 with h|h
          · rw [h] at e;simp [Value.ownBlock] at e;omega
          · rw [h] at e;simp at e;omega)⟩
        exact ⟨_,t2,aA.kept hown2 fun b hh=>yac wb ⟨S,13,none⟩ _ b fun e=>by have e:b=S:=e;have:=(aA.lt hown2 b hh).1;have:=p9.lt;omega,LG.set 13 _ (by simp [PS.aJ]),dM (jU ((e1.trans e2).trans e3)) S 13 _ rfl⟩
    case rest=>
      obtain ⟨v2,t2,hown2,p10,Rt⟩:=hcut;have aaN:=mM.trans Rt;have R6:Cl wc w.heap.size _:=zJ.kept (Rt.block _ zJ.lt nS);have hg1:=rQ p10 (by simp [PS.aJ]) rfl rfl 2 10 0 0 true rfl;rw [K9] at hg1;clear CO y13 f13 QC uZ hoe hone hlen hn1 hn2 hf hgo hte hld;go_wp2_with (first
        | (go_at_call 108;refine hg1.mono ?_;rintro en w11 ⟨rfl,KD,xq⟩;have kc:=R6.kept (xq.block _ R6.lt nS);have b0:=kc.cell 0 _ rfl;have b1:=kc.cell 1 _ rfl;have b2':=kc.cell 2 _ rfl;have g0:=kc.free 0;have g1:=kc.free 1;have g2:=kc.free 2)
        | go_in)
      have sf:=((kc.set 0 (.int .i64 2) (by simp)).set 1 (.int .i64 10) (by simp)).set 2 (.int .i64 0) (by simp);refine yaP (iq rfl _ _ w.heap.size [.int .i64 2,.int .i64 10,.int .i64 0] _ rfl (fun j y hy=>by rw [yau];exact sf.cell j y hy) underlying77 rfl (by kernel_rfl)) rfl ?_;have vo:=eD (eD (eD (aaN.trans xq) w.heap.size 0 (.int .i64 2) (.inr (yab _))) w.heap.size 1 (.int .i64 10) (.inr (yab _))) w.heap.size 2 (.int .i64 0) (.inr (yab _));have KF:=((KD.kept (yac _ ⟨w.heap.size,0,none⟩ (.int .i64 2) S (fun e=>nS e.symm))).kept (yac _ ⟨w.heap.size,1,none⟩ (.int .i64 10) S (fun e=>nS e.symm))).kept (yac _ ⟨w.heap.size,2,none⟩ (.int .i64 0) S (fun e=>nS e.symm));have h9:=mM.size;have hv2: ∀b,v2.ownBlock=some b→w.heap.size+1≤b∧b<wc.heap.size:=fun b e=>by have:=hown2.lt b e;have:=zJ.lt;omega
      have hseg: ∀ {v:Value} {l:List Sg} {w':World},Dw.Mv (· =S) w w'→aX (fun b=>A b∨lv.ownBlock=some b) w v l→aX (fun b=>A b∨v2.ownBlock=some b) w' v l:=fun hm q=>aX.xR q (fun b hb hh=>hh.elim .inl fun e=>by have:=(hv2 b e).1;omega) fun b hb hn=>hm.block b hb fun e=>hn (.inl (by have e:b=S:=e;rw [e];exact h.aS));have KY:=aA.kept (w':=((w11.setCell ⟨w.heap.size,0,none⟩ (.int .i64 2)).setCell ⟨w.heap.size,1,none⟩ (.int .i64 10)).setCell ⟨w.heap.size,2,none⟩ (.int .i64 0)) hown2 fun b e=>by
        have q1:=hv2 b e;have n1:b≠w.heap.size:=by omega
        exact (yac _ ⟨w.heap.size,2,none⟩ (.int .i64 0) b n1).trans ((yac _ ⟨w.heap.size,1,none⟩ (.int .i64 10) b n1).trans ((yac _ ⟨w.heap.size,0,none⟩ (.int .i64 2) b n1).trans (xq.block b q1.2 fun e2=>by have e2:b=S:=e2;have:=q1.1;have:=q1.2;have:=h.lo.1;have:=h.b2;omega)))
      refine ⟨rfl,v2,h.vN (vo.mono fun b e=> .inl e) KF (hseg vo (J6▸q2)) (vs':=vs.take k++vs.drop (k+1)) ⟨?_,⟨t2,?_⟩,fun i hi hi'=> ?_⟩ (fun q=>by omega) hpb (fun q=> ?_) (ql▸aa0) (ql▸aaU),fun b e=>by have:=(hv2 b e).1;omega,vo⟩
      · rw [ql];simp [q5]
      · rw [ql];have hl2:(s.tk.take k++s.tk.drop (k+1)).length=s.tk.length-1:=by simp;omega
        rw [hl2];exact aA.mono KY (by have:=h.b2;omega)
      · obtain ⟨j,hj,hj',e1,e2⟩:=ztO (tk:=s.tk) (vs:=vs) q5 hk i (ql▸hi) hi';rw [e2];have e3:s'.tk[i]=s.tk[j]:=by rw [←e1];congr 1
        rw [e3];exact hseg vo (q6 j hj hj')
      · rcases q with q|q
        · exact absurd J4 q
        · rw [J3] at q;cases q
end Go.Proofs
namespace Go.Proofs
open Go.Dw Go.RowKit
def Tryz.abn:AV:= .agg [.int .u64 (aj 10),.int .u32 (aW 11),.int .u16 (aK 12),.int .u16 (aK 13)]
def Tryz.rJ (q:Nat):aG:=⟨17,[.cst 0 none,.int .u64 (.bin .add .u64 (aj 1) (.bin .mul .u64 (.lit 16) (ah 4))),.int .i64 (.lit 16)],0,q,1,.ay [.opq q none,.int .i64 (.lit 0)],1⟩
def Tryz.rH (q:Nat):aG:=⟨169,[.opq q none],1,0,0,.ay [abn,.int .i64 (.lit 0)],1⟩
def Tryz.Uh:List AV:= [.int .u64 (aj 10),.int .u32 (aW 11),.bool (.cmp .neq (.aQ [⟨13,0,65535,1,1,1⟩] 0) (.lit 0))]
def Tryz.JA (q:Nat):dX:=⟨40,.cst 1 none,1,Uh,1,q,1,.opq q none,2⟩
def Tryz.Ta (q:Nat):aG:=⟨170,[.cst 0 none,.int .u64 (aj 10),.int .u32 (aW 11)],1,q,1,.ay [.opq q none,.int .i64 (.var 17)],3⟩
def Tryz.kg (k:Nat):SE:= .aQ [⟨13,0,65535,k,1,k⟩] 0
def Tryz.DJ:List (Nat×AV):= [(0,.cst 0 none),(1,.int .u64 (aj 1)),(6,.cst 1 none),(7,.int .i64 (.var 17)),(21,.int .i64 (ah 5)),(22,.int .i64 (ah 4))]
def Tryz.uh:List (Nat×AV):= [(0,.cst 0 none),(3,.bool (.var 0)),(5,.ptr 1 0),(6,.ptr 2 0),(8,.ptr 3 0),(9,.int .i64 (.lit 0))]
def Tryz.uG:List Sh:= [.own [.bool (.lit true),.int .i64 (aF 0),.int .u64 (aj 1),.int .u64 (aj 2),.int .u64 (aj 3)],.own [.int .i64 (ah 4),.bool (.var 1)],.own [.int .i64 (aK 6),.int .i64 (ah 5),.cst 1 none]]
def Tryz.vL:aG:=⟨123,[.agg [.int .i64 (ah 4),.bool (.var 1)],.int .i64 (.lit 1),.int .i64 (aF 0)],1,0,0,.ay [.agg [.int .i64 (ah 15),.bool (.var 8)],.int .i64 (.lit 0)],1⟩
end Go.Proofs
namespace Go.Proofs
open Go.Dw
def Tryz.ztf:List aG:= []
def Tryz.zyh:List Sh:= [.ro (DV 20 16)]
def Tryz.ztg:List AV:= [Tp]
def Tryz.zDW:List (SB×Bool):= []
def Tryz.Uz:List Leaf:= [
 ⟨.ay [.agg [.int .u64 (.aQ [⟨20,0,255,0,8,0⟩,⟨21,0,255,0,8,8⟩,⟨22,0,255,0,8,16⟩,⟨23,0,255,0,8,24⟩,⟨24,0,255,0,8,32⟩,⟨25,0,255,0,8,40⟩,⟨26,0,255,0,8,48⟩,⟨27,0,255,0,8,56⟩] 0),.int .u32 (.aQ [⟨28,0,255,0,8,0⟩,⟨29,0,255,0,8,8⟩,⟨30,0,255,0,8,16⟩,⟨31,0,255,0,8,24⟩] 0),.int .u16 (.aQ [⟨32,0,255,0,8,0⟩,⟨33,0,255,0,8,8⟩] 0),.int .u16 (.aQ [⟨34,0,255,0,8,0⟩,⟨35,0,255,0,8,8⟩] 0)],.int .i64 (.lit 0)],[],[],0,[]⟩]
def Tryz.zFv:List (List (SB×Bool)×Nat):= [
 ([], 0)]
theorem Tryz.zDV:(ev prog (bB ztf) 100000 (.call 169 ztg (bn 0 zyh) (cK Uz 0))).ways zDW=some zFv:=by kernel_rfl
theorem Tryz.zFw:(bD zyh&&zag ztf&&AV.bK ztg&&dh Uz)=true:=by kernel_rfl
def Tryz.zro:List aG:= []
def Tryz.zvu:List Sh:= []
def Tryz.NW:List (Nat×AV):=DJ
def Tryz.ZU:List dD:= []
def Tryz.ZV:List dX:= []
def Tryz.zvv:Option AV:=none
def Tryz.zB9:List (SB×Bool):= [(.cmp .lss (ah 4) (ah 5),false)]
def Tryz.UF:List gu:= [
 ⟨(.exit 0),[6,7],none,⟨.ay [.cst 1 none,.int .i64 (.var 17)],[],[],0,[]⟩⟩]
def Tryz.UE:List (List (SB×Bool)×Nat):= [
 ([], 0)]
theorem Tryz.zB8:(fG prog (bB zro) (fK ZU) (fJ ZV) 100000 (.code (bJ prog [0,0,1,0,1,1,170]) [0,0,1,0,1,1,170] 57 (bO 57 NW zvv) (bn 0 zvu) (fO UF 0))).ways zB9=some UE:=by kernel_rfl
theorem Tryz.zEu:(bD zvu&&zag zro&&fZ ZU&&gq ZV&&fP NW&&gL UF&&fI 57 NW&&Nat.ble 57 bM&&gK zvv)=true:=by kernel_rfl
def Tryz.zrp:List aG:= [rJ 1,rH 1]
def Tryz.zvw:List Sh:= []
def Tryz.NY:List (Nat×AV):=DJ
def Tryz.ZW:List dD:= []
def Tryz.ZX:List dX:= []
def Tryz.zvx:Option AV:=none
def Tryz.zCb:List (SB×Bool):= [(.cmp .lss (ah 4) (ah 5),true),(.cmp .neq (kg 2) (.lit 0),true)]
def Tryz.UH:List gu:= [
 ⟨.ret,[6,7],none,⟨.ay [.cO,.int .i64 (.lit 4)],[],[],1,[]⟩⟩]
def Tryz.UG:List (List (SB×Bool)×Nat):= [
 ([], 0)]
theorem Tryz.zCa:(fG prog (bB zrp) (fK ZW) (fJ ZX) 100000 (.code (bJ prog [0,0,1,0,1,1,170]) [0,0,1,0,1,1,170] 57 (bO 57 NY zvx) (bn 0 zvw) (fO UH 0))).ways zCb=some UG:=by kernel_rfl
theorem Tryz.zEv:(bD zvw&&zag zrp&&fZ ZW&&gq ZX&&fP NY&&gL UH&&fI 57 NY&&Nat.ble 57 bM&&gK zvx)=true:=by kernel_rfl
def Tryz.zrn:List aG:= [rJ 1,rH 1]
def Tryz.zvs:List Sh:= []
def Tryz.NV:List (Nat×AV):=DJ
def Tryz.ZR:List dD:= []
def Tryz.ZT:List dX:= [JA 5]
def Tryz.zvt:Option AV:=none
def Tryz.zB7:List (SB×Bool):= [(.cmp .lss (ah 4) (ah 5),true),(.cmp .neq (kg 2) (.lit 0),false)]
def Tryz.TU:List gu:= [
 ⟨.normal,[0,1,6,7,21,22],none,⟨.ay [.cst 0 none,.int .u64 (aj 1),.opq 5 none,.int .i64 (.var 17),.int .i64 (ah 5),.int .i64 (.bin .add .i64 (ah 4) (.lit 1))],[],[],2,[]⟩⟩]
def Tryz.TT:List (List (SB×Bool)×Nat):= [
 ([], 0)]
theorem Tryz.zB6:(fG prog (bB zrn) (fK ZR) (fJ ZT) 100000 (.code (bJ prog [0,0,1,0,1,1,170]) [0,0,1,0,1,1,170] 57 (bO 57 NV zvt) (bn 0 zvs) (fO TU 0))).ways zB7=some TT:=by kernel_rfl
theorem Tryz.zEt:(bD zvs&&zag zrn&&fZ ZR&&gq ZT&&fP NV&&gL TU&&fI 57 NV&&Nat.ble 57 bM&&gK zvt)=true:=by kernel_rfl
def Tryz.zsC:List aG:= []
def Tryz.zxl:List Sh:=uG
def Tryz.Oa:List (Nat×AV):=uh
def Tryz.zoc:List dD:= []
def Tryz.zod:List dX:= []
def Tryz.zxm:Option AV:=none
def Tryz.zDk:List (SB×Bool):= [(.cmp .lss (ah 5) (aF 0),false)]
def Tryz.Ur:List gu:= [
 ⟨(.exit 0),[0,3,5,6,8,9],none,⟨.ay [.cst 0 none,.bool (.var 0),.ptr 1 0,.ptr 2 0,.ptr 3 0,.int .i64 (.lit 0)],[(1,[.bool (.lit true),.int .i64 (aF 0),.int .u64 (aj 1),.int .u64 (aj 2),.int .u64 (aj 3)]),(2,[.int .i64 (ah 4),.bool (.var 1)]),(3,[.int .i64 (aK 6),.int .i64 (ah 5),.cst 1 none])],[],0,[1,2,3]⟩⟩]
def Tryz.Uq:List (List (SB×Bool)×Nat):= [
 ([], 0)]
theorem Tryz.zDj:(fG prog (bB zsC) (fK zoc) (fJ zod) 100000 (.code (bJ prog [0,0,0,1,155]) [0,0,0,1,155] 102 (bO 102 Oa zxm) (bn 0 zxl) (fO Ur 0))).ways zDk=some Uq:=by kernel_rfl
theorem Tryz.zE8:(bD zxl&&zag zsC&&fZ zoc&&gq zod&&fP Oa&&gL Ur&&fI 102 Oa&&Nat.ble 102 bM&&gK zxm)=true:=by kernel_rfl
def Tryz.YG:List aG:= [rJ 4,rH 4,vL]
def Tryz.zn6:List Sh:=uG
def Tryz.Np:List (Nat×AV):=uh
def Tryz.Xa:List dD:= []
def Tryz.Xb:List dX:= []
def Tryz.zn7:Option AV:=none
def Tryz.zxg:List (SB×Bool):= [(.cmp .lss (ah 5) (aF 0),true),(.cmp .neq (kg 2) (.lit 0),true),(.var 0,false)]
def Tryz.zsz:List gu:= [
 ⟨.ret,[8,9],none,⟨.ay [.ptr 3 0,.int .i64 (.lit 4)],[(1,[.bool (.lit true),.int .i64 (aF 0),.int .u64 (aj 1),.int .u64 (aj 2),.int .u64 (aj 3)]),(2,[.int .i64 (ah 15),.bool (.var 8)]),(3,[.int .i64 (aK 12),.int .i64 (.bin .add .i64 (ah 5) (.lit 1)),.cst 1 none])],[],1,[1,2,3]⟩⟩]
def Tryz.zsy:List (List (SB×Bool)×Nat):= [
 ([], 0)]
theorem Tryz.zxf:(fG prog (bB YG) (fK Xa) (fJ Xb) 100000 (.code (bJ prog [0,0,0,1,155]) [0,0,0,1,155] 102 (bO 102 Np zn7) (bn 0 zn6) (fO zsz 0))).ways zxg=some zsy:=by kernel_rfl
theorem Tryz.zAa:(bD zn6&&zag YG&&fZ Xa&&gq Xb&&fP Np&&gL zsz&&fI 102 Np&&Nat.ble 102 bM&&gK zn7)=true:=by kernel_rfl
def Tryz.YF:List aG:= [rJ 4,rH 4,vL]
def Tryz.zn4:List Sh:=uG
def Tryz.Nl:List (Nat×AV):=uh
def Tryz.WZ:List dD:= []
def Tryz.W9:List dX:= []
def Tryz.zn5:Option AV:=none
def Tryz.zxe:List (SB×Bool):= [(.cmp .lss (ah 5) (aF 0),true),(.cmp .neq (kg 2) (.lit 0),true),(.var 0,true),(.cmp .gtr (.bin .add .i64 (ah 5) (.lit 1)) (.lit 1),true)]
def Tryz.zsx:List gu:= [
 ⟨.ret,[8,9],none,⟨.ay [.ptr 3 0,.int .i64 (.lit 4)],[(1,[.bool (.lit true),.int .i64 (aF 0),.int .u64 (aj 1),.int .u64 (aj 2),.int .u64 (aj 3)]),(2,[.int .i64 (ah 15),.bool (.var 8)]),(3,[.int .i64 (aK 12),.int .i64 (.bin .add .i64 (ah 5) (.lit 1)),.cst 1 none])],[],1,[1,2,3]⟩⟩]
def Tryz.zsw:List (List (SB×Bool)×Nat):= [
 ([], 0)]
theorem Tryz.zxd:(fG prog (bB YF) (fK WZ) (fJ W9) 100000 (.code (bJ prog [0,0,0,1,155]) [0,0,0,1,155] 102 (bO 102 Nl zn5) (bn 0 zn4) (fO zsx 0))).ways zxe=some zsw:=by kernel_rfl
theorem Tryz.zz9:(bD zn4&&zag YF&&fZ WZ&&gq W9&&fP Nl&&gL zsx&&fI 102 Nl&&Nat.ble 102 bM&&gK zn5)=true:=by kernel_rfl
def Tryz.YE:List aG:= [rJ 4,rH 4,vL]
def Tryz.zn2:List Sh:=uG
def Tryz.Nk:List (Nat×AV):=uh
def Tryz.WX:List dD:= []
def Tryz.WY:List dX:= []
def Tryz.zn3:Option AV:=none
def Tryz.zxc:List (SB×Bool):= [(.cmp .lss (ah 5) (aF 0),true),(.cmp .neq (kg 2) (.lit 0),true),(.var 0,true),(.cmp .gtr (.bin .add .i64 (ah 5) (.lit 1)) (.lit 1),false),(.cmp .neq (kg 0) (.lit 0),true)]
def Tryz.zsv:List gu:= [
 ⟨.ret,[8,9],none,⟨.ay [.ptr 3 0,.int .i64 (.lit 4)],[(1,[.bool (.lit true),.int .i64 (aF 0),.int .u64 (aj 1),.int .u64 (aj 2),.int .u64 (aj 3)]),(2,[.int .i64 (ah 15),.bool (.var 8)]),(3,[.int .i64 (aK 12),.int .i64 (.bin .add .i64 (ah 5) (.lit 1)),.cst 1 none])],[],1,[1,2,3]⟩⟩]
def Tryz.zsu:List (List (SB×Bool)×Nat):= [
 ([], 0)]
theorem Tryz.zxb:(fG prog (bB YE) (fK WX) (fJ WY) 100000 (.code (bJ prog [0,0,0,1,155]) [0,0,0,1,155] 102 (bO 102 Nk zn3) (bn 0 zn2) (fO zsv 0))).ways zxc=some zsu:=by kernel_rfl
theorem Tryz.zz8:(bD zn2&&zag YE&&fZ WX&&gq WY&&fP Nk&&gL zsv&&fI 102 Nk&&Nat.ble 102 bM&&gK zn3)=true:=by kernel_rfl
def Tryz.zn1:List aG:= [rJ 4,rH 4,vL,Ta 6]
def Tryz.zss:List Sh:=uG
def Tryz.NG:List (Nat×AV):=uh
def Tryz.YC:List dD:= []
def Tryz.YD:List dX:= []
def Tryz.zst:Option AV:=none
def Tryz.zz7:List (SB×Bool):= [(.cmp .lss (ah 5) (aF 0),true),(.cmp .neq (kg 2) (.lit 0),true),(.var 0,true),(.cmp .gtr (.bin .add .i64 (ah 5) (.lit 1)) (.lit 1),false),(.cmp .neq (kg 0) (.lit 0),false)]
def Tryz.zxa:List gu:= [
 ⟨.ret,[8,9],none,⟨.ay [.ptr 3 0,.int .i64 (.var 17)],[(1,[.bool (.lit true),.int .i64 (aF 0),.int .u64 (aj 1),.int .u64 (aj 2),.int .u64 (aj 3)]),(2,[.int .i64 (ah 15),.bool (.var 8)]),(3,[.int .i64 (aK 12),.int .i64 (.bin .add .i64 (ah 5) (.lit 1)),.opq 6 none])],[],3,[1,2,3]⟩⟩]
def Tryz.zw9:List (List (SB×Bool)×Nat):= [
 ([], 0)]
theorem Tryz.zz6:(fG prog (bB zn1) (fK YC) (fJ YD) 100000 (.code (bJ prog [0,0,0,1,155]) [0,0,0,1,155] 102 (bO 102 NG zst) (bn 0 zss) (fO zxa 0))).ways zz7=some zw9:=by kernel_rfl
theorem Tryz.zDe:(bD zss&&zag zn1&&fZ YC&&gq YD&&fP NG&&gL zxa&&fI 102 NG&&Nat.ble 102 bM&&gK zst)=true:=by kernel_rfl
def Tryz.zsB:List aG:= [rJ 4,rH 4,vL]
def Tryz.zxj:List Sh:=uG
def Tryz.N9:List (Nat×AV):=uh
def Tryz.zoa:List dD:= []
def Tryz.zob:List dX:= [JA 8]
def Tryz.zxk:Option AV:=none
def Tryz.zDi:List (SB×Bool):= [(.cmp .lss (ah 5) (aF 0),true),(.cmp .neq (kg 2) (.lit 0),false),(.cmp .eql (kg 0) (.lit 0),true)]
def Tryz.Uo:List gu:= [
 ⟨.ret,[8,9],none,⟨.ay [.ptr 3 0,.int .i64 (.lit 0)],[(1,[.bool (.lit true),.int .i64 (aF 0),.int .u64 (aj 1),.int .u64 (aj 2),.int .u64 (aj 3)]),(2,[.int .i64 (ah 15),.bool (.var 8)]),(3,[.int .i64 (aK 12),.int .i64 (.bin .add .i64 (ah 5) (.lit 1)),.opq 8 none])],[],2,[1,2,3]⟩⟩]
def Tryz.Un:List (List (SB×Bool)×Nat):= [
 ([], 0)]
theorem Tryz.zDh:(fG prog (bB zsB) (fK zoa) (fJ zob) 100000 (.code (bJ prog [0,0,0,1,155]) [0,0,0,1,155] 102 (bO 102 N9 zxk) (bn 0 zxj) (fO Uo 0))).ways zDi=some Un:=by kernel_rfl
theorem Tryz.zE7:(bD zxj&&zag zsB&&fZ zoa&&gq zob&&fP N9&&gL Uo&&fI 102 N9&&Nat.ble 102 bM&&gK zxk)=true:=by kernel_rfl
def Tryz.zsA:List aG:= [rJ 4,rH 4,vL]
def Tryz.zxh:List Sh:=uG
def Tryz.N8:List (Nat×AV):=uh
def Tryz.zn8:List dD:= []
def Tryz.zn9:List dX:= [JA 8]
def Tryz.zxi:Option AV:=none
def Tryz.zDg:List (SB×Bool):= [(.cmp .lss (ah 5) (aF 0),true),(.cmp .neq (kg 2) (.lit 0),false),(.cmp .eql (kg 0) (.lit 0),false)]
def Tryz.Um:List gu:= [
 ⟨.normal,[0,3,5,6,8,9],none,⟨.ay [.cst 0 none,.bool (.var 0),.ptr 1 0,.ptr 2 0,.ptr 3 0,.int .i64 (.lit 0)],[(1,[.bool (.lit true),.int .i64 (aF 0),.int .u64 (aj 1),.int .u64 (aj 2),.int .u64 (aj 3)]),(2,[.int .i64 (ah 15),.bool (.var 8)]),(3,[.int .i64 (aK 12),.int .i64 (.bin .add .i64 (ah 5) (.lit 1)),.opq 8 none])],[],2,[1,2,3]⟩⟩]
def Tryz.Ul:List (List (SB×Bool)×Nat):= [
 ([], 0)]
theorem Tryz.zDf:(fG prog (bB zsA) (fK zn8) (fJ zn9) 100000 (.code (bJ prog [0,0,0,1,155]) [0,0,0,1,155] 102 (bO 102 N8 zxi) (bn 0 zxh) (fO Um 0))).ways zDg=some Ul:=by kernel_rfl
theorem Tryz.zE6:(bD zxh&&zag zsA&&fZ zn8&&gq zn9&&fP N8&&gL Um&&fI 102 N8&&Nat.ble 102 bM&&gK zxi)=true:=by kernel_rfl
def Tryz.zsr:List aG:= []
def Tryz.zw7:List Sh:= [.own [.int .i64 (aK 6),.int .i64 (ah 5),.cst 1 none]]
def Tryz.Hr:List (Nat×AV):= [(8,.ptr 1 0),(9,.int .i64 (.lit 0))]
def Tryz.znZ:List dD:= []
def Tryz.zn0:List dX:= []
def Tryz.zw8:Option AV:=none
def Tryz.zDd:List (SB×Bool):= []
def Tryz.Uk:List gu:= [
 ⟨.ret,[8,9],none,⟨.ay [.ptr 1 0,.int .i64 (.lit 4)],[(1,[.int .i64 (aK 6),.int .i64 (ah 5),.cst 1 none])],[],0,[1]⟩⟩]
def Tryz.Uj:List (List (SB×Bool)×Nat):= [
 ([], 0)]
theorem Tryz.zDc:(fG prog (bB zsr) (fK znZ) (fJ zn0) 100000 (.code (bJ prog [1,1,155]) [1,1,155] 102 (bO 102 Hr zw8) (bn 0 zw7) (fO Uk 0))).ways zDd=some Uj:=by kernel_rfl
theorem Tryz.zE5:(bD zw7&&zag zsr&&fZ znZ&&gq zn0&&fP Hr&&gL Uk&&fI 102 Hr&&Nat.ble 102 bM&&gK zw8)=true:=by kernel_rfl
open Go.RowKit
def Tryz.DT (g:Nat→Int) (a:Nat):Value:= .agg #[.int .u64 (ax g a 8),.int .u32 (ax g (a+8) 4),.int .u16 (ax g (a+12) 2),.int .u16 (ax g (a+14) 2)]
theorem Tryz.zjP {g:Nat→Int} (hg: ∀j,0≤g j∧g j<256) (a X o c:Nat) (w:World) (h:w.rangeAt X o (row g a 16)):
  Calls prog 169 #[.slice (some ⟨X,o,none⟩) 16 c] w fun e w'=>e= .returned (.tuple #[DT g a,.int .i64 0])∧Below w.heap.size w w':=by
 have hr: ∀k i b,(∀t,t<k→20≤i+t∧b+t=a+(i+t-20))→ ∀t,t<k→(JQ g a (.slice (some ⟨X,o,none⟩) 16 c)).i (i+t)=g (b+t):=fun k i b hh t ht=>by
  obtain ⟨h1,h2⟩:=hh t ht;show g (a+(i+t-20))=_;rw [h2]
 have hsx:Dw.R (JQ g a (.slice (some ⟨X,o,none⟩) 16 c)) (aT [(X,o)]) Tp (.slice (some ⟨X,o,none⟩) 16 c):=⟨rfl,_,_,_,rfl,rfl,⟨X,o,_,0,rfl,rfl,rfl,rfl,by decide,rfl⟩,trivial⟩;refine yaq (zap (ρ:=JQ g a (.slice (some ⟨X,o,none⟩) 16 c)) (K:=fun _=>False) (g:=bg.none) (bl:= [(X,o)]) (vals:= [.slice (some ⟨X,o,none⟩) 16 c]) mixed zDV zFw (fun b h=>h.elim)
  ⟨oG h (by unfold row;simp) (Zh hg 16 20 a (hr 16 20 a fun t _=>⟨by omega,by omega⟩)) (fun h=>h),trivial⟩ ⟨fun h=>(by cases h),trivial⟩ fo trivial (af hsx RL.nil) (aR.2 trivial)) fun e w' hh=> ?_
 obtain ⟨_,j,he⟩:=mE hh;refine ⟨he.ret.trans ?_,gF he (fun _ h=>h)⟩;have e1:=GR hg 8 20 a (hr 8 20 a fun t _=>⟨by omega,by omega⟩);have e2:=GR hg 4 28 (a+8) (hr 4 28 (a+8) fun t _=>⟨by omega,by omega⟩);have e3:=GR hg 2 32 (a+12) (hr 2 32 (a+12) fun t _=>⟨by omega,by omega⟩);have e4:=GR hg 2 34 (a+14) (hr 2 34 (a+14) fun t _=>⟨by omega,by omega⟩);simp only [yH] at e1 e2 e3 e4;simp only [AV.val,AV.aI,e1,e2,e3,e4,aC];rfl
def Tryz.zE9 (g:Nat→Int) (b2 W0:Nat) (v:Value) (l:List Sg) (a:Nat) (l3:List Sg) (q1 q2 q3:Nat) (k:Nat) (q:Nat→Option Value) (F:Nat→Prop) (w:World):Prop:=
 match k with
 | 0=>jH b2 v l F w
 | 1=>jH b2 v l F w∧ ∃R o c,q q1=some (.slice (some ⟨R,o,none⟩) 16 c)∧F R∧w.rangeAt R o (row g a 16)
 | 2=> ∃u,q q2=some u∧jH b2 u (l++ [jv g a]) F w∧ ∀b,u.ownBlock=some b→v.ownBlock=some b∨W0≤b
 | _=> ∃u,q q3=some u∧jH b2 u l3 F w∧ ∀b,u.ownBlock=some b→v.ownBlock=some b∨W0≤b
def Tryz.kJ (P L Bs B N:Nat) (g:Nat→Int) (b2 W0:Nat) (v:Value) (l:List Sg) (a:Nat) (l3:List Sg) (q1 q2 q3:Nat):bg where
 fact k q F w:=(F P∧F L∧F Bs∧F B∧GM w P L Bs B N g)∧zE9 g b2 W0 v l a l3 q1 q2 q3 k q F w
 loc:=fun k q q' F w w' h hq hb hs=>by
  obtain ⟨⟨h1,h2,h3,h4,h5⟩,h6⟩:=h;refine ⟨⟨h1,h2,h3,h4,h5.kept (fun b _ hb'=>by rcases hb' with rfl|rfl|rfl|rfl<;>exact hb _ (by assumption)) hs⟩,?_⟩
  match k,h6 with
  | 0,h6=>exact jH.kept h6 hb
  | 1,⟨h6,R,o,c,h7,h8,h9⟩=>exact ⟨jH.kept h6 hb,R,o,c,hq _ _ h7,h8,iR h9 (hb R h8)⟩
  | 2,⟨u,h7,h8,h9⟩=>exact ⟨u,hq _ _ h7,jH.kept h8 hb,h9⟩
  | k+3,⟨u,h7,h8,h9⟩=>exact ⟨u,hq _ _ h7,jH.kept h8 hb,h9⟩
structure Tryz.sF (ρ:Val) (P:Nat) (n d v c i ct id A Ln Id F nx e:Int) (tb wr iX:Bool) (sv:Value):Prop where
 dn:(aF 0).den ρ=n
 dd:(aj 1).den ρ=d
 dv:(aj 2).den ρ=v
 dc:(aj 3).den ρ=c
 di:(ah 4).den ρ=i
 lH:(ah 5).den ρ=ct
 did:(aK 6).den ρ=id
 dA:(aj 10).den ρ=A
 JW:(aW 11).den ρ=Ln
 wT:(aK 12).den ρ=Id
 dF:(aK 13).den ρ=F
 Qj:(kg 0).den ρ=F%2
 dF1:(kg 1).den ρ=F/2%2*2
 Qk:(kg 2).den ρ=F/4%2*4
 Qo:(ah 15).den ρ=nx
 de:ρ.i 17=e
 yY:ρ.b 0=tb
 Qp:ρ.b 1=wr
 Qn:ρ.b 8=iX
 dp:ρ.v 0=vp P
 qX:ρ.v 1=sv
theorem Tryz.I7 {P:Nat} {n d v c i ct id A Ln Id F nx e:Int} {tb wr iX:Bool} {sv:Value} (hn:1≤n∧n≤32768) (hd:0≤d∧d<18446744073709551616) (hv:0≤v∧v<18446744073709551616) (hc:0≤c∧c<18446744073709551616) (hi:0≤i∧i<4611686018427387904) (hct:0≤ct∧ct<4611686018427387904) (hid:0≤id∧id<65536)
  (h4:0≤A∧A<18446744073709551616) (h5:0≤Ln∧Ln<4294967296) (h7:0≤Id∧Id<65536) (h6:0≤F∧F<65536) (hx:0≤nx∧nx<4611686018427387904):
  ∃ ρ:Val,sF ρ P n d v c i ct id A Ln Id F nx e tb wr iX sv:=by
 have part: ∀k:Nat,SE.den (cB [n,d,v,c,i,ct,id,0,0,0,A,Ln,Id,F,0,nx,0,e] [tb,wr,false,false,false,false,false,false,iX] [vp P,sv]) (kg k)=F/((2^k:Nat):Int)%2*((2^k:Nat):Int):=fun k=>jB (i:=13) h6.1 (by show F≤65535;omega);refine ⟨cB [n,d,v,c,i,ct,id,0,0,0,A,Ln,Id,F,0,nx,0,e] [tb,wr,false,false,false,false,false,false,iX] [vp P,sv],uf hn.1 hn.2,fM hd.1 hd.2,fM hv.1 hv.2,fM hc.1 hc.2,dK hi.1 hi.2,dK hct.1 hct.2,jC hid.1 hid.2,fM h4.1 h4.2,lU h5.1 h5.2,jC h7.1 h7.2,jC h6.1 h6.2,?_,?_,?_,dK hx.1 hx.2,rfl,rfl,rfl,rfl,rfl,rfl⟩
 ·rw [part];show F/1%2*1=_;omega
 ·rw [part];rfl
 ·rw [part];rfl
section
variable {ρ:Val} {P L Bs B N:Nat} {n d v c i ct id nx e:Int} {tb wr iX:Bool} {sv:Value} {g:Nat→Int} {b2 W0:Nat} {l l3:List Tryz.Sg} {a q1 q2 q3:Nat} {w0:World} {K:Nat→Prop}
theorem Tryz.Pf {A Ln Id F:Int} (hd:sF ρ P n d v c i ct id A Ln Id F nx e tb wr iX sv) (hi:0≤i∧i<1000000) (hd0:0≤d) (ha:d+16*i=a) (hN:N≤1048576) (hin:a+16≤N):
  jM prog ρ w0 K (kJ P L Bs B N g b2 W0 sv l a l3 q1 q2 q3) (rJ q1):=by
 refine ⟨Dw.enters_of (by kernel_rfl),fun j w vals F n hv hn hb hF hsz hf _=> ?_⟩;have aap:SE.den ρ (.bin .add .u64 (aj 1) (.bin .mul .u64 (.lit 16) (ah 4)))=a:=by
  have e1:IntKind.wrap .u64 (16*i)=16*i:=cZ (by omega) (by omega);rw [den_add,den_mul,hd.dd,hd.di,aC,e1,cZ (by omega) (by omega)];exact ha
 have hv:=wu (show AV.kS [.cst 0 none,.int .u64 (.bin .add .u64 (aj 1) (.bin .mul .u64 (.lit 16) (ah 4))),.int .i64 (.lit 16)]=true by decide) hv (af (gY (ρ:=ρ) (j:=j) hd.dp rfl) (af (ai aap) (af (ai rfl) RL.nil)));subst hv;have hb:n=q1:=hb (by show (1:Nat)≠0;decide);subst hb;obtain ⟨⟨f1,f2,f3,f4,hm⟩,f6⟩:=hf;have f6:jH b2 sv l F w:=f6;refine yaq (zCJ P L Bs B N a 16 g w hm hN (by omega) hin) fun en w' hh=> ?_;obtain ⟨u,rfl,⟨_,hrow⟩,hbl⟩:=hh;rcases hrow with ⟨_,h⟩|⟨G,cap,cur,rfl,h3,h4,h5,h6,h7,h8⟩
 ·cases h
 have aam:G<w'.heap.size:=(yap.1 h4).1;refine ⟨_,[.slice (some ⟨G,0,none⟩) 16 cap],fun b=>F b∨b=G,rfl,rfl,?_,⟨⟨.inl f1,.inl f2,.inl f3,.inl f4,hm.below hbl⟩,⟨?_,fun b hb=> .inl (f6.2 b hb)⟩,G,0,cap,tV,.inr rfl,?_⟩,?_,Dw.Mv.of_below hbl⟩
 ·refine kM (af ⟨⟨⟨0,0,0,some _⟩,?_,rfl⟩,rfl,fun _ h=>by cases h⟩ (af (ai rfl) RL.nil));show jq j n _ n=_;unfold jq;rw [yaj ⟨yab _,by simp⟩];simp
 ·exact f6.1.kept fun b hb=>hbl.block b (f6.1.lt b hb).2.1
 ·intro i y hy;rw [←h8] at hy;have hlt:i<16:=by
   have:=(yax.1 hy).1;rw [ybD] at this;omega
  rw [ybw (by omega)] at hy;simp only [World.cell?,h4,yau];simpa using hy
 ·rintro b (hb|rfl)
  ·exact ⟨yae (hF b hb) hbl.size,.inl hb⟩
  ·exact ⟨aam,.inr h3⟩
theorem Tryz.Pg (hd:sF ρ P n d v c i ct id (ax g a 8) (ax g (a+8) 4) (ax g (a+12) 2) (ax g (a+14) 2) nx e tb wr iX sv) (hg: ∀j,0≤g j∧g j<256):
  jM prog ρ w0 K (kJ P L Bs B N g b2 W0 sv l a l3 q1 q2 q3) (rH q1):=
 Ww (Dw.enters_of (by kernel_rfl)) fun j w vals F hv hf=>by
  obtain ⟨_,_,R,o,c,hq,_,hr⟩:=hf;obtain ⟨u,m,rfl,⟨⟨Lq,hj,hu⟩,_⟩,hm⟩:=hv;have hm:m= []:=hm;subst hm;have hu:u= .slice (some ⟨R,o,none⟩) 16 c:=by
   unfold iE at hq;rw [hj] at hq;simp only [ybC] at hq;rw [hu] at hq;exact yaC hq
  subst hu;refine yaq (zjP hg a R o c w hr) fun en w' hh=>⟨_,hh.1,?_,hh.2⟩;exact kM (af (dO (af (ai hd.dA) (af (ai hd.JW) (af (ai hd.wT) (af (ai hd.dF) RL.nil))))) (af (ai rfl) RL.nil))
theorem Tryz.zDo {A Ln Id F:Int} {G:bg} (hd:sF ρ P n d v c i ct id A Ln Id F (aZ n i wr 1).1 e tb wr (aZ n i wr 1).2 sv) (hn:1≤n∧n≤32768) (hi:0≤i∧i<n):jM prog ρ w0 K G vL:=
 iQ (Dw.enters_of (by kernel_rfl)) (by rfl) [bQ i wr,.int .i64 1,.int .i64 n] (.tuple #[bQ (aZ n i wr 1).1 (aZ n i wr 1).2,.int .i64 0]) (fun j=>af (dO (af (ai hd.di) (af (aU hd.Qp) RL.nil))) (af (ai rfl) (af (ai hd.dn) RL.nil)))
  (fun j=>kM (af (dO (af (ai hd.Qo) (af (aU hd.Qn) RL.nil))) (af (ai rfl) RL.nil))) (fun w F q hf=>AU hn hi ⟨by decide,by omega⟩ w)
set_option maxRecDepth 10000 in
theorem Tryz.Oz {Id:Int} (hd:sF ρ P n d v c i ct id (ax g a 8) (ax g (a+8) 4) Id (ax g (a+14) 2) nx e tb wr iX sv) (hlo:P<b2∧L<b2∧Bs<b2∧B<b2) (hW:W0=w0.heap.size) (hb2:b2≤W0) (hK: ∀b,sv.ownBlock=some b→K b) (hl:l.length≤1000000):
    MJ prog ρ w0 K (kJ P L Bs B N g b2 W0 sv l a l3 q1 q2 q3) (JA q2):=by
  intro j w F n us bb o cap vals ty dG hcells hxs hnone hbase hF hsz hf;have hb:n=q2:=hbase (by show (1:Nat)≠0;decide);subst hb;obtain ⟨⟨f1,f2,f3,f4,hm⟩,⟨f5,f6⟩,_⟩:=hf;have dG:=uN (by rfl) dG;have dG:us=sv:=by rw [dG];exact hd.qX
  subst dG;have hxs:=wu (show AV.kS Uh=true by decide) hxs (af (ai hd.dA) (af (ai hd.JW) (af (aU rfl) RL.nil)));have aa9:vals=(jv g a).cells:=by
    rw [hxs];unfold jv Sg.cells;rw [show SB.den ρ (.cmp .neq (.aQ [⟨13,0,65535,1,1,1⟩] 0) (.lit 0))=(ax g (a+14) 2/2%2*2 !=0) from by rw [mY,show SE.den ρ (.aQ [⟨13,0,65535,1,1,1⟩] 0)=_ from hd.dF1,aC]]
  subst aa9;have hinfo:=D8;cases hi:prog.info? 43 with
  | none=>rw [hi] at hinfo;cases hinfo
  | some i=>
  rw [hi] at hinfo;simp only [yaK,ycd,ycH] at hinfo;obtain ⟨i1,i2,i3⟩:=hinfo;obtain ⟨u,w',h1,h2,h3,h4,h5⟩:=ydy (P:=prog) w b2 40 ty 43 i _ 3 16 (by kernel_rfl) hi i1 i2 i3 rfl (by decide) us l.length (dV l) f5 ⟨bb,o,none⟩ 1 cap (jv g a).cells rfl
    (fun q y hy=>by
      rw [Dw.addr_add];exact hcells q y hy) (fun y hy=>by simp only [Sg.cells,yad,yag,yaB] at hy;rcases hy with rfl|rfl|rfl<;>rfl) (by unfold maxLen;omega) (by omega) (by omega)
  have hseg:dV l++(jv g a).cells=dV (l++ [jv g a]):=by simp [dV]
  have hown:bG w' b2 u (l++ [jv g a]):=by
    unfold bG;rw [←hseg,yaX];exact h2
  have hub:=hown.lt;have Fq: ∀b,u.ownBlock=some b→us.ownBlock=some b∨w.heap.size≤b:=fun b hb=>by
    rcases h5 with h5|h5
    · exact .inl (h5▸hb)
    · rw [hb] at h5;cases h5;exact .inr (yab _)
  have hmv:Dw.Mv (fun b=>us.ownBlock=some b) w w':=⟨h3.os,h3.tape,h3.output,h3.size,fun b hb hn=>h3.block b hb (fun e=>hn e.symm)⟩;have hvP: ∀b,us.ownBlock=some b→b≠P∧b≠L∧b≠Bs∧b≠B:=fun b hb=>by
    have:=(f5.lt b hb).1;omega
  refine ⟨u,w',[u],fun b=>F b∨u.ownBlock=some b,h1,rfl,⟨⟨⟨0,0,0,some u⟩,?_,rfl⟩,hown.one,fun _ h=>(by cases h)⟩,⟨⟨.inl f1,.inl f2,.inl f3,.inl f4,hm.kept (fun b hb hb'=>hmv.block b hb (fun e=>by
      obtain ⟨r1,r2,r3,r4⟩:=hvP b e;rcases hb' with h|h|h|h<;>contradiction)) hmv.size⟩,u,tV,⟨hown,fun b hb=> .inr hb⟩,fun b hb=> ?_⟩,?_,hmv.mono fun b hb=>⟨f6 b hb,.inr (hK b hb)⟩⟩
  · show jq j n _ n=_;unfold jq;rw [yaj ⟨yab _,by simp⟩];simp
  · rcases Fq b hb with h|h
    · exact .inl h
    · exact .inr (by omega)
  · rintro b (hb|hb)
    · exact ⟨yae (hF b hb) hmv.size,.inl hb⟩
    · refine ⟨(hub b hb).2.1,?_⟩;rcases Fq b hb with h|h
      · exact .inl (f6 b h)
      · exact .inr h
end
end Go.Proofs
namespace Go.Proofs
open Go.Dw Go.RowKit Go.Maps Go.Sort Go.Deep
theorem Tryz.ztb {N:Nat} {A n:Int} (hn:0≤n):((fq N A n).2=0∧1≤(fq N A n).1∧(fq N A n).1≤64∧A+16*(fq N A n).1≤N)∨(((fq N A n).2=4∨(fq N A n).2=5)∧(fq N A n).1=0):=by
 unfold fq;by_cases h1:n=0∨ ¬n%16=0∨64<n/16
 ·rw [yaj h1];exact .inr ⟨.inl rfl,rfl⟩
 ·rw [yai h1];by_cases h2:A+n≤N
  ·rw [yaj h2];left;show (0:Int)=0∧1≤n/16∧n/16≤64∧A+16*(n/16)≤N;omega
  ·rw [yai h2];exact .inr ⟨.inr rfl,rfl⟩
theorem Tryz.O5 {g:Nat→Int} (hg: ∀j,0≤g j∧g j<256) (a:Nat):(jv g a).ok:=
 ⟨(mD g hg a 8).1,(mD g hg a 8).2,(mD g hg (a+8) 4).1,(mD g hg (a+8) 4).2⟩
theorem Tryz.OB {w:World} {P L Bs B N:Nat} {g:Nat→Int} {b2 W0:Nat} {v:Value} {l:List Sg} {a:Nat} {l3:List Sg} {q1 q2 q3:Nat} {bl:List (Nat×Nat)} (st:GM w P L Bs B N g) (ho:bG w b2 v l) (hbl: ∀x∈bl,x.1≠P∧x.1≠L∧x.1≠Bs∧x.1≠B∧v.ownBlock≠some x.1):(kJ P L Bs B N g b2 W0 v l a l3 q1 q2 q3).G 0 (aT bl) w:=by
 refine ⟨fun b=>b=P∨b=L∨b=Bs∨b=B∨v.ownBlock=some b,fun b hb=>⟨?_,fun hm=> ?_⟩,⟨.inl rfl,.inr (.inl rfl),.inr (.inr (.inl rfl)),.inr (.inr (.inr (.inl rfl))),st⟩,ho,fun b hb=> .inr (.inr (.inr (.inr hb)))⟩
 ·rcases hb with rfl|rfl|rfl|rfl|hb
  ·exact st.pl
  ·exact st.ll
  ·exact st.sl
  ·exact st.bl
  ·exact (ho.lt b hb).2.1
 ·obtain ⟨x,hx,rfl⟩:=ya2.1 (Ih hm);obtain ⟨h1,h2,h3,h4,h5⟩:=hbl x hx;rcases hb with h|h|h|h|h
  ·exact h1 h
  ·exact h2 h
  ·exact h3 h
  ·exact h4 h
  ·exact h5 h
set_option maxRecDepth 10000 in
theorem Tryz.ztL {w:World} {P L Bs B N:Nat} {g:Nat→Int} {A n:Int} (st:GM w P L Bs B N g) (hN:N≤1048576) (h1:1≤N) (hA:0≤A∧A<18446744073709551616) (hn:0≤n∧n<4294967296):
    Calls prog 170 #[vp P,.int .u64 A,.int .u32 n] w fun e w'=> ∃u,e= .returned (.tuple #[u,.int .i64 (gT N g A n).2])∧bG w' w.heap.size u (gT N g A n).1∧Below w.heap.size w w':=by
  obtain ⟨RES,ru⟩: ∃RES,gT N g A n=RES:=⟨_,rfl⟩;rw [ru];have hent:=zq4 st hN h1 hA.1 hA.2 hn.1 hn.2;have h2:=ztb (N:=N) (A:=A) hn.1;obtain ⟨c0,hc0⟩: ∃c:Nat,(fq N A n).1=c:=by
    rcases h2 with ⟨_,h,_⟩|⟨_,h⟩
    · exact ⟨(fq N A n).1.toNat,(ybz (by omega)).symm⟩
    · exact ⟨0,h⟩
  obtain ⟨e0,he0⟩: ∃e,(fq N A n).2=e:=⟨_,rfl⟩;unfold gT at ru;rw [hc0,he0] at h2 hent ru;have hg:=st.byte;unfold vp;go_enter func170,ntmps170;go_wp2_with (first
    | (go_at_call 178;refine hent.mono ?_;rintro e w1 ⟨rfl,hb1⟩)
    | go_in)
  rename_i K hK;have done: ∀ {a2:Act} {w2:World} {u:Value} {x:Int},a2.defers= []→a2.tmps.getD 6 undef=u→a2.tmps.getD 7 undef= .int .i64 x→x=RES.2→bG w2 w.heap.size u RES.1→Below w.heap.size w w2→
      bodyPost prog f170 (fun e w'=> ∃u,e= .returned (.tuple #[u,.int .i64 RES.2])∧bG w' w.heap.size u RES.1∧RowKit.Below w.heap.size w w') .ret a2 w2:=fun {a2 w2 u x} q1 q2 q3 q4 q5 q6=>by
    refine yaP (v:= .tuple #[u,.int .i64 x]) ?_ q1 ⟨u,by rw [q4],q5,q6⟩;have q2':a2.tmps[6]?.getD undef=u:=by simpa using q2
    have q3':a2.tmps[7]?.getD undef= .int .i64 x:=by simpa using q3
    simp [results,results170,q2',q3']
  have tail: ∀ {a2:Act} {w2:World} {u:Value} {x:Int},a2.tmps.size=57→a2.defers= []→a2.tmps.getD 6 undef=u→a2.tmps.getD 7 undef= .int .i64 x→x=RES.2→bG w2 w.heap.size u RES.1→Below w.heap.size w w2→K a2 w2:=fun {a2 w2 u x} z1 z2 z6 z7 z8 z9 z10=>by
    refine hK _ _ ?_;clear hK;obtain ⟨tmps,eT⟩:=a2;have z2:eT= []:=z2;have z1:tmps.size=57:=z1;have z6:tmps.getD 6 undef=u:=z6;have z7:tmps.getD 7 undef= .int .i64 x:=z7;subst z2;go_wp2_with fail;refine done (u:=u) (x:=x) rfl ?_ ?_ z8 z9 z10
    · simp [z1]
    · have y:=z7;rw [yay,yaL (by omega)] at y;simp [z1];exact y
  have QG:=st.pl;have QF:=st.ll;have QH:=st.sl;have QE:=st.bl;refine jy (c':= .loop (bJ prog [0,0,1,0,1,1,170])) (by kernel_rfl) ?_;refine xX (fun (x:Nat×List Sg×Value) a' w'=>x.1≤c0∧a'.tmps.size=57∧a'.defers= []∧([0,1,6,7,21,22].map fun t=>a'.tmps.getD t undef)= [vp P,.int .u64 A,x.2.2,.int .i64 e0,.int .i64 c0,.int .i64 x.1]∧bG w' w.heap.size x.2.2 x.2.1∧Below w.heap.size w w'∧x.2.1.length=x.1∧
      (e0=0→lW g (A+16*x.1).toNat (c0-x.1) x.2.1=RES)∧(e0≠0→RES=([],e0)))
    (fun x=>c0-x.1) (fun x a1 w1 hI=> ?_) (0,[],.slice none 0 0) _ _ ⟨yaE _,rfl,rfl,rfl,⟨rfl,.inl ⟨rfl,rfl⟩⟩,hb1,rfl,fun h=> ?_,fun h=> ?_⟩
  · obtain ⟨i,l,v⟩:=x;obtain ⟨hi,q0,qd,hsl,hown,hbl,hlen,hr0,hr1⟩:=hI;simp only at hi hsl hown hlen hr0 hr1;simp only [yaJ,yaZ,yaM,yaN] at hsl;obtain ⟨s0,s1,s6,s7,s21,s22⟩:=hsl;have hone:=hown.one;have hlt:=hown.lt;have st1:=st.below hbl;have slots: ∀ {ρ:Val} {ct Id F Ad Ln nx:Int} {tb wr iX:Bool},sF ρ P 1 A 0 0 i c0 0 Ad Ln Id F nx e0 tb wr iX v→ ∀t∈DJ,Dw.R ρ (aT []) t.2 (a1.tmps.getD t.1 undef):=fun {ρ ct Id F Ad Ln nx tb wr iX} D t ht=>by
      simp only [DJ,yad,yag,yaB] at ht;rcases ht with rfl|rfl|rfl|rfl|rfl|rfl
      · rw [s0];exact gY D.dp rfl
      · rw [s1];exact ai D.dd
      · rw [s6];exact gY D.qX hone
      · rw [s7];exact ai D.de
      · rw [s21];exact ai D.lH
      · rw [s22];exact ai D.di
    have ab2:c0≤64:=by rcases h2 with ⟨_,_,h,_⟩|⟨_,h⟩<;>omega
    by_cases hic:i<c0
    · have h20:e0=0∧A+16*(c0:Int)≤N:=by rcases h2 with ⟨h,_,_,h'⟩|⟨_,h⟩;exact ⟨h,h'⟩;omega
      obtain ⟨h20,hfit⟩:=h20;obtain ⟨a,ha⟩: ∃a:Nat,A+16*(i:Int)=a:=⟨(A+16*(i:Int)).toNat,(ybz (by omega)).symm⟩;have hin:a+16≤N:=by omega
      have hrec:=hr0 h20;rw [ha,ya0,show c0-i=(c0-(i+1))+1 by omega] at hrec;unfold lW at hrec;have bA:=mD g hg a 8;have bL:=mD g hg (a+8) 4;have bI:=mD g hg (a+12) 2;have bF:=mD g hg (a+14) 2;obtain ⟨ρ,D⟩:=I7 (P:=P) (n:=1) (d:=A) (v:=0) (c:=0) (i:=i) (ct:=c0) (id:=0) (A:=ax g a 8) (Ln:=ax g (a+8) 4) (Id:=ax g (a+12) 2) (F:=ax g (a+14) 2) (nx:=0) (e:=e0) (tb:=false) (wr:=false) (iX:=false) (sv:=v) ⟨by decide,by decide⟩ hA ⟨by decide,by decide⟩ ⟨by decide,by decide⟩ ⟨by omega,by omega⟩ ⟨by omega,by omega⟩ ⟨by decide,by decide⟩ bA bL bI bF ⟨by decide,by decide⟩;have tK:(SB.cmp .lss (ah 4) (ah 5)).den ρ=true:=by rw [fF,D.di,D.lH];exact yaG (by omega)
      have CK:(SB.cmp .neq (kg 2) (.lit 0)).den ρ=decide (ax g (a+14) 2/4%2=1):=by
        rw [mY,D.Qk,aC];by_cases h:ax g (a+14) 2/4%2=1
        · rw [h];rfl
        · rw [show ax g (a+14) 2/4%2=0 by omega];rfl
      have hG:(kJ P L Bs B N g w.heap.size w1.heap.size v l a [] 1 5 0).G 0 (aT []) w1:=OB st1 hown fun x hx=>by cases hx
      by_cases hF:ax g (a+14) 2/4%2=1
      · rw [yaj hF] at hrec;refine ya3 (iF (ρ:=ρ) (K:=fun b=>v.ownBlock=some b) (g:=kJ P L Bs B N g w.heap.size w1.heap.size v l a [] 1 5 0) (bl:= []) mixed zCa zEv (fun b hb=>(hlt b hb).2.1) trivial trivial hG
          ⟨Pf D ⟨by omega,by omega⟩ hA.1 ha hN hin,Pg D hg,trivial⟩ trivial trivial q0 qd (slots (ct:=c0) D) (aH.2 ⟨tK,aH.2 ⟨CK.trans (yaG hF),aR.2 trivial⟩⟩)) fun ex a2 w2 hh=> ?_
        obtain ⟨q,hq,hto,lf,hlf,rfl,hsz2,j2,fA,he⟩:=hh;unfold UG at hq;simp only [yad,yag,yaB] at hq;subst hq;cases hlf;have hs2:=fV he.ret;simp only [AV.aI,AV.val,aC,yaJ,yaZ,yaM,yaN] at hs2;have hmv:=he.mv;have hb2:Below w.heap.size w w2:=⟨hmv.os.trans hbl.os,hmv.tape.trans hbl.tape,hmv.output.trans hbl.output,yaw hbl.size hmv.size,fun b hb=>(hmv.block b (yae hb hbl.size) fun e=>by have:=(hlt b e).1;omega).trans (hbl.block b hb)⟩;exact done fA hs2.1 hs2.2 (by rw [←hrec]) (by rw [←hrec];exact ⟨rfl,.inl ⟨rfl,rfl⟩⟩) hb2
      · rw [yai hF] at hrec;refine ya3 (iF (ρ:=ρ) (K:=fun b=>v.ownBlock=some b) (g:=kJ P L Bs B N g w.heap.size w1.heap.size v l a [] 1 5 0) (bl:= []) mixed zB6 zEt (fun b hb=>(hlt b hb).2.1) trivial trivial hG
          ⟨Pf D ⟨by omega,by omega⟩ hA.1 ha hN hin,Pg D hg,trivial⟩ trivial ⟨Oz D ⟨QG,QF,QH,QE⟩ rfl hbl.size (fun b hb=>hb) (by omega),trivial⟩ q0 qd (slots (ct:=c0) D) (aH.2 ⟨tK,aH.2 ⟨CK.trans (yar hF),aR.2 trivial⟩⟩)) fun ex a2 w2 hh=> ?_
        obtain ⟨q,hq,hto,lf,hlf,rfl,hsz2,j2,fA,he⟩:=hh;unfold TT at hq;simp only [yad,yag,yaB] at hq;subst hq;cases hlf;have hs2:=fV he.ret;obtain ⟨Fs,_,⟨_,_,_,_,hgm⟩,u,hq5,⟨hu,_⟩,_⟩:=he.eY;have e5:(dZ j2 5).q.getD undef=u:=uj (ρ:=ρ) hq5;have hwi:=Ec i (by omega);simp only [AV.aI,AV.val,aC,den_add,gV,D.dp,D.dd,D.de,D.lH,D.di,e5,hwi] at hs2;have hmv:=he.mv;have hb2:Below w.heap.size w w2:=⟨hmv.os.trans hbl.os,hmv.tape.trans hbl.tape,hmv.output.trans hbl.output,yaw hbl.size hmv.size,fun b hb=>(hmv.block b (yae hb hbl.size) fun e=>by have:=(hlt b e).1;omega).trans (hbl.block b hb)⟩;refine ⟨(i+1,l++ [jv g a],u),by simp only;omega,hic,hsz2,fA,hs2,hu,hb2,by simp [hlen],fun _=> ?_,fun h=>absurd h20 h⟩;rw [←hrec];show lW g (A+16*((i+1:Nat):Int)).toNat (c0-(i+1)) (l++ [jv g a])=_;rw [show (A+16*((i+1:Nat):Int)).toNat=a+16 by omega]
    · have hic:i=c0:=by omega
      obtain ⟨ρ,D⟩:=I7 (P:=P) (n:=1) (d:=A) (v:=0) (c:=0) (i:=i) (ct:=c0) (id:=0) (A:=0) (Ln:=0) (Id:=0) (F:=0) (nx:=0) (e:=e0) (tb:=false) (wr:=false) (iX:=false) (sv:=v) ⟨by decide,by decide⟩ hA ⟨by decide,by decide⟩ ⟨by decide,by decide⟩ ⟨by omega,by omega⟩ ⟨by omega,by omega⟩ ⟨by decide,by decide⟩ ⟨by decide,by decide⟩ ⟨by decide,by decide⟩ ⟨by decide,by decide⟩ ⟨by decide,by decide⟩ ⟨by decide,by decide⟩;refine ya3 (iF (ρ:=ρ) (K:=fun _=>False) (g:=bg.none) (bl:= []) mixed zB8 zEu (fun b h=>h.elim) trivial trivial fo trivial trivial trivial q0 qd (slots (ct:=c0) D) (aH.2 ⟨by rw [fF,D.di,D.lH];exact yar (by omega),aR.2 trivial⟩)) fun ex a2 w2 hh=> ?_;obtain ⟨q,hq,hto,lf,hlf,rfl,hsz2,j2,fA,he⟩:=hh;have hb3:=gF he (fun _ h=>h);unfold UE at hq;simp only [yad,yag,yaB] at hq;subst hq;cases hlf;have hs2:=fV he.ret;simp only [AV.aI,AV.val,D.qX,D.de,gV,yaJ,yaZ,yaM,yaN] at hs2;show K a2 w2;have hres:RES=(l,e0):=by
        by_cases h:e0=0
        · have:=hr0 h;rw [hic,yb8] at this;unfold lW at this;rw [←this,h]
        · have h3:=hr1 h;have:c0=0:=by rcases h2 with ⟨h',_⟩|⟨_,h'⟩;exact absurd h' h;omega
          have hl0:l= []:=ybn.1 (by omega);rw [h3,hl0]
      exact tail hsz2 fA hs2.1 hs2.2 (by rw [hres]) (by rw [hres];exact hown.kept fun b hb=>hb3.block b (hlt b hb).2.1) (hbl.trans (hb3.mono hbl.size))
  · rw [yai (by simpa using h)] at ru;show lW g (A+16*((0:Nat):Int)).toNat (c0-0) []=RES;rw [←ru,ya0,show (A+16*((0:Nat):Int))=A by omega,ycB]
  · rw [yaj h] at ru;exact ru.symm
end Go.Proofs
end
