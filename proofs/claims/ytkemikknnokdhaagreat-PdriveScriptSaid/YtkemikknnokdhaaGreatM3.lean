/-
  Proved: laws on the way to 'PdriveScriptProof' (texts Orc WkU XaB DwArgs DwVal SvJ SvK XaC QaF QaG QaH XaD XaE XcR XcM XaF0 XaF XaG XaH XaI XaJ XaK XaL XaM0 XaM XaN XaO XaP XaR XaS0 XaS XaT XaU XaV XaW XaX XaY XaZ XbA XcJ XcK XcL XcN XcO XcS XcT XcA XcB XcC XcD XcE XcU XcV XbB XcF XbC XbD XbH XcG XcW XcH XcX XcY XcZ XdA XdB0 XdB XdC XdD XbI XbK XbM XbN XbF XbG XbE XbO XbP XbQ XbR XcP XdE XdF XdG0 XdG XdH XdI XdJ QaI QbE PsA PsB0 QbA PsB PsC QbB QbC QbD PsD0 PsD PsE QbF QbG PsG0 PsG PsH PsI PsJ PsK0 PsK PsL PsM PsF PsN PsO PsP0 PsP PsQ PsR0 PsR PsS PsT PsU PsX PsY PtA0 PtA PtB PtC PtD PsV PsW PtE0 PtE PtF PtG PtH PtI PtJ PtK PtL PtM PtN PuB PvA PvB PuA0 PuA PuC PvC PuD PuE PuF PuG PuH PuI PuI2 PvD PvE PvF PvN QaJ QaK QaL QaM QcF RyE VaA VaB QbH XdK QbI QbJ QbK QbL QbM QbN QbO QbP QbQ QbR QbS QbT QbU QbW QbY VaC VaE VdA VaD VaF VaG); no condition.
-/
import Derived.Test.YtkemikknnokdhaaGreatM2
import Derived.Test.YtkemikknnokdhaaGreatProg
import Derived.Shelf.SortM.Plain
import Derived.Shelf.SortM.SortNone
import Derived.KernelRfl
import Derived.Sort.OwnSortedInts
import Derived.Carry
import Derived.OpenShut
import Derived.ProofKit
import Derived.Lib.LaidU8
import Derived.Deep.RegionHeld3
import Derived.Deep.DrawnRows
import Derived.Deep.RegionWith
set_option linter.unusedSimpArgs false
set_option linter.unusedVariables false
set_option maxHeartbeats 4000000
noncomputable section
namespace Go.Proofs
open Go.Shelf Go.RowKit Go.Maps Go.Sort
def Tryz.zqp:Go.Shelf.Ren:=⟨fun|5=>90|8=>139|7=>138|19=>169|20=>170|10=>160|11=>161|12=>162|13=>163|14=>164|15=>165|16=>166|17=>167|18=>168|30=>174|31=>175|32=>176|33=>177|34=>178|35=>179|40=>180|n=>n,fun|23=>82|25=>3|3=>3|32=>153|22=>82|0=>0|44=>50|46=>28|4=>4|36=>222|35=>221|41=>206|5=>5|9=>9|53=>232|57=>236|63=>238|64=>151|n=>n,fun|n=>n⟩
theorem Tryz.zxy:Go.Proofs.SlLaysM.n5 prog zqp:= {
 mixed:=by kernel_rfl
 f5:=⟨f90.name,by decide,func90.trans (yaB some (by kernel_rfl))⟩
 f7:=⟨f138.name,by decide,func138.trans (yaB some (by kernel_rfl))⟩
 f8:=func139.trans (yaB some (by kernel_rfl))
 f10:=⟨f160.name,by decide,func160.trans (yaB some (by kernel_rfl))⟩
 f11:=⟨f161.name,by decide,func161.trans (yaB some (by kernel_rfl))⟩
 f12:=⟨f162.name,by decide,func162.trans (yaB some (by kernel_rfl))⟩
 f13:=⟨f163.name,by decide,func163.trans (yaB some (by kernel_rfl))⟩
 f14:=⟨f164.name,by decide,func164.trans (yaB some (by kernel_rfl))⟩
 f15:=⟨f165.name,by decide,func165.trans (yaB some (by kernel_rfl))⟩
 f16:=⟨f166.name,by decide,func166.trans (yaB some (by kernel_rfl))⟩
 f17:=⟨f167.name,by decide,func167.trans (yaB some (by kernel_rfl))⟩
 f18:=⟨f168.name,by decide,func168.trans (yaB some (by kernel_rfl))⟩
 f19:=func169.trans (yaB some (by kernel_rfl))
 f20:=func170.trans (yaB some (by kernel_rfl))
 f30:=⟨f174.name,by decide,func174.trans (yaB some (by kernel_rfl))⟩
 f31:=func175.trans (yaB some (by kernel_rfl))
 f32:=func176.trans (yaB some (by kernel_rfl))
 f33:=⟨f177.name,by decide,func177.trans (yaB some (by kernel_rfl))⟩
 f34:=⟨f178.name,by decide,func178.trans (yaB some (by kernel_rfl))⟩
 f35:=⟨f179.name,by decide,func179.trans (yaB some (by kernel_rfl))⟩
 f40:=⟨f180.name,by decide,func180.trans (yaB some (by kernel_rfl))⟩
 t0:=underlying0
 a0:=isAgg0
 z0:=sizeOf0
 v0:=zeroValue0
 t3:=underlying3
 a3:=isAgg3
 z3:=sizeOf3
 v3:=zeroValue3
 t4:=underlying4
 a4:=isAgg4
 z4:=sizeOf4
 v4:=zeroValue4
 t5:=underlying5
 a5:=isAgg5
 z5:=sizeOf5
 v5:=zeroValue5
 t9:=underlying9
 a9:=isAgg9
 z9:=sizeOf9
 v9:=zeroValue9
 t22:=underlying82
 a22:=isAgg82
 z22:=sizeOf82
 v22:=zeroValue82
 t23:=underlying82
 a23:=isAgg82
 z23:=sizeOf82
 v23:=zeroValue82
 t25:=underlying3
 a25:=isAgg3
 z25:=sizeOf3
 v25:=zeroValue3
 t32:=underlying153
 a32:=isAgg153
 z32:=sizeOf153
 v32:=zeroValue153
 t35:=underlying221
 a35:=isAgg221
 z35:=sizeOf221
 v35:=zeroValue221
 t36:=underlying222
 a36:=isAgg222
 z36:=sizeOf222
 v36:=zeroValue222
 t41:=underlying206
 a41:=isAgg206
 z41:=sizeOf206
 v41:=zeroValue206
 t44:=underlying50
 a44:=isAgg50
 z44:=sizeOf50
 v44:=zeroValue50
 t46:=underlying28
 a46:=isAgg28
 z46:=sizeOf28
 v46:=zeroValue28
 t53:=underlying232
 a53:=isAgg232
 z53:=sizeOf232
 v53:=zeroValue232
 t57:=underlying236
 a57:=isAgg236
 z57:=sizeOf236
 v57:=zeroValue236
 t63:=underlying238
 a63:=isAgg238
 z63:=sizeOf238
 v63:=zeroValue238
 t64:=underlying151
 a64:=isAgg151
 z64:=sizeOf151
 v64:=zeroValue151 }
end Go.Proofs
namespace Go.Dw
open Go.RowKit Go.WideShapes Go.ChangeShapes
theorem Ud {H:Type} {enc:TypeId×Value→H} {P:Program} {W W':World} (hl:laidOutB P=true) (hb:Below W.heap.size W W') {sp:Nat→Bool}: ∀ {ts:List TypeId} {vs:List Value} {ds:List (DataW H)} {ps:List MemPlace},
  (∀ t∈ts,P.readableRec t=true∧t<P.types.size)→DataW.TrodAll enc P W 0 (fun _=>true) true ts vs ds ps→(∀x∈ps,x.block<W.heap.size)→(∀x∈ps,sp x.block=true)→DataW.TrodAll enc P W' 0 sp true ts vs ds ps
 | [], vs,ds,ps,_,h,_,_=>by
  obtain ⟨rfl,rfl,rfl⟩:=trodAll_nil h;exact trodAll_mk0
 | t::ts,vs,ds,ps,ht,h,hlt,hsp=>by
  obtain ⟨v,vs',d,ds',p,q,rfl,rfl,rfl,h0,h1⟩:=trodAll_cons h;have ht0:=ht t (ya0 ..);refine trodAll_cons_mk (WideElems.Trod_stays hl ht0.1 ht0.2 h0 (fun x hx=>hb.same (hlt x (yce _ hx))) (fun x hx=>hsp x (yce _ hx))) ?_;exact Ud hl hb (fun u hu=>ht u (ya3 _ hu)) h1 (fun x hx=>hlt x (yca _ hx)) (fun x hx=>hsp x (yca _ hx))
theorem abk {P:Program} {w:World} {r:Reach} {base:Nat} {t b:TypeId} {fs:Array Field} {v:Value} (ht:P.underlying t=some (.struct fs)) (hn:P.cellsOf t=3) (hc:P.cellTypes P.depth t=some [b,b,b])
  (hb:P.underlying b=some .bool) (h:Value.okWide P w r base t v): ∃x y z,v= .agg #[.bool x,.bool y,.bool z]:=by
 simp only [Value.okWide,ht] at h;obtain ⟨cs,rfl,hsz,ts,hts,_,hcell⟩:=h;rw [hc] at hts;cases hts;rw [hn] at hsz;have cell: ∀i v,i<3→cs[i]? =some v→ ∃x,v= .bool x:=fun i v hi hv=>by
  obtain ⟨u,hu,hok⟩:=hcell i v hv;have e:u=b:=by
   have hi':i% [b,b,b].length=i:=ya6 (by simpa using hi);rw [hi'] at hu
   match i,hi with
   | 0,_=>simpa using hu.symm
   | 1,_=>simpa using hu.symm
   | 2,_=>simpa using hu.symm
  subst e;simp only [Cell.okWide,hb] at hok;cases v<;>simp_all [Cell.ok]
 obtain ⟨x,hx⟩:=cell 0 cs[0] (by omega) (yaQ (by omega));obtain ⟨y,hy⟩:=cell 1 cs[1] (by omega) (yaQ (by omega));obtain ⟨z,hz⟩:=cell 2 cs[2] (by omega) (yaQ (by omega));refine ⟨x,y,z,?_⟩;congr 1;apply Array.ext
 ·rw [hsz];rfl
 ·intro i h1 h2
  match i,h2 with
  | 0,_=>exact hx
  | 1,_=>exact hy
  | 2,_=>exact hz
end Go.Dw
namespace Go.Dw
open Go.RowKit
mutual
def zU:AV→Option Value
 | .bool (.lit b)=>some (.bool b)
 | .int k (.lit n)=>some (.int k n)
 | .iI=>some (.pointer none)
 | .dz=>some (.slice none 0 0)
 | .agg l=>match vP l with|some m=>some (.agg m.toArray)|none=>none
 | .aK l=>match vP l with|some m=>some (.tuple m.toArray)|none=>none
 | _=>none
def vP:List AV→Option (List Value)
 | [] => some []
 | a::l=>match zU a,vP l with|some v,some m=>some (v::m)|_,_=>none
end
mutual
theorem Rh {ρ:Val} {j:J}: ∀ {a:AV} {x u:Value},zU a=some x→R ρ j a u→u=x
 | .bool (.lit b),x,u,h,r=>by cases h;exact r
 | .int k (.lit n),x,u,h,r=>by cases h;exact r
 | .iI,x,u,h,r=>by cases h;exact r
 | .dz,x,u,h,r=>by cases h;exact r
 | .agg l,x,u,h,r=>by
  obtain ⟨m,rfl,hm⟩:=r;rw [zU] at h;cases hl:vP l with
  | none=>rw [hl] at h;cases h
  | some m'=>rw [hl] at h;cases h;rw [KQ hl hm]
 | .aK l,x,u,h,r=>by
  obtain ⟨m,rfl,hm⟩:=r;rw [zU] at h;cases hl:vP l with
  | none=>rw [hl] at h;cases h
  | some m'=>rw [hl] at h;cases h;rw [KQ hl hm]
theorem KQ {ρ:Val} {j:J}: ∀ {l:List AV} {m us:List Value},vP l=some m→RL ρ j l us→us=m
 | [], m,us,h,r=>by cases h;exact r
 | a::l,m,us,h,r=>by
  obtain ⟨v,m',rfl,hv,hm⟩:=r;rw [vP] at h;cases ha:zU a with
  | none=>rw [ha] at h;cases h
  | some x=>
   cases hl:vP l with
   | none=>rw [ha,hl] at h;cases h
   | some y=>rw [ha,hl] at h;cases h;rw [Rh ha hv,KQ hl hm]
end
def Rl (a b:Bool):Bool:=match a with|true=>b|false=>match b with|true=>false|false=>true
mutual
def F3:AV→AV→Bool
 | .bool (.lit a),.bool (.lit b)=>Rl a b
 | .int k (.lit a),.int k' (.lit b)=>match decide (k=k') with|true=>decide (a=b)|false=>false
 | .iI,.iI=>true
 | .dz,.dz=>true
 | .agg l,.agg m=>Cz l m
 | .aK l,.aK m=>Cz l m
 | _,_=>false
def Cz:List AV→List AV→Bool
 | [], [] => true
 | a::l,b::m=>match F3 a b with|true=>Cz l m|false=>false
 | _,_=>false
end
theorem zx8 {a b:Bool} (h:Rl a b=true):a=b:=by cases a<;>cases b<;>first|rfl|cases h
mutual
theorem Rk: ∀ {a b:AV},F3 a b=true→a=b
 | .bool (.lit a),.bool (.lit b),h=>by rw [zx8 (a:=a) (b:=b) h]
 | .int k (.lit a),.int k' (.lit b),h=>by
  rw [F3] at h;split at h
  ·rename_i hk;rw [ycq hk,ycq h]
  ·cases h
 | .iI,.iI,_=>rfl
 | .dz,.dz,_=>rfl
 | .agg l,.agg m,h=>by rw [KW (l:=l) (m:=m) h]
 | .aK l,.aK m,h=>by rw [KW (l:=l) (m:=m) h]
theorem KW: ∀ {l m:List AV},Cz l m=true→l=m
 | [], [], _=>rfl
 | a::l,b::m,h=>by
  rw [Cz] at h;split at h
  ·rename_i ha;rw [Rk ha,KW h]
  ·cases h
end
def AA (x : AV) (v : AV) (_ : Heap) : Ob := match F3 v x with | true => .ok | false => .bad 96 "other"
theorem PW {P:Program} (hmo:P.follows .mixedOrders=true) {n:Nat} {f:FuncId} {args:List AV} {vals:List Value} {x:AV} {u:Value} (hx:zU x=some u) (ha:RL Val.zero (fun _=>none) args vals)
  (h:(ev P zH n (.call f args og (AA x))).good=true) (w:World):
  Calls P f vals.toArray w fun e w'=>e= .returned u∧Below w.heap.size w w':=by
 have hg:=JC (P:=P) (ρ:=Val.zero) (w0:=Cx.plain w) (fP:=zH) Zr (fun n rec hg=>FB hmo hg) n;refine ya7 ((hg.call f args og (AA x) (Ob.zW h)).2 (fun _=>none) w vals (inv0 w) ha) fun e w' he=> ?_;obtain ⟨u',rfl,v,H',j',h1,h2,h3,h4⟩:=he;have hv:v=x:=by
  unfold AA at h4;split at h4
  ·rename_i e;exact Rk e
  ·exact h4.elim
 rw [hv] at h1;rw [Rh hx h1];exact ⟨rfl,h2.fr.below⟩
theorem QB {ρ:Val} {j:J} {k:IntKind} {n:Int} {l:List AV} {m:List Value} (h:RL ρ j l m):RL ρ j (.int k (.lit n)::l) (.int k n::m):=⟨_,_,rfl,rfl,h⟩
theorem Qb {ρ:Val} {j:J} {b:Bool} {l:List AV} {m:List Value} (h:RL ρ j l m):RL ρ j (.bool (.lit b)::l) (.bool b::m):=⟨_,_,rfl,rfl,h⟩
end Go.Dw
namespace Go.Proofs
open Go.Dw Go.RowKit
theorem Tryz.fw (w:World) (o:Obj):(w.alloc o).heap.size=w.heap.size+1:=by simp
def Tryz.abq:bL:=⟨123,[sl1 []],0,0,0,.int .i64 (.var 7),0⟩
open Go.Maps Go.Sort
theorem Tryz.Cl.kept {w w':World} {b:Nat} {l:List Value} (h:Cl w b l) (e:w'.heap[b]? =w.heap[b]?):Cl w' b l:=by
 refine ⟨?_,fun i v hv=>by rw [yal (a:=⟨b,i,none⟩) e];exact h.cell i v hv,fun i=>by rw [ycs (a:=⟨b,i,none⟩) e];exact h.free i⟩;have q:w'.heap[b]? =some (w.heap[b]'(h).lt):=by rw [e];exact yaQ h.lt
 exact (yax.1 q).1
theorem Tryz.aV.jW {w w':World} {P L Bs B N X:Nat} {g:Nat→Int} (h:aV w P L Bs B N g) (hm:Dw.Mv (· =X) w w') (hx:X≠P∧X≠L∧X≠Bs∧X≠B):aV w' P L Bs B N g:=
 h.kept (fun k hk hq=>hm.block k hk fun e=>by
  have e:k=X:=e;obtain ⟨h1,h2,h3,h4⟩:=hx;rcases hq with q|q|q|q<;>(rw [e] at q;contradiction)) hm.size
end Go.Proofs
namespace Go.Proofs
open Go.Dw
def Tryz.Xd:List bL:= []
def Tryz.Ya:List Sh:= [xV 3 4 0]
def Tryz.Iy:List (Nat×AV):= [(0,mZ [(.lit 0,1)]),(3,.int .u64 (aP 2)),(4,.int .i64 (.lit 0))]
def Tryz.VG:List eH:= []
def Tryz.VH:List gK:= []
def Tryz.Yb:Option AV:=none
def Tryz.ztF:List (SB×Bool):= [(.cmp .lss (.lit 0) (ai 0),true)]
def Tryz.ZJ:List ko:= [
 ⟨.ret,[2],none,⟨.aK [.int .i64 (.lit 2)],[],[],0,[]⟩⟩,
 ⟨.normal,[0,3,4],none,⟨.aK [.sx 0 ((ai 0)) 3 [((.lit 0),1)],.int .u64 (.bin .add .u64 (aP 2) (bV 4)),.int .i64 (.lit 1)],[],[],0,[]⟩⟩]
def Tryz.ZI:List (List (SB×Bool)×Nat):= [
 ([((.cmp .eql (bV 4) (.lit 0)),true)],0),
 ([((.cmp .eql (bV 4) (.lit 0)),false),((.cmp .lss (.bin .add .u64 (aP 3) (.bin .sub .u64 (bV 4) (.lit 1))) (aP 3)),true)],0),
 ([((.cmp .eql (bV 4) (.lit 0)),false),((.cmp .lss (.bin .add .u64 (aP 3) (.bin .sub .u64 (bV 4) (.lit 1))) (aP 3)),false)],1)]
theorem Tryz.ztE:(kH prog (dW Xd) (lT VG) (lu VH) 100000 (.code (bS prog [0,0,1,0,1,1,1,123]) [0,0,1,0,1,1,1,123] 71 (bP 71 Iy Yb) (dP 0 Ya) (jE ZJ 0))).ways ztF=some ZI:=by kernel_rfl
theorem Tryz.zwl:(fe Ya&&eZ Xd&&lJ VG&&lK VH&&jC Iy&&lN ZJ&&jo 71 Iy&&Nat.ble 71 bN&&lQ Yb)=true:=by kernel_rfl
def Tryz.Xc:List bL:= []
def Tryz.YI:List Sh:= [xV 3 4 0,xV 5 6 1]
def Tryz.Iw:List (Nat×AV):= [(0,mZ [(ai 1,1),(.bin .sub .i64 (ai 1) (.lit 1),2)]),(3,.int .u64 (aP 2)),(4,.int .i64 (ai 1))]
def Tryz.VE:List eH:= []
def Tryz.VF:List gK:= []
def Tryz.X8:Option AV:=none
def Tryz.ztD:List (SB×Bool):= [(.cmp .lss (ai 1) (ai 0),true),(.cmp .gtr (ai 1) (.lit 0),true)]
def Tryz.ZH:List ko:= [
 ⟨.ret,[2],none,⟨.aK [.int .i64 (.lit 2)],[],[],0,[]⟩⟩,
 ⟨.normal,[0,3,4],none,⟨.aK [.sx 0 ((ai 0)) 3 [((ai 1),1),((.bin .sub .i64 (ai 1) (.lit 1)),2)],.int .u64 (.bin .add .u64 (aP 2) (bV 4)),.int .i64 (.bin .add .i64 (ai 1) (.lit 1))],[],[],0,[]⟩⟩]
def Tryz.ZG:List (List (SB×Bool)×Nat):= [
 ([((.cmp .eql (bV 4) (.lit 0)),true)],0),
 ([((.cmp .eql (bV 4) (.lit 0)),false),((.cmp .lss (.bin .add .u64 (aP 3) (.bin .sub .u64 (bV 4) (.lit 1))) (aP 3)),true)],0),
 ([((.cmp .eql (bV 4) (.lit 0)),false),((.cmp .lss (.bin .add .u64 (aP 3) (.bin .sub .u64 (bV 4) (.lit 1))) (aP 3)),false),(.var 1,true),(.var 0,false)],0),
 ([((.cmp .eql (bV 4) (.lit 0)),false),((.cmp .lss (.bin .add .u64 (aP 3) (.bin .sub .u64 (bV 4) (.lit 1))) (aP 3)),false),(.var 1,true),(.var 0,true)],1),
 ([((.cmp .eql (bV 4) (.lit 0)),false),((.cmp .lss (.bin .add .u64 (aP 3) (.bin .sub .u64 (bV 4) (.lit 1))) (aP 3)),false),(.var 1,false)],1)]
theorem Tryz.ztC:(kH prog (dW Xc) (lT VE) (lu VF) 100000 (.code (bS prog [0,0,1,0,1,1,1,123]) [0,0,1,0,1,1,1,123] 71 (bP 71 Iw X8) (dP 0 YI) (jE ZH 0))).ways ztD=some ZG:=by kernel_rfl
theorem Tryz.zwk:(fe YI&&eZ Xc&&lJ VE&&lK VF&&jC Iw&&lN ZH&&jo 71 Iw&&Nat.ble 71 bN&&lQ X8)=true:=by kernel_rfl
def Tryz.Xb:List bL:= []
def Tryz.YG:List Sh:= []
def Tryz.Iu:List (Nat×AV):= [(0,mZ []),(3,.int .u64 (aP 2)),(4,.int .i64 (ai 1))]
def Tryz.VB:List eH:= []
def Tryz.VD:List gK:= []
def Tryz.YH:Option AV:=none
def Tryz.ztB:List (SB×Bool):= [(.cmp .lss (ai 1) (ai 0),false)]
def Tryz.ZF:List ko:= [
 ⟨(.exit 0),[3],none,⟨.aK [.int .u64 (aP 2)],[],[],0,[]⟩⟩]
def Tryz.ZE:List (List (SB×Bool)×Nat):= [
 ([], 0)]
theorem Tryz.ztA:(kH prog (dW Xb) (lT VB) (lu VD) 100000 (.code (bS prog [0,0,1,0,1,1,1,123]) [0,0,1,0,1,1,1,123] 71 (bP 71 Iu YH) (dP 0 YG) (jE ZF 0))).ways ztB=some ZE:=by kernel_rfl
theorem Tryz.zwj:(fe YG&&eZ Xb&&lJ VB&&lK VD&&jC Iu&&lN ZF&&jo 71 Iu&&Nat.ble 71 bN&&lQ YH)=true:=by kernel_rfl
def Tryz.Xa:List bL:= []
def Tryz.YE:List Sh:= []
def Tryz.Ir:List (Nat×AV):= [(3,.int .u64 (aP 2))]
def Tryz.Vz:List eH:= []
def Tryz.VA:List gK:= []
def Tryz.YF:Option AV:=none
def Tryz.ztz:List (SB×Bool):= []
def Tryz.ZC:List ko:= [
 ⟨.ret,[2],none,⟨.aK [.int .i64 (.lit 2)],[],[],0,[]⟩⟩,
 ⟨.ret,[2],none,⟨.aK [.int .i64 (.lit 0)],[],[],0,[]⟩⟩]
def Tryz.ZX:List (List (SB×Bool)×Nat):= [
 ([((.cmp .geq (aP 2) (.lit 4294967296)),true)],0),
 ([((.cmp .geq (aP 2) (.lit 4294967296)),false)],1)]
theorem Tryz.zty:(kH prog (dW Xa) (lT Vz) (lu VA) 100000 (.code (bS prog [1,1,1,1,123]) [1,1,1,1,123] 71 (bP 71 Ir YF) (dP 0 YE) (jE ZC 0))).ways ztz=some ZX:=by kernel_rfl
theorem Tryz.zwi:(fe YE&&eZ Xa&&lJ Vz&&lK VA&&jC Ir&&lN ZC&&jo 71 Ir&&Nat.ble 71 bN&&lQ YF)=true:=by kernel_rfl
def Tryz.YC:List bL:= [abq]
def Tryz.ZW:List Sh:= []
def Tryz.YD:List AV:= [sl1 []]
def Tryz.zwh:List (SB×Bool):= []
def Tryz.zvg:List Leaf:= [
 ⟨.int .i64 (.lit 2),[],[],0,[]⟩,
 ⟨.int .i64 (.var 7),[],[],0,[]⟩]
def Tryz.zvf:List (List (SB×Bool)×Nat):= [
 ([((.cmp .eql (.var 7) (.lit 0)),true),((.cmp .eql (ai 0) (.lit 0)),true)],0),
 ([((.cmp .eql (.var 7) (.lit 0)),true),((.cmp .eql (ai 0) (.lit 0)),false)],1),
 ([((.cmp .eql (.var 7) (.lit 0)),false)],1)]
theorem Tryz.zwg:(ev prog (dW YC) 100000 (.call 124 YD (dP 0 ZW) (jc zvg 0))).ways zwh=some zvf:=by kernel_rfl
theorem Tryz.zxT:(fe ZW&&eZ YC&&AV.dX YD&&jm zvg)=true:=by kernel_rfl
open Go.RowKit
structure Tryz.FU (l:List Sg) (sa:Option Addr) (c:Nat) (w0:World) (k:Nat) (a:Act) (w:World):Prop where
 kl:k≤l.length
 size:a.tmps.size=71
 dH:a.defers= []
 s0:a.tmps.getD 0 undef= .slice sa l.length c
 s4:a.tmps.getD 4 undef= .int .i64 k
 mv:Below w0.heap.size w0 w
 sum: ∃pw s,a.tmps.getD 3 undef= .int .u64 s∧0≤s∧s≤k*4294967296∧iM pw s (l.drop k)=iM false 0 l∧(k=0→pw=false)∧(∀i,k=i+1→ ∃h:i<l.length,pw=l[i].wr)
theorem Tryz.zyz {ρ:Val} {j:J} {sa:Option Addr} {n c:Nat} (hv:ρ.v 0= .slice sa n c) (hd:(ai 0).den ρ=n):Dw.R ρ j (mZ []) (.slice sa n c):=by
 have:Dw.R ρ j (mZ []) (ρ.v 0):=⟨rfl,sa,n,c,hv,hd.symm,trivial⟩
 rwa [hv] at this
theorem Tryz.ztH {l:List Sg} {sa:Option Addr} {c:Nat} {w0:World} {k:Nat} {a:Act} {w:World} (h:FU l sa c w0 k a w) (hl:l.length≤64) (hok: ∀x∈l,x.ok)
    (hr:l= []∨ ∃R o,sa=some ⟨R,o,none⟩∧w0.rangeAt R o (dA l)):
    (bS prog [0,0,1,0,1,1,1,123]).wp prog (fun ex a' w'=>match ex with
      | .normal=>k<l.length∧FU l sa c w0 (k+1) a' w'
      | ex=>a'.tmps.size=71∧a'.defers= []∧Below w0.heap.size w0 w'∧((ex= .ret∧iM false 0 l=2∧a'.tmps.getD 2 undef= .int .i64 2)∨(ex= .exit 0∧ ∃s,iM false 0 l=(if 4294967296≤s then 2 else 0)∧a'.tmps.getD 3 undef= .int .u64 s∧0≤s∧s<18446744073709551616))) a w:=by
  obtain ⟨kl,size,dH,s0,s4,mv,pw,s,s3,hs0,hs1,hsw,hp0,hp1⟩:=h;have hden: ∀(n k' s':Int) (x y:Sg) (sl:Value),n=l.length→0≤k'→k'≤64→0≤s'→s'<18446744073709551616→x.ok→(ai 0).den (eG n k' s' x y sl)=l.length∧(ai 1).den (eG n k' s' x y sl)=k'∧(aP 2).den (eG n k' s' x y sl)=s'∧(aP 3).den (eG n k' s' x y sl)=x.bB∧(bV 4).den (eG n k' s' x y sl)=x.len:=by
    intro n k' s' x y sl h1 h2 h3 h4 h5 h6;subst h1;exact ⟨lU (by show (0:Int)≤l.length;omega) (by show ((l.length:Nat):Int)<_;omega),lU h2 (by show k'<_;omega),lq h4 h5,lq h6.1 h6.2.1,xw h6.2.2.1 h6.2.2.2⟩
  by_cases hkl:k<l.length
  · rcases hr with h0|⟨R,o,rfl,hr⟩
    · rw [h0] at hkl;simp at hkl
    have Lj:=tO hr (by intro h0;rw [h0] at hkl;simp at hkl);have hrw:w.rangeAt R o (dA l):=aX hr (mv.block R Lj);have hx:=xq hrw k hkl;have hxo:=hok l[k] (yaA hkl);rw [ybx hkl] at hsw;generalize hX:l[k]=X at hx hxo hsw;have CX:=hxo;obtain ⟨Uk,xa1,Ul,Um⟩:=hxo;rw [iM] at hsw;have hwl:X.len≠0→IntKind.wrap .u64 (X.len-1)=X.len-1:=fun h=>iN (by omega) (by omega);have qW:IntKind.wrap .u64 (X.bB+(X.len-1))=(X.bB+(X.len-1))%18446744073709551616:=Xi _;have hws:IntKind.wrap .u64 (s+X.len)=s+X.len:=iN (by omega) (by omega);have hkk:IntKind.wrap .i64 ((k:Int)+1)=((k+1:Nat):Int):=by rw [dV (by omega) (by omega)];omega
    have fin: ∀ {a':Act} {w':World},a'.tmps.size=71→a'.defers= []→Below w.heap.size w w'→([0,3,4].map fun t=>a'.tmps.getD t undef)= [.slice (some ⟨R,o,none⟩) l.length c,.int .u64 (s+X.len),.int .i64 (k+1:Nat)]→
        iM X.wr (s+X.len) (l.drop (k+1))=iM false 0 l→k<l.length∧FU l (some ⟨R,o,none⟩) c w0 (k+1) a' w':=fun {a' w'} q1 q2 q5 q8 q9=>by
      simp only [yaU,ybM,ybb,ybq] at q8;obtain ⟨t0,t3,t4⟩:=q8;refine ⟨hkl,⟨by omega,q1,q2,t0,t4,mv.trans (q5.mono mv.size),X.wr,s+X.len,t3,by omega,by push_cast;omega,q9,by omega,fun i hi=> ?_⟩⟩;have:k=i:=by omega
      subst this;exact ⟨hkl,by rw [hX]⟩
    rcases ybB k with hk0|hk0
    · subst hk0;have hpw:=hp0 rfl;subst hpw;obtain ⟨d0,d1,d2,d3,d4⟩:=hden l.length 0 s X X (.slice (some ⟨R,o,none⟩) l.length c) rfl (by omega) (by omega) hs0 (by omega) CX;have hv0:(eG l.length 0 s X X (.slice (some ⟨R,o,none⟩) l.length c)).v 0= .slice (some ⟨R,o,none⟩) l.length c:=rfl;have hb0:(eG l.length 0 s X X (.slice (some ⟨R,o,none⟩) l.length c)).b 0=X.wr:=rfl;generalize eG l.length 0 s X X (.slice (some ⟨R,o,none⟩) l.length c)=ρ at*;have hj1:cB [(R,o)] 1=some ⟨R,o,0,none⟩:=rfl;have hsx:Dw.R ρ (cB [(R,o)]) (mZ [(.lit 0,1)]) (.slice (some ⟨R,o,none⟩) l.length c):=by
        have:Dw.R ρ (cB [(R,o)]) (mZ [(.lit 0,1)]) (ρ.v 0):=⟨rfl,_,_,_,hv0,d0.symm,⟨R,o,_,0,rfl,hj1,rfl,rfl,hkl,rfl⟩,trivial⟩
        rwa [hv0] at this
      refine ybu (oN (ρ:=ρ) (K:=fun _=>False) (g:=bO.none) (bl:= [(R,o)]) mixed ztE zwl (fun b h=>h.elim)
        ⟨rG hx (by unfold Sg.cells;simp) (ay (aO d3) (ay (aO d4) (ay (dQ hb0) RL.nil))) (fun h=>h),trivial⟩
        ⟨fun h=>(by cases h),trivial⟩ ja trivial trivial trivial size dH ?_ (bH.2 ⟨by rw [fD,d0,bF];simp only [yaL];omega,zap.2 trivial⟩)) fun ex a' w' hh=> ?_
      · intro t ht;simp only [Iy,yaj,yaq,yaZ] at ht;rcases ht with rfl|rfl|rfl
        · rw [s0];exact hsx
        · rw [s3];exact aO d2
        · rw [s4];exact aO rfl
      · obtain ⟨q,hq,hto,lf,hlf,rfl,hsz,j,hdf,he⟩:=hh;have hbl:=j4 he (fun _ h=>h);unfold ZI at hq;simp only [yaj,yaq,yaZ] at hq;rcases hq with rfl|rfl|rfl
        all_goals
          simp only [bH,zap,QG,fD,j6,iL,den_add,bF,d0,d1,d2,d3,d4,yaL,yaR,ycC,yci,ne_eq,ybq] at hto;cases hlf;have hs:=jZ he.ret
        · exact ⟨hsz,hdf,mv.trans (hbl.mono mv.size),.inl ⟨rfl,by rw [←hsw,yak (by omega)],by simpa [AV.bK,AV.val,bF] using hs⟩⟩
        · obtain ⟨t1,t2⟩:=hto;rw [hwl t1,qW] at t2;exact ⟨hsz,hdf,mv.trans (hbl.mono mv.size),.inl ⟨rfl,by rw [←hsw,yak (by omega)],by simpa [AV.bK,AV.val,bF] using hs⟩⟩
        · obtain ⟨t1,t2⟩:=hto;rw [hwl t1,qW] at t2;refine fin hsz hdf hbl ?_ ?_
          · rw [hs];simp only [AV.bK,AV.val,d2,d4,hv0,den_add,bF,hws];rfl
          · rw [←hsw,yah (by rintro (h|h|⟨h,_⟩);omega;omega;cases h)]
    · obtain ⟨i,rfl⟩: ∃i,k=i+1:=⟨k-1,by omega⟩;obtain ⟨hil,hpw⟩:=hp1 i rfl;have hy:=xq hrw i hil;have qY:=hok l[i] (yaA hil);generalize hY:l[i]=Y at hy qY hpw;subst hpw;have hk1:IntKind.wrap .i64 (((i+1:Nat):Int)-1)=(i:Int):=by rw [dV (by omega) (by omega)];omega
      obtain ⟨d0,d1,d2,d3,d4⟩:=hden l.length (i+1:Nat) s X Y (.slice (some ⟨R,o,none⟩) l.length c) rfl (by omega) (by omega) hs0 (by omega) CX;have hv0:(eG l.length (i+1:Nat) s X Y (.slice (some ⟨R,o,none⟩) l.length c)).v 0= .slice (some ⟨R,o,none⟩) l.length c:=rfl;have hb0:(eG l.length (i+1:Nat) s X Y (.slice (some ⟨R,o,none⟩) l.length c)).b 0=X.wr:=rfl;have hb1:(eG l.length (i+1:Nat) s X Y (.slice (some ⟨R,o,none⟩) l.length c)).b 1=Y.wr:=rfl;have d5:(aP 5).den (eG l.length (i+1:Nat) s X Y (.slice (some ⟨R,o,none⟩) l.length c))=Y.bB:=lq qY.1 qY.2.1;have d6:(bV 6).den (eG l.length (i+1:Nat) s X Y (.slice (some ⟨R,o,none⟩) l.length c))=Y.len:=xw qY.2.2.1 qY.2.2.2;generalize eG l.length (i+1:Nat) s X Y (.slice (some ⟨R,o,none⟩) l.length c)=ρ at*;have hj1:cB [(R,o+3*(i+1)),(R,o+3*i)] 1=some ⟨R,o+3*(i+1),0,none⟩:=rfl;have hj2:cB [(R,o+3*(i+1)),(R,o+3*i)] 2=some ⟨R,o+3*i,0,none⟩:=rfl;have hsx:Dw.R ρ (cB [(R,o+3*(i+1)),(R,o+3*i)]) (mZ [(ai 1,1),(.bin .sub .i64 (ai 1) (.lit 1),2)]) (.slice (some ⟨R,o,none⟩) l.length c):=by
        have:Dw.R ρ (cB [(R,o+3*(i+1)),(R,o+3*i)]) (mZ [(ai 1,1),(.bin .sub .i64 (ai 1) (.lit 1),2)]) (ρ.v 0):=
          ⟨rfl,_,_,_,hv0,d0.symm,⟨R,o,_,i+1,rfl,hj1,rfl,d1,hkl,rfl⟩,⟨R,o,_,i,rfl,hj2,rfl,by rw [iL,d1,bF,hk1];rfl,hil,rfl⟩,trivial⟩
        rwa [hv0] at this
      refine ybu (oN (ρ:=ρ) (K:=fun _=>False) (g:=bO.none) (bl:= [(R,o+3*(i+1)),(R,o+3*i)]) mixed ztC zwk (fun b h=>h.elim)
        ⟨rG hx (by unfold Sg.cells;simp) (ay (aO d3) (ay (aO d4) (ay (dQ hb0) RL.nil))) (fun h=>h),rG hy (by unfold Sg.cells;simp) (ay (aO d5) (ay (aO d6) (ay (dQ hb1) RL.nil))) (fun h=>h),trivial⟩
        ⟨fun h=>(by cases h),fun h=>(by cases h),trivial⟩ ja trivial trivial trivial size dH ?_ (bH.2 ⟨by rw [fD,d0,d1];simp only [yaL];omega,bH.2 ⟨by rw [rO,d1,bF];simp only [yaL];omega,zap.2 trivial⟩⟩)) fun ex a' w' hh=> ?_
      · intro t ht;simp only [Iw,yaj,yaq,yaZ] at ht;rcases ht with rfl|rfl|rfl
        · rw [s0];exact hsx
        · rw [s3];exact aO d2
        · rw [s4];exact aO d1
      · obtain ⟨q,hq,hto,lf,hlf,rfl,hsz,j,hdf,he⟩:=hh;have hbl:=j4 he (fun _ h=>h);unfold ZG at hq;simp only [yaj,yaq,yaZ] at hq;rcases hq with rfl|rfl|rfl|rfl|rfl
        all_goals
          simp only [bH,zap,QG,fD,j6,iL,den_add,bF,d0,d1,d2,d3,d4,hb0,hb1,yaL,yaR,ycC,yci,ne_eq,ybq] at hto;cases hlf;have hs:=jZ he.ret
        · exact ⟨hsz,hdf,mv.trans (hbl.mono mv.size),.inl ⟨rfl,by rw [←hsw,yak (by omega)],by simpa [AV.bK,AV.val,bF] using hs⟩⟩
        · obtain ⟨t1,t2⟩:=hto;rw [hwl t1,qW] at t2;exact ⟨hsz,hdf,mv.trans (hbl.mono mv.size),.inl ⟨rfl,by rw [←hsw,yak (by omega)],by simpa [AV.bK,AV.val,bF] using hs⟩⟩
        · exact ⟨hsz,hdf,mv.trans (hbl.mono mv.size),.inl ⟨rfl,by rw [←hsw,yak (.inr (.inr ⟨hto.2.2.1,hto.2.2.2⟩))],by simpa [AV.bK,AV.val,bF] using hs⟩⟩
        · obtain ⟨t1,t2,t3,t4⟩:=hto;rw [hwl t1,qW] at t2;refine fin hsz hdf hbl ?_ ?_
          · rw [hs];simp only [AV.bK,AV.val,d1,d2,d4,hv0,den_add,bF,hws,hkk]
          · rw [←hsw,yah (by rintro (h|h|⟨h,h'⟩);omega;omega;rw [t4] at h';cases h')]
        · obtain ⟨t1,t2,t3⟩:=hto;rw [hwl t1,qW] at t2;refine fin hsz hdf hbl ?_ ?_
          · rw [hs];simp only [AV.bK,AV.val,d1,d2,d4,hv0,den_add,bF,hws,hkk]
          · rw [←hsw,yah (by rintro (h|h|⟨h,h'⟩);omega;omega;rw [t3] at h;cases h)]
  · have hkk:k=l.length:=by omega
    subst hkk;rw [List.drop_length,iM] at hsw;obtain ⟨d0,d1,d2,d3,d4⟩:=hden l.length l.length s ⟨0,0,false⟩ ⟨0,0,false⟩ (.slice sa l.length c) rfl (by omega) (by omega) hs0 (by omega) ⟨by decide,by decide,by decide,by decide⟩;have hv0:(eG l.length l.length s ⟨0,0,false⟩ ⟨0,0,false⟩ (.slice sa l.length c)).v 0= .slice sa l.length c:=rfl;generalize eG l.length l.length s ⟨0,0,false⟩ ⟨0,0,false⟩ (.slice sa l.length c)=ρ at*;refine ybu (oN (ρ:=ρ) (K:=fun _=>False) (g:=bO.none) (bl:= []) mixed ztA zwj (fun b h=>h.elim) trivial trivial ja trivial trivial trivial size dH ?_ (bH.2 ⟨by rw [fD,d0,d1];simp,zap.2 trivial⟩)) fun ex a' w' hh=> ?_
    · intro t ht;simp only [Iu,yaj,yaq,yaZ] at ht;rcases ht with rfl|rfl|rfl
      · rw [s0];exact zyz hv0 d0
      · rw [s3];exact aO d2
      · rw [s4];exact aO d1
    · obtain ⟨q,hq,hto,lf,hlf,rfl,hsz,j,hdf,he⟩:=hh;have hbl:=j4 he (fun _ h=>h);unfold ZE at hq;simp only [yaj,yaq,yaZ] at hq;subst hq;cases hlf;have hs:=jZ he.ret;exact ⟨hsz,hdf,mv.trans (hbl.mono mv.size),.inr ⟨rfl,s,hsw.symm,by simpa [AV.bK,AV.val,d2] using hs,hs0,by omega⟩⟩
theorem Tryz.ze {fn:Func} {t:Tmp} {a:Act} {w:World} {v:Value} {Post:Ending→World→Prop} (hd:a.defers= []) (h:fn.results= #[.tmp t]) (hv:a.tmps.getD t undef=v) (hp:Post (.returned v) w):bodyPost prog fn Post .ret a w:=
 yap (v:=v) (by
  have hv':a.tmps[t]?.getD undef=v:=by simpa using hv
  simp [results,h,hv']) hd hp
set_option maxRecDepth 100000 in
theorem Tryz.Yr {A:Nat→Prop} {w:World} {v:Value} {l:List Sg} (h:bC A w v l):
  Calls prog 123 #[v] w fun e w'=>e= .returned (.int .i64 (gJ l))∧Below w.heap.size w w':=by
 obtain ⟨sa,c,rfl,hok,hr⟩:=h;unfold gJ;by_cases hlen:64<l.length
 ·rw [yak hlen];go_enter func123,ntmps123;go_wp2;go_ret;exact ⟨rfl,yab _ _⟩
 ·rw [yah hlen];have hr':l= []∨ ∃R o,sa=some ⟨R,o,none⟩∧w.rangeAt R o (dA l):=hr.imp_right fun ⟨R,o,e,_,hr⟩=>⟨R,o,e,hr⟩;go_enter func123,ntmps123;go_wp2;refine mr (c':= .loop (bS prog [0,0,1,0,1,1,1,123])) (by kernel_rfl) ?_;refine IL (fun k a w'=>FU l sa c w k a w') (fun k=>l.length-k) (fun k a w' hI=>ybu (ztH hI (by omega) hok hr') fun ex a' w2 hh=> ?_) 0 _ _ ?_
  ·cases ex with
   | normal=>exact ⟨k+1,by omega,hh.2⟩
   | ret=>
    obtain ⟨hsz,hdf,hb,⟨_,hV,h2⟩|⟨h,_⟩⟩:=hh
    ·exact ze (fn:=f123) (Post:=fun e w'=>e= .returned (.int .i64 (iM false 0 l))∧RowKit.Below w.heap.size w w') hdf rfl h2 ⟨by rw [hV],hb⟩
    ·cases h
   | exit i=>
    obtain ⟨hsz,hdf,hb,⟨h,_⟩|⟨h,s,hV,h3,hs0,hs1⟩⟩:=hh
    ·cases h
    ·cases h;simp only [Exit.inBlock,Exit.then,yak];rename_i K hK;refine hK _ _ (mr (c':=bS prog [1,1,1,1,123]) (by kernel_rfl) ?_);have d2:(aP 2).den (eG 0 0 s ⟨0,0,false⟩ ⟨0,0,false⟩ undef)=s:=lq hs0 hs1;generalize eG 0 0 s ⟨0,0,false⟩ ⟨0,0,false⟩ undef=ρ at*;refine ybu (oN (ρ:=ρ) (K:=fun _=>False) (g:=bO.none) (bl:= []) mixed zty zwi (fun b h=>h.elim) trivial trivial ja trivial trivial trivial hsz hdf ?_ (zap.2 trivial)) fun ex a3 w3 hh=> ?_
     ·intro t ht;simp only [Ir,yaj,yaq,yaZ] at ht;subst ht;rw [h3];exact aO d2
     ·obtain ⟨q,hq,hto,lf,hlf,rfl,Dt,j,R3,he⟩:=hh;have hb3:=j4 he (fun _ h=>h);unfold ZX at hq;simp only [yaj,yaq,yaZ] at hq;rcases hq with rfl|rfl
      all_goals
       simp only [bH,zap,zx,d2,bF,yaL,yaR,ybq] at hto;cases hlf;have h2:=jZ he.ret;simp only [AV.bK,AV.val,bF,yaU,ybM,ybb,ybq] at h2
      ·exact ze (fn:=f123) (Post:=fun e w'=>e= .returned (.int .i64 (iM false 0 l))∧RowKit.Below w.heap.size w w') R3 rfl h2 ⟨by rw [hV,yak (by omega)],hb.trans (hb3.mono hb.size)⟩
      ·exact ze (fn:=f123) (Post:=fun e w'=>e= .returned (.int .i64 (iM false 0 l))∧RowKit.Below w.heap.size w w') R3 rfl h2 ⟨by rw [hV,yah (by omega)],hb.trans (hb3.mono hb.size)⟩
   | _=>obtain ⟨hsz,hdf,hb,⟨h,_⟩|⟨h,_⟩⟩:=hh<;>cases h
  ·exact ⟨yar _,rfl,rfl,rfl,rfl,yab _ _,false,0,rfl,by decide,by decide,rfl,fun _=>rfl,fun i hi=>(by omega)⟩
open Go.Maps Go.Sort
def Tryz.bA (ids:List Int):List Value:=ids.map fun x=> .int .i64 x
def Tryz.af (t:TypeId) (sz:Nat) (w:World) (b2:Nat) (v:Value) (n:Nat) (cs:List Value):Prop:=w.ownsRow b2 t sz v n cs
theorem Tryz.af.kept {t:TypeId} {sz n:Nat} {w w':World} {b2:Nat} {v:Value} {cs:List Value} (h:af t sz w b2 v n cs) (hb: ∀b,v.ownBlock=some b→w'.heap[b]? =w.heap[b]?):af t sz w' b2 v n cs:=by
 obtain ⟨h1,h2⟩:=h;refine ⟨h1,?_⟩;rcases h2 with h2|⟨G,cap,cur,e,h3,h4,h5⟩
 ·exact .inl h2
 ·exact .inr ⟨G,cap,cur,e,h3,by rw [hb G (by rw [e];rfl)];exact h4,h5⟩
theorem Tryz.af.lt {t:TypeId} {sz n:Nat} {w:World} {b2:Nat} {v:Value} {cs:List Value} (h:af t sz w b2 v n cs): ∀b,v.ownBlock=some b→b2≤b∧b<w.heap.size:=fun b hb=>by
 obtain ⟨h1,h2⟩:=h;rcases h2 with ⟨rfl,_⟩|⟨G,cap,cur,rfl,h3,h4,h5⟩
 ·cases hb
 ·cases hb;exact ⟨h3,(yax.1 h4).1⟩
theorem Tryz.af.one {t:TypeId} {sz n:Nat} {w:World} {b2:Nat} {v:Value} {cs:List Value} (h:af t sz w b2 v n cs):v.oneCell'=true:=by
 obtain ⟨h1,h2⟩:=h;rcases h2 with ⟨rfl,h2⟩|⟨G,cap,cur,rfl,_⟩<;>rfl
theorem Tryz.af.mono {t:TypeId} {sz n:Nat} {w:World} {b1 b2:Nat} {v:Value} {cs:List Value} (h:af t sz w b2 v n cs) (hb:b1≤b2):af t sz w b1 v n cs:=by
 obtain ⟨h1,h2⟩:=h;refine ⟨h1,?_⟩;rcases h2 with h2|⟨G,cap,cur,e,h3,h4⟩
 ·exact .inl h2
 ·exact .inr ⟨G,cap,cur,e,yas hb h3,h4⟩
theorem Tryz.af.nil (t:TypeId) (sz:Nat) (w:World) (b2:Nat):af t sz w b2 (.slice none 0 0) 0 []:=⟨by simp,.inl ⟨rfl,rfl⟩⟩
theorem Tryz.af.row {t:TypeId} {sz n:Nat} {w:World} {b2:Nat} {v:Value} {cs:List Value} (h:af t sz w b2 v n cs): ∃sa c,v= .slice sa n c∧(cs= []∨ ∃G,sa=some ⟨G,0,none⟩∧v.ownBlock=some G∧w.rangeAt G 0 cs):=by
 obtain ⟨h1,h2⟩:=h;rcases h2 with ⟨rfl,h2⟩|⟨G,cap,cur,rfl,h3,h4,h5,h6,h7,h8⟩
 ·refine ⟨none,0,by rw [h2],.inl ?_⟩;rw [h2,ydr] at h1;exact ybG.1 h1
 ·refine ⟨_,cap,rfl,.inr ⟨G,rfl,rfl,fun i y hy=> ?_⟩⟩;have hlt:i<cs.length:=(yat.1 hy).1;rw [←h8] at hy;rw [ybD (by omega)] at hy;simp only [World.cell?,h4,yaf];simpa using hy
structure Tryz.Pt where
 aG:Int
 a:Int
 ln:Int
 f:Int
 nx:Int
def Tryz.Pt.cells (p:Pt):List Value:= [.int .i64 p.aG,.int .u64 p.a,.int .u32 p.ln,.int .u16 p.f,.int .u16 p.nx]
def Tryz.dY (ps:List Pt):List Value:=ps.flatMap Pt.cells
def Tryz.zxx (n k i e x9 x10:Int) (x:Sg) (iv sv ov:Value):Val:=dO [n,k,i,x.bB,x.len,0,0,e,0,x9,x10] [x.wr] [iv,sv,ov]
structure Tryz.SpD (ρ:Val) (n k i e x9 x10:Int) (x:Sg) (iv sv ov:Value):Prop where
 d0:(ai 0).den ρ=n
 d1:(ai 1).den ρ=k
 d2:(ai 2).den ρ=i
 d3:(aP 3).den ρ=x.bB
 d4:(bV 4).den ρ=x.len
 i7:ρ.i 7=e
 i9:ρ.i 9=x9
 i10:ρ.i 10=x10
 b0:ρ.b 0=x.wr
 v0:ρ.v 0=iv
 v1:ρ.v 1=sv
 v2:ρ.v 2=ov
theorem Tryz.spD {n k i e x9 x10:Int} {x:Sg} {iv sv ov:Value} (hn:0≤n∧n<64000) (hk:0≤k∧k<64000) (hi:0≤i∧i<64000) (hx:x.ok):SpD (zxx n k i e x9 x10 x iv sv ov) n k i e x9 x10 x iv sv ov:=
 ⟨lU hn.1 (by show n<_;omega),lU hk.1 (by show k<_;omega),lU hi.1 (by show i<_;omega),lq hx.1 hx.2.1,xw hx.2.2.1 hx.2.2.2,rfl,rfl,rfl,rfl,rfl,rfl,rfl⟩
theorem Tryz.zx0:(⟨0,1,false⟩:Sg).ok:=⟨by decide,by decide,by decide,by decide⟩
def Tryz.rQ (l:List Sg):Int:=if gJ l=0∧l.length=0 then 2 else gJ l
theorem Tryz.Pz {A:Nat→Prop} {w:World} {v:Value} {l:List Sg} (h:bC A w v l) (hl:l.length≤60000):
  Calls prog 124 #[v] w fun e w'=>e= .returned (.int .i64 (rQ l))∧Below w.heap.size w w':=by
 have h0:=h;obtain ⟨sa,c,rfl,hok,hr⟩:=h;obtain ⟨F0,hF0,hF1⟩:=zpn h0;have D:=spD (n:=l.length) (k:=0) (i:=0) (e:=gJ l) (x9:=0) (x10:=0) (x:=⟨0,1,false⟩) (iv:=undef) (sv:= .slice sa l.length c) (ov:=undef) (by omega) (by omega) (by omega) zx0;generalize zxx l.length 0 0 (gJ l) 0 0 ⟨0,1,false⟩ undef (.slice sa l.length c) undef=ρ at D;refine ya7 (mR (ρ:=ρ) (K:=fun _=>False) (g:=TT sa l) (bl:= []) (vals:= [.slice sa l.length c]) mixed zwg zxT (fun b h=>h.elim) trivial trivial ⟨F0,hF0,hF1⟩
  ⟨Bj (Dw.enters_of (by kernel_rfl)) (by decide) [.slice sa l.length c] (.int .i64 (gJ l)) (fun j=>ay (zxA D.v1 D.d0) RL.nil) (fun j=>aO D.i7) fun w F q h=>Yr (xS.v h hok c),trivial⟩ (ay (zxA D.v1 D.d0) RL.nil) (zap.2 trivial)) fun e w' hh=> ?_
 obtain ⟨p,hpm,hto,lf,hlf,j,he⟩:=hh;have hb:=j4 he (fun _ h=>h);unfold zvf at hpm;simp only [yaj,yaq,yaZ] at hpm;unfold rQ;rcases hpm with rfl|rfl|rfl
 all_goals
  simp only [bH,zap,QG,P5,bF,D.i7,D.d0,ycC,yci,ne_eq,ybq] at hto;cases hlf
 ·rw [yak ⟨hto.1,by omega⟩];exact ⟨he.ret,hb⟩
 ·rw [yah (by omega)];exact ⟨he.ret.trans (by simp only [AV.val,P5,D.i7]),hb⟩
 ·rw [yah (fun h=>hto h.1)];exact ⟨he.ret.trans (by simp only [AV.val,P5,D.i7]),hb⟩
def Tryz.bytesOf (v:Int) (n:Nat):List Int:=(List.range n).map fun i=>v/2^(8*i)%256
theorem Tryz.UJ (v:Int) (n:Nat):bytesOf v (n+1)=bytesOf v n++ [v/2^(8*n)%256]:=by simp [bytesOf,ycF]
theorem Tryz.zb (v:Int) (n:Nat):(bytesOf v n).length=n:=by simp [bytesOf]
theorem Tryz.znn (v:Int) (n:Nat): ∀x∈bytesOf v n,0≤x∧x<256:=fun x hx=>by
 obtain ⟨i,_,rfl⟩:=yaY.1 hx;exact ⟨ybI _ (by decide),ybC _ (by decide)⟩
def Tryz.aN (xs:List Int):List Value:=xs.map fun x=> .int .u8 x
theorem Tryz.Qt:(prog.info? 5).map (fun i=>(i.zero,i.size,i.bytes))=some (some (.int .u8 0),1,1):=by kernel_rfl
set_option maxRecDepth 100000 in
theorem Tryz.ztk {w:World} {b2:Nat} {b:Value} {xs:List Int} {v:Int} {n:Nat} (h:af 5 1 w b2 b xs.length (aN xs)) (hb2:b2≤w.heap.size) (hn:n≤8) (hx:xs.length≤10000):
    Calls prog 84 #[b,.int .u64 v,.int .i64 n] w fun e w'=> ∃u,e= .returned u∧af 5 1 w' b2 u (xs++bytesOf v n).length (aN (xs++bytesOf v n))∧Below b2 w w'∧Dw.Mv (fun y=>b.ownBlock=some y) w w'∧(∀y,u.ownBlock=some y→b.ownBlock=some y∨w.heap.size≤y):=by
  have hinfo:=Qt;cases hi:prog.info? 5 with
  | none=>rw [hi] at hinfo;cases hinfo
  | some i=>
  rw [hi] at hinfo;simp only [yaJ,ybH,ycX] at hinfo;obtain ⟨i1,i2,i3⟩:=hinfo;go_enter func84,ntmps84;go_wp2;go_loopw [0,7] (fun c k wr=> ∃(q:Nat) (cv:Value),cv=c∧q≤n∧k= .int .i64 q∧af 5 1 wr b2 cv (xs++bytesOf v q).length (aN (xs++bytesOf v q))∧Below b2 w wr∧Dw.Mv (fun y=>b.ownBlock=some y) w wr∧(∀y,cv.ownBlock=some y→b.ownBlock=some y∨w.heap.size≤y)) (fun _ k _=>n-(RowKit.intOf k).toNat)
  case atStart=>exact ⟨0,_,rfl,yar _,rfl,by simpa [bytesOf] using h,yab _ _,Dw.Mv.refl _ _,fun y hy=> .inl hy⟩
  case round=>
    obtain ⟨q,cv,hcv,hq,rfl,ho,hb,hm,hown⟩:=hrel;subst hcv;by_cases dx:q<n
    · have hw8:=wrap_u8 (v/2^(8*q));have hsz:=hb.size;have hol:=af.lt ho;have ho2: ∀t,(wr.alloc (.cells #[.int .u8 (v/2^(8*q)%256)] t)).ownsRow b2 5 1 cv (xs++bytesOf v q).length (aN (xs++bytesOf v q)):=fun t=>af.kept ho fun b e=>(ydv _ _).2 _ (hol b e).2;have hnew: ∀t j u,([Value.int .u8 (v/2^(8*q)%256)]:List Value)[j]? =some u→(wr.alloc (.cells #[.int .u8 (v/2^(8*q)%256)] t)).cell? ((⟨wr.heap.size,0,none⟩:Addr).add j)=some u:=fun t j u hu=>by
        rw [Dw.addr_add];exact (Cl.new wr #[.int .u8 (v/2^(8*q)%256)] t).cell (0+j) u (by rw [yaf];exact hu)
      have hlen:(xs++bytesOf v q).length≤10010:=by rw [yaC,zb];omega
      go_wp2_with (first
        | (at_builtin;go_loud (refine ybk _ rfl _ _ 59 rfl b2 5 i _ 1 1 (by kernel_rfl) hi i1 i2 i3 rfl (by decide) cv _ (aN (xs++bytesOf v q)) rfl (ho2 _) ⟨wr.heap.size,0,none⟩ 1 1 [.int .u8 (v/2^(8*q)%256)] rfl rfl (hnew _) (by intro y hy;rw [yaI] at hy;subst hy;rfl) (by unfold maxLen;omega) (by omega) (by simp;omega) ?_);intro u w' h2 h3 h4 h5;go_frame)
        | go_in)
      refine ⟨⟨q+1,u,rfl,by omega,by push_cast;rfl,?_,?_,?_,?_⟩,by simp only [RowKit.intOf];omega⟩
      · have e1:xs++bytesOf v (q+1)=(xs++bytesOf v q)++ [v/2^(8*q)%256]:=by rw [UJ,ybT]
        have e2:aN (xs++bytesOf v (q+1))=aN (xs++bytesOf v q)++ [.int .u8 (v/2^(8*q)%256)]:=by rw [e1];simp [aN]
        rw [e2,e1,yaC];exact h2
      · have hsz2:=h3.size;simp only [fw] at hsz2;exact ⟨h3.os.trans hb.os,h3.tape.trans hb.tape,h3.output.trans hb.output,by omega,fun y hy=>(h3.block y (by simp only [fw];omega) (fun e=>by have:=(hol y e.symm).1;omega)).trans (((ydv _ _).2 y (by omega)).trans (hb.block y hy))⟩
      · have hsz2:=h3.size;simp only [fw] at hsz2;have hms:=hm.size;exact ⟨h3.os.trans hm.os,h3.tape.trans hm.tape,h3.output.trans hm.output,by omega,fun y hy hn=>(h3.block y (by simp only [fw];omega) (fun e=>by
          rcases hown y e.symm with h|h
          · exact hn h
          · omega)).trans (((ydv _ _).2 y (by omega)).trans (hm.block y hy hn))⟩
      · intro y hy;have hms:=hm.size;rcases h5 with h5|h5
        · exact hown y (h5▸hy)
        · rw [hy] at h5;cases h5;right;simp only [fw];omega
    · have hqq:q=n:=by omega
      subst hqq;go_wp2;go_ret;exact ⟨_,rfl,ho,hb,hm,hown⟩
def Tryz.Ed (k:Nat) (s:AV) (e:SE) (n:Int):bL:=⟨84,[s,.int .u64 e,.int .i64 (.lit n)],k,k+2,1,.opq (k+2) none,k+1⟩
def Tryz.zxU:List bL:= [Ed 0 .dz (aP 3) 8,Ed 1 (.opq 2 none) (bV 4) 4,Ed 2 (.opq 3 none) (fQ 5) 2,Ed 3 (.opq 4 none) (fQ 6) 2]
def Tryz.TR (b2:Nat) (L:Nat→List Int):bO where
 fact k q F w:=match k with|0=>True|k+1=> ∃u,q (k+2)=some u∧af 5 1 w b2 u (L (k+1)).length (aN (L (k+1)))∧ ∀b,u.ownBlock=some b→F b
 loc:=fun k q q' F w w' h hq hb hs=>by
  match k,h with
  | 0,_=>trivial
  | k+1,⟨u,h7,h8,h9⟩=>exact ⟨u,hq _ _ h7,af.kept h8 fun b e=>hb b (h9 b e),h9⟩
theorem Tryz.JS {ρ:Val} {w0:World} {K:Nat→Prop} {L:Nat→List Int} {k n:Nat} {s:AV} {e:SE} (hs:(k=0∧s= .dz)∨(0<k∧s= .opq (k+1) none)) (h0:L 0= []) (hL:L (k+1)=L k++bytesOf (e.den ρ) n) (hn:n≤8) (hl:(L k).length≤10000):
  Fs prog ρ w0 K (TR w0.heap.size L) (Ed k s e n):=by
 refine ⟨Dw.enters_of (by kernel_rfl),fun j w1 vals F m hv hnone hb hF hsz hf _=> ?_⟩;have hb:m=k+2:=hb (by show (1:Nat)≠0;decide);subst hb;obtain ⟨us,_,rfl,fH,hv⟩:=hv;obtain ⟨x1,_,rfl,e1,hv⟩:=hv;obtain ⟨x2,_,rfl,e2,hv⟩:=hv;have hv:_= []:=hv;subst hv;have e1:x1= .int .u64 (e.den ρ):=e1;have e2:x2= .int .i64 (n:Int):=e2;subst e1 e2;have hown:af 5 1 w1 w0.heap.size us (L k).length (aN (L k))∧ ∀b,us.ownBlock=some b→F b:=by
  rcases hs with ⟨rfl,rfl⟩|⟨hk,rfl⟩
  ·have:us= .slice none 0 0:=fH;subst this;rw [h0];exact ⟨af.nil _ _ _ _,fun b h=>by cases h⟩
  ·obtain ⟨k',rfl⟩: ∃k',k=k'+1:=⟨k-1,by omega⟩;obtain ⟨u,hq,ho,hF'⟩:=hf;have:us=u:=by
    obtain ⟨⟨Lq,hj,hu⟩,_⟩:=fH;unfold kP at hq;rw [hj] at hq;simp only [ycA] at hq;rw [hu] at hq;injection hq
   subst this;exact ⟨ho,hF'⟩
 obtain ⟨hown,Rq⟩:=hown;refine ya7 (ztk (v:=e.den ρ) hown hsz hn hl) fun en w' hh=> ?_;obtain ⟨u,rfl,hu,hbl,hmv,hou⟩:=hh;rw [←hL] at hu;refine ⟨_,[u],fun b=>F b∨u.ownBlock=some b,rfl,rfl,⟨⟨⟨0,0,0,some u⟩,?_,rfl⟩,af.one hu,fun _ h=>(by cases h)⟩,⟨u,Zo,hu,fun b hb=> .inr hb⟩,?_,hmv.mono fun b hb=>⟨Rq b hb,.inl (af.lt hown b hb).1⟩⟩
 ·show jq j (k+2) _ (k+2)=_;unfold jq;rw [yak ⟨yaa _,by simp⟩];simp
 ·rintro b (hb|hb)
  ·exact ⟨yae (hF b hb) hmv.size,.inl hb⟩
  ·refine ⟨(af.lt hu b hb).2,?_⟩;rcases hou b hb with h|h
   ·exact .inl (Rq b h)
   ·exact .inr h
def Tryz.Pt.bytes (p:Pt):List Int:=bytesOf p.a 8++bytesOf p.ln 4++bytesOf p.f 2++bytesOf p.nx 2
theorem Tryz.Pt.jv (p:Pt):p.bytes.length=16:=by simp [Pt.bytes,zb]
theorem Tryz.Pt.zT (p:Pt): ∀x∈p.bytes,0≤x∧x<256:=fun x hx=>by
 unfold Pt.bytes at hx;rw [ya2,ya2,ya2] at hx;rcases hx with ((h|h)|h)|h<;>exact znn _ _ x h
structure Tryz.Pt.ok (p:Pt):Prop where
 a:0≤p.a∧p.a<18446744073709551616
 ln:0≤p.ln∧p.ln<4294967296
 f:0≤p.f∧p.f<65536
 nx:0≤p.nx∧p.nx<65536
theorem Tryz.Vf: ∀(ps:List Pt) (k:Nat) (hk:k<ps.length) (j:Nat),j<5→(dY ps)[5*k+j]? =ps[k].cells[j]?
 | p::ps,0,_,j,hj=>by
  simp only [dY,ycc,ydt,yaf,List.getElem_cons_zero];rw [yaP (by simp [Pt.cells];omega)]
 | p::ps,k+1,hk,j,hj=>by
  have:=Vf ps k (by simpa using hk) j hj;simp only [dY,ycc,ycp] at this ⊢;rw [yaV (by simp [Pt.cells];omega),←this];congr 1;simp [Pt.cells];omega
theorem Tryz.BH {w:World} {G o:Nat} {ps:List Pt} (h:w.rangeAt G o (dY ps)) (k:Nat) (hk:k<ps.length):w.rangeAt G (o+5*k) ps[k].cells:=fun j v hv=>by
 have hj:j<5:=by
  have:=(yat.1 hv).1;simpa [Pt.cells] using this
 have:=h (5*k+j) v (by rw [Vf ps k hk j hj];exact hv);rw [show o+5*k+j=o+(5*k+j) by omega];exact this
structure Tryz.pE where
 q:Option Nat
 v:Value
 sz:Nat
 n:Nat
 cs:List Value
section
variable {X:Nat→Prop} {bX:Nat} {ρ:Val} {w0:World} {K:Nat→Prop} {S P L Bs B M N:Nat} {r:Tryz.Rg} {b2:Nat} {sk:Nat→Tryz.SS} {gk:Nat→Nat→Int} {rows:Nat→List Tryz.pE} {f:FuncId} {args:List AV} {res:AV} {k k':Nat}
end
end Go.Proofs
namespace Go.Proofs
open Go.Dw Go.RowKit Go.Maps Go.Sort
theorem Tryz.QT:(prog.info? 3).map (fun i=>(i.zero,i.size,i.bytes))=some (some (.int .i64 0),1,8):=by kernel_rfl
section
variable {ρ:Val} {w0:World} {K:Nat→Prop} {X:Nat→Prop} {bX:Nat} {S P L Bs B M N:Nat} {r:Tryz.Rg} {b2:Nat} {sk:Nat→Tryz.SS} {gk:Nat→Nat→Int} {rows:Nat→List Tryz.pE} {k k' q:Nat}
end
end Go.Proofs
namespace Go.Proofs
open Go.Dw Go.RowKit Go.Maps Go.Sort Go.Deep
structure Tryz.EqB (a b:Bool):Prop where
 eq:a=b
def Tryz.xR (w:World) (v:Value) (xs:List Int):Prop:=
 ∃ (sa:Option Addr) (c:Nat),v= .slice sa xs.length c∧(xs= []∨ ∃R o,sa=some ⟨R,o,none⟩∧w.rangeAt R o (bA xs))
theorem Tryz.zvo {w wr:World} {R o:Nat} {l:List Int} (hr:w.rangeAt R o (bA l)) (hb:Below w.heap.size w wr) {k:Nat} (hk:k<l.length):wr.cell? ⟨R,o+k,none⟩=some (.int .i64 l[k]):=by
 have h:=hr k (.int .i64 l[k]) (by simp [bA,hk]);exact (hb.cell (p:=⟨R,o+k,none⟩) (yan w _ h)).trans h
set_option maxRecDepth 100000 in
theorem Tryz.zqw {w:World} {v1 v2:Value} {l1 l2:List Int} (h1:xR w v1 l1) (h2:xR w v2 l2) (hl:l1.length<4000000) (hl2:l2.length<4000000):
  Calls prog 29 #[v1,v2] w fun e w'=>e= .returned (.bool (decide (l1=l2)))∧Below w.heap.size w w':=by
 obtain ⟨sa,c,rfl,hr⟩:=h1;obtain ⟨sb,d,rfl,hr2⟩:=h2;by_cases hlen:l1.length=l2.length
 ·obtain ⟨z,hz⟩: ∃z,EqB z (decide (l1=l2)):=⟨_,⟨rfl⟩⟩;rw [←hz.eq];obtain ⟨m,hm⟩: ∃m,m=l1.length:=⟨_,rfl⟩;rw [←hlen,←hm];have hm1:l1.length≤m∧m≤l1.length:=by omega
  have hm2:l2.length≤m∧m≤l2.length:=by omega
  clear hm hlen;go_enter func29,ntmps29;go_wp2_with fail;go_loopw [5] (fun i wr=>Below w.heap.size w wr∧ ∃k:Nat,k≤m∧i= .int .i64 k∧l1.take k=l2.take k) (fun i _=>m-(RowKit.intOf i).toNat)
  case atStart=>exact ⟨yab _ _,0,yar _,rfl,rfl⟩
  case round=>
   obtain ⟨hb,k,hk,rfl,hall⟩:=hrel;by_cases hkm:k<m
   ·have aaN:(k:Int)<m:=by omega
    have k1:k<l1.length:=by omega
    have k2:k<l2.length:=by omega
    rcases hr with hr|⟨R,o,rfl,hr⟩
    ·subst hr;simp at k1
    rcases hr2 with hr2|⟨R2,o2,rfl,hr2⟩
    ·subst hr2;simp at k2
    have f0:=zvo hr hb k1;have g0:=zvo hr2 hb k2;have ht:l1[k]=l2[k]→l1.take (k+1)=l2.take (k+1):=fun e=>by rw [ybv k1,ybv k2,hall,e]
    have hne:l1[k]≠l2[k]→ ¬l1=l2:=fun e q=>e (by subst q;rfl);clear hr hr2;generalize l1[k]=x1 at*;generalize l2[k]=x2 at*;by_cases he:x1=x2
    ·subst he;have ht:=ht rfl;clear hne;go_wp2_with fail;go_quiet (fail);go_wp2;exact ⟨⟨below_drewN hb _,k+1,by omega,by push_cast;rfl,ht trivial⟩,by simp only [RowKit.intOf];omega⟩
    ·have DC:=hz.eq;rw [yao (hne he)] at DC;subst DC;clear hz ht hne;have hbf:=beq_false_of_ne he;go_wp2_with fail;go_quiet (fail);go_wp2;go_ret;exact ⟨rfl,below_drewN hb _⟩
   ·have aaN: ¬(k:Int)<m:=by omega
    have:k=m:=by omega
    subst this;have:l1=l2:=by rw [yb4 hm1.1,yb4 hm2.1] at hall;exact hall
    have DC:=hz.eq;rw [yaH this] at DC;subst DC;clear hz;go_wp2;go_ret;exact ⟨rfl,hb⟩
 ·have hn: ¬l1=l2:=fun q=>hlen (by rw [q]);rw [yao hn];have hne: ¬(l1.length:Int)=l2.length:=by omega
  go_enter func29,ntmps29;go_wp2_with fail;go_ret;exact ⟨rfl,yab _ _⟩
end Go.Proofs
namespace Go.Proofs
open Go.Dw Go.RowKit Go.Maps Go.Sort
section
variable {X:Nat→Prop} {bX:Nat} {ρ:Val} {w0:World} {K:Nat→Prop} {S P L Bs B M N:Nat} {r:Tryz.Rg} {b2:Nat} {sk:Nat→Tryz.SS} {gk:Nat→Nat→Int} {rows:Nat→List Tryz.pE} {f:FuncId} {args:List AV} {res:AV} {k k':Nat}
end
end Go.Proofs
namespace Go.Proofs
open Go.Dw Go.RowKit Go.Maps Go.Sort Go.Deep
theorem Tryz.bU {fn:Func} {p u:Tmp} {ty:TypeId} (h:fn.results= #[.cell p ty,.tmp u]) (tmps:Array Value) (w:World) (b:Nat) (cs:List Value) (d:TypeDesc)
  (hp:tmps.getD p undef= .pointer (some ⟨b,0,none⟩)) (hg:w.rangeAt b 0 cs) (hu:prog.underlying ty=some d) (hd:d.isRow=true) (hi:(prog.info? ty).map (·.size)=some cs.length):
  (results fn tmps).run prog w= .ok (.tuple #[.agg cs.toArray,tmps.getD u undef]) w:=by
 have hp':tmps[p]?.getD undef= .pointer (some ⟨b,0,none⟩):=by simpa using hp
 simp [results,h,hp',asAddr,ydW w b 0 ty cs d hg hu hd hi]
end Go.Proofs
namespace Go.Proofs
open Go.Dw Go.RowKit Go.Maps Go.Sort
section
variable {X:Nat→Prop} {bX:Nat} {ρ:Val} {w0:World} {K:Nat→Prop} {S P L Bs B M N:Nat} {r:Tryz.Rg} {b2:Nat} {sk:Nat→Tryz.SS} {gk:Nat→Nat→Int} {rows:Nat→List Tryz.pE} {f:FuncId} {args:List AV} {res:AV} {k k':Nat}
end
end Go.Proofs
namespace Go.Proofs
open Go.Dw Go.RowKit Go.Maps Go.Sort
theorem Tryz.zp8 {P0:Program} (w:World) (base:Nat) (t ty e t0:TypeId) (i:TypeInfo) (z:Value) (size bytes:Nat) (ht:P0.underlying t=some (.slice e)) (hi:P0.info? e=some i) (hz:i.zero=some z)
  (hsize:i.size=size) (hby:i.bytes=bytes) (hzs:z.cells.size=size) (hsz:0<size)
  (v:Value) (n:Nat) (xs:List Value) (hown:w.ownsRow base t0 size v n xs)
  (a:Addr) (m c:Nat) (news:List Value) (hl:news.length=m*size) (hnews: ∀j u,news[j]? =some u→w.cell? (a.add j)=some u) (h1: ∀u∈news,u.oneCell'=true)
  (h63:n+m≤maxLen) (hbytes:(n+m)*bytes≤140737488355328) (hbase:base≤w.heap.size):
  ∃ v' w' t',(Builtin.append_ #[t,t] ty #[v,.slice (some a) m c]).run P0 w= .ok v' w'∧w'.ownsRow base t' size v' (n+m) (xs++news)∧w.grownBy w' v.ownBlock∧(v'.ownBlock=v.ownBlock∨v'.ownBlock=some w.heap.size):=by
 have hsmall:n+m≤9223372036854775807:=by simp only [maxLen] at h63;omega
 have hlen:(xs++news).length=(n+m)*size:=by rw [yaC,hown.1,hl,ybX]
 rcases hown.2 with ⟨rfl,rfl⟩|⟨g,cap,cur,rfl,hbg,hg,hnc,hcm,hcs,htake⟩
 ·obtain ⟨v',w',q1,q2,q3,_,q5⟩:=run_append_own_at (P:=P0) w base t ty e i z size bytes ht hi hz hsize hby hzs hsz (.slice none 0 0) 0 xs ⟨hown.1,.inl ⟨rfl,rfl⟩⟩ a m c news hl hnews h1 h63 hbytes hbase;exact ⟨v',w',e,q1,q2,q3,q5⟩
 ·subst hsize;subst hby;by_cases hroom:n+m≤cap
  ·have hfit:n*i.size+news.length≤cur.size:=by rw [hl,hcs,←ybX];exact ya9 _ hroom
   have hf:=run_firstCells_some (P:=P0) w i.size m a m c news hl hnews;have hst:=ydA P0 g (n*i.size) t0 news 0 cur w hg (by simpa using hfit) h1;simp only [yaF] at hst;have hr:(Builtin.append_ #[t,t] ty #[.slice (some ⟨g,0,none⟩) n cap,.slice (some a) m c]).run P0 w= .ok (.slice (some ⟨g,0,none⟩) (n+m) cap) (w.setRow g (cur.toList.take (n*i.size)++news++cur.toList.drop (n*i.size+news.length)).toArray):=by
    simp [Builtin.append_,run_underlying ht,sizeOf,typeInfo,hi,Builtin.lenOf,hroom,hf,Addr.add_lit,hst]
   refine ⟨_,_,t0,hr,⟨hlen,.inr ⟨g,cap,_,rfl,hbg,setRow_heap w g cur _ t0 _ hg,hroom,hcm,?_,?_⟩⟩,⟨rfl,rfl,rfl,by simp,fun k _ hk=>setRow_other w g k _ (fun e=>hk (by simp [Value.ownBlock,e]))⟩,Or.inl rfl⟩
   ·simp only [ycb,yaC,ya1,yb1,ybc];omega
   ·rw [htake,←hlen];exact ydP
  ·have holds: ∀j u,xs[j]? =some u→w.cell? ((⟨g,0,none⟩:Addr).add j)=some u:=hown.cells (g:=g) rfl;have hr:=run_append_grow (P:=P0) w t ty e i z ht hi hz ⟨g,0,none⟩ n cap xs hown.1 holds a m c news hl hnews (by omega) (by omega) (growslice_fits (by omega) hbytes);have hge:=grownCap_ge w (n+m) cap e;have hcm2:grownCap w (n+m) cap e≤maxLen:=grownCap_le_maxLen w (n+m) cap e h63;refine ⟨_,_,e,hr,⟨hlen,.inr ⟨w.heap.size,_,_,rfl,hbase,ydh w.drew _,hge,hcm2,?_,?_⟩⟩,⟨rfl,rfl,rfl,by simp,fun k hk _=>ydg w.drew _ (h:=hk)⟩,Or.inr rfl⟩
   ·simp only [ycV,ycb,size_zeroCells,hzs,hown.1,hl,←ybX];congr 1;omega
   ·simp only [Array.toList_append,ybT];rw [←ybT,←hlen];exact ydP
section
variable {X:Nat→Prop} {bX:Nat} {ρ:Val} {w0:World} {K:Nat→Prop} {S P L Bs B M N:Nat} {r:Tryz.Rg} {b2:Nat} {sk:Nat→Tryz.SS} {gk:Nat→Nat→Int} {rows:Nat→List Tryz.pE} {k k' q:Nat}
end
end Go.Proofs
namespace Go.Proofs
open Go.Dw Go.RowKit Go.Maps Go.Sort Go.Deep Go.ChangeShapes Go.WideShapes
section
variable {H:Type} {enc:TypeId×Value→H} {W:World} {sp:Nat→Bool} {held:Bool} {fuel:Nat}
theorem Tryz.Qm {α:Type} {p:Nat→α→Prop}: ∀n,(∀i,i<n→ ∃x,p i x)→ ∃l:List α,l.length=n∧ ∀(i:Nat) (hi:i<l.length),p i l[i]
 | 0,_=>⟨[],rfl,fun i hi=>absurd hi (ydF i)⟩
 | n+1,h=>by
  obtain ⟨l,hl,hp⟩:=Qm n fun i hi=>h i (by omega);obtain ⟨x,hx⟩:=h n (by omega);refine ⟨l++ [x],by simp [hl],fun i hi=> ?_⟩;by_cases hlt:i<l.length
  ·rw [List.getElem_append_left hlt];exact hp i hlt
  ·have e:i=n:=by simp at hi;omega
   subst e;simp only [List.getElem_append_right (by omega:l.length≤i),hl,yc4,List.getElem_singleton];exact hx
theorem Tryz.addr_add (b o n:Nat):(⟨b,o,none⟩:Addr).add n=⟨b,o+n,none⟩:=by
 unfold Addr.add;split
 ·rename_i h;rw [h];rfl
 ·rfl
theorem Tryz.Fh {α:Type} {l:List α} {i:Nat} (h:i<l.length):l[i]? =some l[i]:=yai h
set_option maxRecDepth 100000 in
theorem Tryz.zs6 {cs:List Value} {x:DataW H×List MemPlace} (h:DataW.trod enc prog W 0 sp held fuel 137 cs=some x): ∃s:Sg,cs=s.cells∧s.ok:=by
 obtain ⟨xs,n,rfl,rfl,hl,hx,hf⟩:=DataW.trod_struct underlying137 h;have hl:cs.length=3:=hl.trans (by kernel_rfl);have hx:xs.length=3:=hx
 match cs,hl with
 | [c0,c1,c2],_=>
  have f0:DataW.trod enc prog W 0 sp held n 28 [c0]=xs[0]? :=by
   have:=(show DataW.trod enc prog W 0 sp held n 28 (([c0,c1,c2].drop 0).take (prog.cellsOf 28))=xs[0]? from hf 0 _ rfl);rw [show prog.cellsOf 28=1 from by kernel_rfl] at this;exact this
  have f1:DataW.trod enc prog W 0 sp held n 50 [c1]=xs[1]? :=by
   have:=(show DataW.trod enc prog W 0 sp held n 50 (([c0,c1,c2].drop 1).take (prog.cellsOf 50))=xs[1]? from hf 1 _ rfl);rw [show prog.cellsOf 50=1 from by kernel_rfl] at this;exact this
  have f2:DataW.trod enc prog W 0 sp held n 4 [c2]=xs[2]? :=by
   have:=(show DataW.trod enc prog W 0 sp held n 4 (([c0,c1,c2].drop 2).take (prog.cellsOf 4))=xs[2]? from hf 2 _ rfl);rw [show prog.cellsOf 4=1 from by kernel_rfl] at this;exact this
  rw [Fh (by omega)] at f0 f1 f2;obtain ⟨n0,e0,_,w0⟩:=ycz underlying28 f0;obtain ⟨n1,e1,_,w1⟩:=ycz underlying50 f1;obtain ⟨b,e2,_⟩:=DataW.trod_bool underlying4 f2;simp only [ybb,ybq] at e0 e1 e2;subst e0 e1 e2;have b0:=bounds_u64 w0;have b1:=bounds_u32 w1;exact ⟨⟨n0,n1,b⟩,rfl,by show 0≤n0;omega,by show n0<_;omega,by show 0≤n1;omega,by show n1<_;omega⟩
theorem Tryz.Wh {R:Nat}: ∀ {l:List Sg} {o:Nat},(∀(i:Nat) (hi:i<l.length),W.rangeAt R (o+3*i) l[i].cells)→W.rangeAt R o (dA l)
 | [], o,_=>fun j v hv=>by simp [dA] at hv
 | x::r,o,h=>fun j v hv=>by
  have h0:=h 0 (by simp);have hr:=Wh (R:=R) (l:=r) (o:=o+3) fun i hi=>by
   have:=h (i+1) (by simpa using hi);rw [show o+3*(i+1)=o+3+3*i by omega] at this;simpa using this
  have hv:(x.cells++dA r)[j]? =some v:=hv;by_cases hj:j<3
  ·rw [yaP (by simpa [Sg.cells] using hj)] at hv;exact h0 j v hv
  ·rw [yaV (by simp [Sg.cells];omega)] at hv;have:=hr (j-3) v hv;rw [show o+3+(j-3)=o+j by omega] at this;exact this
set_option maxRecDepth 100000 in
theorem Tryz.zqu {v:Value} {x:DataW H×List MemPlace} (h:DataW.trod enc prog W 0 sp held fuel 49 [v]=some x) (hw: ∀n∈x.1.weights prog 49,n≤reachBytes):
  ∃ l,bC (fun _=>False) W v l∧l.length<4000000000000000:=by
 rcases DataW.trod_slice underlying49 h with ⟨e,_⟩|⟨a,len,cap,elems,rest,n,rfl,e,rfl,_,hlc,hcap,hel,hc,_⟩
 ·simp only [ybb,ybq] at e;subst e;exact ⟨[],bC.none,by decide⟩
 ·simp only [ybb,ybq] at e;subst e;have hb:prog.bytesOf 137=16:=by kernel_rfl
  have hsz:=hw ((elems.length+rest.length)*16) (by
   unfold DataW.weights;rw [underlying49];simp [hb])
  unfold reachBytes at hsz;obtain ⟨l,hll,hl⟩:=Qm (p:=fun i (s:Sg)=>W.cells? 0 (a.add (i*3)) 3=some s.cells∧s.ok) len fun i hi=>by
   have:=hc i hi;rw [Fh (by omega)] at this;obtain ⟨cs,h1,h2⟩:=ycY.1 this;obtain ⟨s,rfl,hs⟩:=zs6 h2;exact ⟨s,h1,hs⟩
  subst hll;refine ⟨l,⟨some a,cap,rfl,fun s hs=> ?_,?_⟩,by omega⟩
  ·obtain ⟨i,hi,rfl⟩:=ycB.1 hs;exact (hl i hi).2
  ·by_cases h0:l= []
   ·exact .inl h0
   ·right;obtain ⟨ab,ao,aq⟩:=a;have hp:0<l.length:=ybw.2 h0;have hs:aq=none:=cell_spot ((yc0 (hl 0 hp).1).2.2 0 (by decide));subst hs;refine ⟨ab,ao,rfl,fun h=>h,Wh fun i hi j y hy=> ?_⟩;have hj:j<3:=by
     have:=yat.1 hy;simpa [Sg.cells] using this.1
    have:=(yc0 (hl i hi).1).2.2 j hj;rw [hy,addr_add,addr_add] at this;rw [show ao+3*i+j=ao+i*3+j by omega];exact this
end
end Go.Proofs
namespace Go.Proofs
open Go.Dw Go.RowKit Go.Maps Go.Sort Go.Deep Go.ChangeShapes Go.WideShapes
section
variable {H:Type} {enc:TypeId×Value→H} {W:World} {sp:Nat→Bool} {held:Bool} {fuel:Nat}
end
end Go.Proofs
namespace Go.Proofs
open Go.Dw Go.RowKit Go.Maps Go.Sort Go.Deep Go.ChangeShapes Go.WideShapes
section
variable {H:Type} {enc:TypeId×Value→H} {W:World} {sp:Nat→Bool} {held:Bool} {fuel:Nat}
end
end Go.Proofs
namespace Go.Proofs
open Go.Dw Go.RowKit Go.Maps Go.Sort
section
variable {W0:World} {H4 zR S P L Bs B M:Nat} {r:Tryz.Rg} {av ov:Value} {ls:List (List Tryz.Sg)} {s:Tryz.SS} {g:Nat→Int} {hs:List Int} {bs:List (List Tryz.Sg)} {next:Int} {vh:Value} {i:Nat} {a:Act} {w:World}
end
end Go.Proofs
namespace Go.Proofs
open Go.Dw Go.RowKit Go.Maps Go.Sort Go.Deep
theorem Tryz.nR {P0:Program} {w:World} {ops:Array Oper} {o:Oper} {a:Act} {K:Act→World→Prop} {Q:Exit→Act→World→Prop} {E:Prop} (hgd:o.guard=none) (s x:Operand) (t:TypeId)
  (ho:o.op= .call { callee:= .builtin .append,args:= #[s,x],argTypes:= #[t,t] })
  (base:Nat) (e t0:TypeId) (i:TypeInfo) (z:Value) (size bytes:Nat) (ht:P0.underlying t=some (.slice e)) (hi:P0.info? e=some i) (hz:i.zero=some z)
  (hsize:i.size=size) (hby:i.bytes=bytes) (hzs:z.cells.size=size) (hsz:0<size)
  (v:Value) (n:Nat) (xs:List Value) (hs:a.eval s=v) (hown:w.ownsRow base t0 size v n xs)
  (sa:Option Addr) (ad:Addr) (hsa:sa=some ad) (m c:Nat) (news:List Value) (hx:a.eval x= .slice sa m c) (hl:news.length=m*size) (hnews: ∀j u,news[j]? =some u→w.cell? (ad.add j)=some u) (h1: ∀u∈news,u.oneCell'=true)
  (h63:n+m≤maxLen) (hbytes:(n+m)*bytes≤140737488355328) (hbase:base≤w.heap.size)
  (h: ∀v' w' t',w'.ownsRow base t' size v' (n+m) (xs++news)→w.grownBy w' v.ownBlock→(v'.ownBlock=v.ownBlock∨v'.ownBlock=some w.heap.size)→K (a.put o.dst v') w'):
  if Region.wanted o (yielded ops a.tmps)=true then Oper.wp P0 o a w K Q else E:=by
 subst hsa;have hw:Region.wanted o (yielded ops a.tmps)=true:=by simp [Region.wanted,hgd]
 rw [yak hw];obtain ⟨v',w',t',hr,h2,h3,h4⟩:=zp8 (P0:=P0) w base t o.type e t0 i z size bytes ht hi hz hsize hby hzs hsz v n xs hown ad m c news hl hnews h1 h63 hbytes hbase;unfold Oper.wp execOp;simp only [ho,resolve,invoke,builtin,yad,yag,yac,List.map_toArray,yaU,ybM,hs,hx,hr];exact h v' w' t' h2 h3 h4
theorem Tryz.UQ: ∀(l:List Sg) (i:Nat) (hi:i<l.length),(dA l)[i*3]? =some (.int .u64 l[i].bB)∧(dA l)[i*3+1]? =some (.int .u32 l[i].len)
 | x::r,0,_=>⟨rfl,rfl⟩
 | x::r,i+1,hi=>by
  have h:=UQ r i (by simp at hi;omega);rw [NR,show (i+1)*3=i*3+1+1+1 by omega];simpa using h
set_option maxRecDepth 100000 in
theorem Tryz.JD {A:Nat→Prop} {w:World} {P L Bs B N:Nat} {g:Nat→Int} {v:Value} {l:List Sg} (st:aV w P L Bs B N g) (hN:N≤1048576) (h:bC A w v l) (hl:l.length≤100000):
    Calls prog 74 #[.pointer (some ⟨P,0,none⟩),v] w fun e w'=>e= .returned (.int .i64 (iB N l))∧Below w.heap.size w w':=by
  have hck:=Yr h;obtain ⟨sa,c,rfl,hok,hr⟩:=h;go_enter func74,ntmps74;go_wp2_with (first
    | (go_at_call 123;refine hck.mono ?_;rintro en w1 ⟨rfl,hb1⟩)
    | go_in)
  go_loopw [5,6] (fun e i w2=>Below w.heap.size w w2∧ ∃(k:Nat) (x:Int),k≤l.length∧i= .int .i64 k∧e= .int .i64 x∧((¬x=0∧x=iB N l)∨(x=0∧gJ l=0∧ ∀(j:Nat) (hj:j<l.length),j<k→1≤l[j].len∧l[j].bB+l[j].len≤N))) (fun e i _=>if RowKit.intOf e=0 then l.length+1-(RowKit.intOf i).toNat else 0)
  case atStart=>
    refine ⟨hb1,0,gJ l,yar _,rfl,rfl,?_⟩;by_cases he:gJ l=0
    · exact .inr ⟨he,he,fun j _ hj=>absurd hj (by omega)⟩
    · exact .inl ⟨he,by unfold iB;rw [yah he]⟩
  case round=>
    obtain ⟨hb2,k,x,hk,rfl,rfl,hx⟩:=hrel;rcases hx with ⟨hx0,hx⟩|⟨rfl,he0,hall⟩
    · have hx':(fun _:Unit=>x)=fun _=>iB N l:=by rw [hx]
      clear hx;by_cases hkl:(k:Int)<l.length
      · go_wp2;go_ret;exact ⟨by rw [←congrFun hx' ()];rfl,hb2⟩
      · go_wp2;go_ret;exact ⟨by rw [←congrFun hx' ()];rfl,hb2⟩
    · by_cases hkl:k<l.length
      · have hkl':(k:Int)<l.length:=by omega
        rcases hr with hr|⟨R,o,rfl,je,hr⟩
        · subst hr;simp at hkl
        obtain ⟨d0,d1⟩:=UQ l k hkl;have e0:=hr _ _ d0;have e1:=hr _ _ d1;have hx1:=hok l[k] (yaA hkl);have hRl:R<w.heap.size:=yan w _ e0;have f0:=(hb2.cell (p:=⟨R,o+k*3,none⟩) hRl).trans e0;have f1:wr.cell? ⟨R,o+k*3+1,none⟩=some (.int .u32 l[k].len):=(hb2.cell (p:=⟨R,o+(k*3+1),none⟩) hRl).trans e1;have Gg:R<wr.heap.size:=yan wr _ f0;have hlc:(l.length:Int)≤l.length:=ybY _;obtain ⟨q1,q2,q3,q4⟩:=hx1;have wl:IntKind.wrap .u64 l[k].len=l[k].len:=iN q3 (by omega);have st2:=st.below hb2;have hhas:=fun w4 (h4:aV w4 P L Bs B N g)=>I9 P L Bs B N l[k].bB l[k].len g w4 h4 hN q1 q2 q3 (by omega);generalize hat:l[k].bB=a1 at*;generalize hln:l[k].len=n1 at*;by_cases hin:1≤n1∧a1+n1≤N
        · rw [yaH hin] at hhas;go_wp2_with fail;go_region_held3 (fun w'=>w'.cell? ⟨R,o+k*3,none⟩=some (.int .u64 a1)∧w'.cell? ⟨R,o+k*3+1,none⟩=some (.int .u32 n1)) (go_keep)
            ((first|(go_at_call 59;refine (hhas wr.drew (st2.kept (w':=wr.drew) (fun _ _ _=>rfl) (yaa _))).mono ?_;rintro en w3 ⟨rfl,hb3⟩;have f2:=(hb3.cell (p:=⟨R,o+k*3,none⟩) Gg).trans f0;have f3:=(hb3.cell (p:=⟨R,o+k*3+1,none⟩) Gg).trans f1)))
          all_goals go_wp2_with fail
          all_goals
            refine ⟨⟨hb2.drew.trans (hb3.mono hb2.size),k+1,by omega,by push_cast;rfl,fun j hj hlt=> ?_⟩,by simp only [RowKit.intOf];omega⟩;by_cases hjk:j=k
            · subst hjk;rw [hat,hln];exact hin
            · exact hall j hj (by omega)
        · rw [yao hin] at hhas;go_wp2_with fail;go_region_held3 (fun w'=>w'.cell? ⟨R,o+k*3,none⟩=some (.int .u64 a1)∧w'.cell? ⟨R,o+k*3+1,none⟩=some (.int .u32 n1)) (go_keep)
            ((first|(go_at_call 59;refine (hhas wr.drew (st2.kept (w':=wr.drew) (fun _ _ _=>rfl) (yaa _))).mono ?_;rintro en w3 ⟨rfl,hb3⟩;have f2:=(hb3.cell (p:=⟨R,o+k*3,none⟩) Gg).trans f0;have f3:=(hb3.cell (p:=⟨R,o+k*3+1,none⟩) Gg).trans f1)))
          all_goals go_wp2_with fail
          all_goals
            refine ⟨⟨hb2.drew.trans (hb3.mono hb2.size),k+1,by omega,by push_cast;rfl,?_⟩,by simp only [RowKit.intOf];omega⟩;unfold iB;rw [yak he0,yah fun h=>hin ?_];have:=En.1 h l[k] (yaA hkl)
            rwa [hat,hln] at this
      · have hkl': ¬(k:Int)<l.length:=by omega
        go_wp2;go_ret;refine ⟨?_,hb2⟩;have hz:iB N l=0:=by
          unfold iB;rw [yak he0,yak (En.2 fun x hx=>by
            obtain ⟨j,hj,rfl⟩:=List.getElem_of_mem hx;exact hall j hj (by omega))]
        rw [hz];rfl
end Go.Proofs
namespace Go.Proofs
open Go.Dw Go.RowKit
structure Tryz.gU (r:Rg):Prop where
 bnd:1≤r.n∧r.n≤16
 d:r.d=4096
 v:r.v=4096+16*r.n
 c:r.c=4100+16*r.n
def Tryz.Rg.fu (r:Rg):Value:= .agg #[.bool true,.int .i64 r.n,.int .u64 r.d,.int .u64 r.v,.int .u64 r.c]
structure Tryz.PTk where
 ct:Int
 sg:List Sg
structure Tryz.PS where
 ev:Bool
 tb:Bool
 nx:Int
 nw:Bool
 us:Int
 uw:Bool
 tk:List (Int×PTk)
 ou:Int
 ph:Nat
 op:Int
 nn:Bool
 hd:Int
 sg:List Sg
 wr:Int
 it:Bool
 dn:Bool
 br:Bool
def Tryz.dF (n aG:Int) (wr:Bool) (Ct:Int):Int×Bool:=if aG+Ct<n then (aG+Ct,wr) else (aG+Ct-n,!wr)
def Tryz.zvu (f:Int) (wr:Bool):Bool:=(decide (f/128%2=1)==wr)&&(decide (f/32768%2=1) !=wr)
def Tryz.sQ (aG:Int) (wr:Bool):Int:=aG+if wr then 32768 else 0
def Tryz.vD (n ea:Int) (ew:Bool) (na:Int) (nw:Bool) (Ct:Int):Bool:=decide ((na-(if ew=nw then ea else ea-n)-1)%65536<Ct%65536)
def Tryz.qo (n us:Int) (uw:Bool) (ct w:Int) (it0:Bool):Bool:=
 if w/65536%4=0 then true
 else if w/65536%4=2 then
  (if w%32768<n then vD n (w%32768) (decide (w/32768%2=1)) us uw ct else true)
 else it0
def Tryz.wQ (i b:Nat):AV:= .agg [.int .i64 (ai i),.bool (.var b)]
end Go.Proofs
namespace Go.Proofs
open Go.Dw
def Tryz.Yc:List bL:= []
def Tryz.ZK:List Sh:= []
def Tryz.Yd:List AV:= [.int .u16 (fQ 11),.bool (.var 0)]
def Tryz.zwn:List (SB×Bool):= []
def Tryz.zvi:List Leaf:= [
 ⟨.bool (.not (.beq (.cmp .neq (.bn [⟨11,0,65535,15,1,15⟩] 0) (.lit 0)) (.var 0))),[],[],0,[]⟩,
 ⟨.bool (.lit false),[],[],0,[]⟩]
def Tryz.zvh:List (List (SB×Bool)×Nat):= [
 ([((.beq (.cmp .neq (.bn [⟨11,0,65535,7,1,7⟩] 0) (.lit 0)) (.var 0)),true)],0),
 ([((.beq (.cmp .neq (.bn [⟨11,0,65535,7,1,7⟩] 0) (.lit 0)) (.var 0)),false)],1)]
theorem Tryz.zwm:(ev prog (dW Yc) 100000 (.call 45 Yd (dP 0 ZK) (jc zvi 0))).ways zwn=some zvh:=by kernel_rfl
theorem Tryz.zxV:(fe ZK&&eZ Yc&&AV.dX Yd&&jm zvi)=true:=by kernel_rfl
def Tryz.Yo:List bL:= []
def Tryz.ZL:List Sh:= []
def Tryz.Yp:List AV:= [wQ 4 0]
def Tryz.zvR:List (SB×Bool):= []
def Tryz.zva:List Leaf:= [
 ⟨.int .u16 (.bn [⟨4,0,4611686018427387903,0,15,0⟩] 32768),[],[],0,[]⟩,
 ⟨.int .u16 (.bn [⟨4,0,4611686018427387903,0,15,0⟩] 0),[],[],0,[]⟩]
def Tryz.zu9:List (List (SB×Bool)×Nat):= [
 ([(.var 0,true)],0),
 ([(.var 0,false)],1)]
theorem Tryz.zvQ:(ev prog (dW Yo) 100000 (.call 133 Yp (dP 0 ZL) (jc zva 0))).ways zvR=some zu9:=by kernel_rfl
theorem Tryz.zxJ:(fe ZL&&eZ Yo&&AV.dX Yp&&jm zva)=true:=by kernel_rfl
def Tryz.WZ:List bL:= []
def Tryz.YB:List Sh:= []
def Tryz.W9:List AV:= [.agg [.int .u16 (fQ 11),.int .u16 (.lit 2)]]
def Tryz.zts:List (SB×Bool):= []
def Tryz.ZU:List Leaf:= [
 ⟨.int .u64 (.bn [⟨11,0,65535,0,16,0⟩] 131072),[],[],0,[]⟩]
def Tryz.zwc:List (List (SB×Bool)×Nat):= [
 ([], 0)]
theorem Tryz.ztr:(ev prog (dW WZ) 100000 (.call 132 W9 (dP 0 YB) (jc ZU 0))).ways zts=some zwc:=by kernel_rfl
theorem Tryz.zwd:(fe YB&&eZ WZ&&AV.dX W9&&jm ZU)=true:=by kernel_rfl
def Tryz.WO:List bL:= []
def Tryz.Yt:List Sh:= []
def Tryz.WQ:List AV:= [.int .u64 (bV 12)]
def Tryz.ztf:List (SB×Bool):= []
def Tryz.ZM:List Leaf:= [
 ⟨.agg [.int .u16 (.bn [⟨12,0,4294967295,0,16,0⟩] 0),.int .u16 (.bn [⟨12,0,4294967295,16,16,0⟩] 0)],[],[],0,[]⟩]
def Tryz.zvS:List (List (SB×Bool)×Nat):= [
 ([], 0)]
theorem Tryz.zte:(ev prog (dW WO) 100000 (.call 135 WQ (dP 0 Yt) (jc ZM 0))).ways ztf=some zvS:=by kernel_rfl
theorem Tryz.zvT:(fe Yt&&eZ WO&&AV.dX WQ&&jm ZM)=true:=by kernel_rfl
def Tryz.WR:List bL:= []
def Tryz.Yu:List Sh:= []
def Tryz.WT:List AV:= [.int .u16 (fQ 11),.int .i64 (bg 0)]
def Tryz.zti:List (SB×Bool):= []
def Tryz.ZO:List Leaf:= [
 ⟨.aK [.agg [.int .i64 (.lit 0),.bool (.lit false)],.int .i64 (.lit 4)],[],[],0,[]⟩,
 ⟨.aK [.agg [.int .i64 (.bn [⟨11,0,65535,0,15,0⟩] 0),.bool (.cmp .geq (fQ 11) (.lit 32768))],.int .i64 (.lit 0)],[],[],0,[]⟩]
def Tryz.ZN:List (List (SB×Bool)×Nat):= [
 ([((.cmp .geq (.bn [⟨11,0,65535,0,15,0⟩] 0) (bg 0)),true)],0),
 ([((.cmp .geq (.bn [⟨11,0,65535,0,15,0⟩] 0) (bg 0)),false)],1)]
theorem Tryz.zth:(ev prog (dW WR) 100000 (.call 136 WT (dP 0 Yu) (jc ZO 0))).ways zti=some ZN:=by kernel_rfl
theorem Tryz.zvV:(fe Yu&&eZ WR&&AV.dX WT&&jm ZO)=true:=by kernel_rfl
def Tryz.Yx:List bL:= []
def Tryz.ZQ:List Sh:= []
def Tryz.Yy:List AV:= [wQ 4 0,wQ 6 1,.int .i64 (ai 5),.int .i64 (bg 0)]
def Tryz.zv8:List (SB×Bool):= []
def Tryz.zvc:List Leaf:= [
 ⟨.aK [.bool (.lit false),.int .i64 (.lit 2)],[],[],0,[]⟩,
 ⟨.aK [.bool (.cmp .lss (.bin .sub .u16 (.bin .sub .u16 (.bn [⟨6,0,4611686018427387903,0,16,0⟩] 0) (.wrap .u16 (.bin .and .i64 (.bin .sub .i64 (ai 4) (bg 0)) (.lit 65535)))) (.lit 1)) (.bin .sub .u16 (.bn [⟨6,0,4611686018427387903,0,16,0⟩] 0) (.wrap .u16 (.bin .and .i64 (.bin .sub .i64 (ai 6) (ai 5)) (.lit 65535))))),.int .i64 (.lit 0)],[],[],0,[]⟩,
 ⟨.aK [.bool (.cmp .lss (.bin .sub .u16 (.bin .sub .u16 (.bn [⟨6,0,4611686018427387903,0,16,0⟩] 0) (.bn [⟨4,0,4611686018427387903,0,16,0⟩] 0)) (.lit 1)) (.bin .sub .u16 (.bn [⟨6,0,4611686018427387903,0,16,0⟩] 0) (.wrap .u16 (.bin .and .i64 (.bin .sub .i64 (ai 6) (ai 5)) (.lit 65535))))),.int .i64 (.lit 0)],[],[],0,[]⟩]
def Tryz.zvb:List (List (SB×Bool)×Nat):= [
 ([((.cmp .geq (ai 4) (bg 0)),true)],0),
 ([((.cmp .geq (ai 4) (bg 0)),false),((.cmp .geq (ai 6) (bg 0)),true)],0),
 ([((.cmp .geq (ai 4) (bg 0)),false),((.cmp .geq (ai 6) (bg 0)),false),((.cmp .gtr (ai 5) (bg 0)),true)],0),
 ([((.cmp .geq (ai 4) (bg 0)),false),((.cmp .geq (ai 6) (bg 0)),false),((.cmp .gtr (ai 5) (bg 0)),false),((.beq (.var 0) (.var 1)),false)],1),
 ([((.cmp .geq (ai 4) (bg 0)),false),((.cmp .geq (ai 6) (bg 0)),false),((.cmp .gtr (ai 5) (bg 0)),false),((.beq (.var 0) (.var 1)),true)],2)]
theorem Tryz.zv7:(ev prog (dW Yx) 100000 (.call 137 Yy (dP 0 ZQ) (jc zvc 0))).ways zv8=some zvb:=by kernel_rfl
theorem Tryz.zxN:(fe ZQ&&eZ Yx&&AV.dX Yy&&jm zvc)=true:=by kernel_rfl
def Tryz.Yl:List bL:= []
def Tryz.Z6:List Sh:= []
def Tryz.Ym:List AV:= [wQ 4 0,.int .i64 (ai 5),.int .i64 (bg 0)]
def Tryz.zvJ:List (SB×Bool):= []
def Tryz.zu8:List Leaf:= [
 ⟨.aK [.agg [.int .i64 (.lit 0),.bool (.lit false)],.int .i64 (.lit 2)],[],[],0,[]⟩,
 ⟨.aK [.agg [.int .i64 (.bin .sub .i64 (.bin .add .i64 (ai 4) (ai 5)) (bg 0)),.bool (.not (.var 0))],.int .i64 (.lit 0)],[],[],0,[]⟩,
 ⟨.aK [.agg [.int .i64 (.bin .add .i64 (ai 4) (ai 5)),.bool (.var 0)],.int .i64 (.lit 0)],[],[],0,[]⟩]
def Tryz.zu7:List (List (SB×Bool)×Nat):= [
 ([((.cmp .geq (ai 4) (bg 0)),true)],0),
 ([((.cmp .geq (ai 4) (bg 0)),false),((.cmp .gtr (ai 5) (bg 0)),true)],0),
 ([((.cmp .geq (ai 4) (bg 0)),false),((.cmp .gtr (ai 5) (bg 0)),false),((.cmp .geq (.bin .add .i64 (ai 4) (ai 5)) (bg 0)),true)],1),
 ([((.cmp .geq (ai 4) (bg 0)),false),((.cmp .gtr (ai 5) (bg 0)),false),((.cmp .geq (.bin .add .i64 (ai 4) (ai 5)) (bg 0)),false)],2)]
theorem Tryz.zvI:(ev prog (dW Yl) 100000 (.call 113 Ym (dP 0 Z6) (jc zu8 0))).ways zvJ=some zu7:=by kernel_rfl
theorem Tryz.zxC:(fe Z6&&eZ Yl&&AV.dX Ym&&jm zu8)=true:=by kernel_rfl
def Tryz.Yj:List bL:= []
def Tryz.Z5:List Sh:= []
def Tryz.Yk:List AV:= [wQ 4 0,wQ 6 1,.int .i64 (ai 5),.int .i64 (bg 0)]
def Tryz.zvF:List (SB×Bool):= []
def Tryz.zu6:List Leaf:= [
 ⟨.aK [.bool (.lit false),.int .i64 (.lit 2)],[],[],0,[]⟩,
 ⟨.aK [.bool (.cmp .lss (.bin .sub .u16 (.bin .sub .u16 (.bn [⟨6,0,4611686018427387903,0,16,0⟩] 0) (.wrap .u16 (.bin .sub .i64 (ai 4) (bg 0)))) (.lit 1)) (.bin .sub .u16 (.bn [⟨6,0,4611686018427387903,0,16,0⟩] 0) (.wrap .u16 (.bin .sub .i64 (ai 6) (ai 5))))),.int .i64 (.lit 0)],[],[],0,[]⟩,
 ⟨.aK [.bool (.cmp .lss (.bin .sub .u16 (.bin .sub .u16 (.bn [⟨6,0,4611686018427387903,0,16,0⟩] 0) (.bn [⟨4,0,4611686018427387903,0,16,0⟩] 0)) (.lit 1)) (.bin .sub .u16 (.bn [⟨6,0,4611686018427387903,0,16,0⟩] 0) (.wrap .u16 (.bin .sub .i64 (ai 6) (ai 5))))),.int .i64 (.lit 0)],[],[],0,[]⟩]
def Tryz.zu5:List (List (SB×Bool)×Nat):= [
 ([((.cmp .geq (ai 4) (bg 0)),true)],0),
 ([((.cmp .geq (ai 4) (bg 0)),false),((.cmp .geq (ai 6) (bg 0)),true)],0),
 ([((.cmp .geq (ai 4) (bg 0)),false),((.cmp .geq (ai 6) (bg 0)),false),((.cmp .gtr (ai 5) (bg 0)),true)],0),
 ([((.cmp .geq (ai 4) (bg 0)),false),((.cmp .geq (ai 6) (bg 0)),false),((.cmp .gtr (ai 5) (bg 0)),false),((.beq (.var 0) (.var 1)),false)],1),
 ([((.cmp .geq (ai 4) (bg 0)),false),((.cmp .geq (ai 6) (bg 0)),false),((.cmp .gtr (ai 5) (bg 0)),false),((.beq (.var 0) (.var 1)),true)],2)]
theorem Tryz.zvE:(ev prog (dW Yj) 100000 (.call 122 Yk (dP 0 Z5) (jc zu6 0))).ways zvF=some zu5:=by kernel_rfl
theorem Tryz.zxz:(fe Z5&&eZ Yj&&AV.dX Yk&&jm zu6)=true:=by kernel_rfl
def Tryz.YL:List bL:= []
def Tryz.Z4:List Sh:= []
def Tryz.YM:List AV:= [wQ 4 0]
def Tryz.zvB:List (SB×Bool):= []
def Tryz.zu3:List Leaf:= [
 ⟨.int .u16 (.bn [⟨4,0,4611686018427387903,0,15,0⟩] 32768),[],[],0,[]⟩,
 ⟨.int .u16 (.bn [⟨4,0,4611686018427387903,0,15,0⟩] 0),[],[],0,[]⟩]
def Tryz.zu2:List (List (SB×Bool)×Nat):= [
 ([(.var 0,true)],0),
 ([(.var 0,false)],1)]
theorem Tryz.zvA:(ev prog (dW YL) 100000 (.call 158 YM (dP 0 Z4) (jc zu3 0))).ways zvB=some zu2:=by kernel_rfl
theorem Tryz.zxv:(fe Z4&&eZ YL&&AV.dX YM&&jm zu3)=true:=by kernel_rfl
def Tryz.Yz:List bL:= []
def Tryz.ZT:List Sh:= []
def Tryz.YA:List AV:= [wQ 4 0,.int .i64 (ai 5),.int .i64 (bg 0)]
def Tryz.zwb:List (SB×Bool):= []
def Tryz.zve:List Leaf:= [
 ⟨.aK [.agg [.int .i64 (.lit 0),.bool (.lit false)],.int .i64 (.lit 2)],[],[],0,[]⟩,
 ⟨.aK [.agg [.int .i64 (.bin .sub .i64 (.bin .add .i64 (ai 4) (ai 5)) (bg 0)),.bool (.not (.var 0))],.int .i64 (.lit 0)],[],[],0,[]⟩,
 ⟨.aK [.agg [.int .i64 (.bin .add .i64 (ai 4) (ai 5)),.bool (.var 0)],.int .i64 (.lit 0)],[],[],0,[]⟩]
def Tryz.zvd:List (List (SB×Bool)×Nat):= [
 ([((.cmp .geq (ai 4) (bg 0)),true)],0),
 ([((.cmp .geq (ai 4) (bg 0)),false),((.cmp .gtr (ai 5) (bg 0)),true)],0),
 ([((.cmp .geq (ai 4) (bg 0)),false),((.cmp .gtr (ai 5) (bg 0)),false),((.cmp .geq (.bin .add .i64 (ai 4) (ai 5)) (bg 0)),true)],1),
 ([((.cmp .geq (ai 4) (bg 0)),false),((.cmp .gtr (ai 5) (bg 0)),false),((.cmp .geq (.bin .add .i64 (ai 4) (ai 5)) (bg 0)),false)],2)]
theorem Tryz.zwa:(ev prog (dW Yz) 100000 (.call 40 YA (dP 0 ZT) (jc zve 0))).ways zwb=some zvd:=by kernel_rfl
theorem Tryz.zxQ:(fe ZT&&eZ Yz&&AV.dX YA&&jm zve)=true:=by kernel_rfl
open Go.RowKit
theorem Tryz.J8 {ρ:Val} {a b:SB}:SB.den ρ (.beq a b)=(a.den ρ==b.den ρ):=rfl
theorem Tryz.zsE {ρ:Val} {i s:Nat} {f:Int} (e:ρ.i i=f) (h:0≤f∧f<65536):SE.den ρ (.bn [⟨i,0,65535,s,1,s⟩] 0)=f/(2^s:Nat)%2*(2^s:Nat):=by
 have:=xg (ρ:=ρ) (i:=i) (lo:=0) (hi:=65535) (fr:=s) (n:=1) (sh:=s) (by rw [e];exact h.1) (by rw [e];show f≤65535;omega);rw [e] at this;exact this
theorem Tryz.EN {ρ:Val} {i hi n k:Nat} {f:Int} (e:ρ.i i=f) (h0:0≤f) (h1:f≤(hi:Int)) (h2:f<((2^n:Nat):Int)) {c:Nat} (hc:c=k<<<n):SE.den ρ (.bn [⟨i,0,hi,0,n,0⟩] c)=f+((k*2^n:Nat):Int):=by
 subst hc;obtain ⟨x,hx⟩:=yaM h0;subst hx;simp only [SE.den,aJ,aL.den,e,yaS];have e1:max 0 (min x hi)=x:=by omega
 have h2:x<2^n:=by omega
 rw [e1,ycH,ya6 h2,ycN,ycE,←ydz h2,yc1];show ((k*2^n+x:Nat):Int)=x+((k*2^n:Nat):Int);omega
def Tryz.zG (n a c b:Int) (x y:Bool):Val:=dO [n,0,0,0,a,c,b] [x,y] []
structure Tryz.PcD (ρ:Val) (n a c b:Int) (x y:Bool):Prop where
 d0:(bg 0).den ρ=n
 d4:(ai 4).den ρ=a
 d5:(ai 5).den ρ=c
 d6:(ai 6).den ρ=b
 i4:ρ.i 4=a
 i6:ρ.i 6=b
 b0:ρ.b 0=x
 b1:ρ.b 1=y
theorem Tryz.AZ {n a c b:Int} {x y:Bool} (hn:1≤n∧n≤32768) (ha:0≤a∧a<32768) (hc:0≤c∧c≤32768) (hb:0≤b∧b<32768):PcD (zG n a c b x y) n a c b x y:=
 ⟨JL hn.1 hn.2,lU ha.1 (by show a<_;omega),lU hc.1 (by show c<_;omega),lU hb.1 (by show b<_;omega),rfl,rfl,rfl,rfl⟩
def Tryz.bM (a:Int) (x:Bool):Value:= .agg #[.int .i64 a,.bool x]
theorem Tryz.Qk {n a c:Int} {x:Bool} (hn:1≤n∧n≤32768) (ha:0≤a∧a<n) (hc:0≤c∧c≤n) (w:World):
  Calls prog 113 #[bM a x,.int .i64 c,.int .i64 n] w fun e w'=>e= .returned (.tuple #[bM (dF n a x c).1 (dF n a x c).2,.int .i64 0])∧Below w.heap.size w w':=by
 have D:=AZ (n:=n) (a:=a) (c:=c) (b:=0) (x:=x) (y:=false) hn ⟨ha.1,by omega⟩ ⟨hc.1,by omega⟩ ⟨by decide,by decide⟩;generalize zG n a c 0 x false=ρ at D;refine ya7 (mR (ρ:=ρ) (K:=fun _=>False) (g:=bO.none) (bl:= []) (vals:= [bM a x,.int .i64 c,.int .i64 n]) mixed zvI zxC (fun b h=>h.elim) trivial trivial ja trivial (ay (nT (ay (aO D.d4) (ay (dQ D.b0) RL.nil))) (ay (aO D.d5) (ay (aO D.d0) RL.nil))) (zap.2 trivial)) fun e w' hh=> ?_;obtain ⟨p,hpm,hto,l,hl,j,he⟩:=hh;have hb:=j4 he (fun _ h=>h);have w1:IntKind.wrap .i64 (a+c)=a+c:=dV (by omega) (by omega);have w2:IntKind.wrap .i64 (a+c-n)=a+c-n:=dV (by omega) (by omega);unfold zu7 at hpm;simp only [yaj,yaq,yaZ] at hpm;rcases hpm with rfl|rfl|rfl|rfl
 all_goals
  simp only [bH,zap,zx,rO,den_add,D.d0,D.d4,D.d5,w1,yaL,yaR,ybq] at hto;cases hl;refine ⟨?_,hb⟩
 ·omega
 ·omega
 ·rw [he.ret];have e1:dF n a x c=(a+c-n,!x):=by unfold dF;rw [yah (by omega)]
  rw [e1];simp only [AV.val,AV.bK,den_add,iL,bF,QF,j6,D.d0,D.d4,D.d5,D.b0,w1,w2];rfl
 ·rw [he.ret];have e1:dF n a x c=(a+c,x):=by unfold dF;rw [yak (by omega)]
  rw [e1];simp only [AV.val,AV.bK,den_add,bF,j6,D.d4,D.d5,D.b0,w1];rfl
theorem Tryz.Pn {n a c:Int} {x:Bool} (hn:1≤n∧n≤32768) (ha:0≤a∧a<n) (hc:0≤c∧c≤n) (w:World):
  Calls prog 40 #[bM a x,.int .i64 c,.int .i64 n] w fun e w'=>e= .returned (.tuple #[bM (dF n a x c).1 (dF n a x c).2,.int .i64 0])∧Below w.heap.size w w':=by
 have D:=AZ (n:=n) (a:=a) (c:=c) (b:=0) (x:=x) (y:=false) hn ⟨ha.1,by omega⟩ ⟨hc.1,by omega⟩ ⟨by decide,by decide⟩;generalize zG n a c 0 x false=ρ at D;refine ya7 (mR (ρ:=ρ) (K:=fun _=>False) (g:=bO.none) (bl:= []) (vals:= [bM a x,.int .i64 c,.int .i64 n]) mixed zwa zxQ (fun b h=>h.elim) trivial trivial ja trivial (ay (nT (ay (aO D.d4) (ay (dQ D.b0) RL.nil))) (ay (aO D.d5) (ay (aO D.d0) RL.nil))) (zap.2 trivial)) fun e w' hh=> ?_;obtain ⟨p,hpm,hto,l,hl,j,he⟩:=hh;have hb:=j4 he (fun _ h=>h);have w1:IntKind.wrap .i64 (a+c)=a+c:=dV (by omega) (by omega);have w2:IntKind.wrap .i64 (a+c-n)=a+c-n:=dV (by omega) (by omega);unfold zvd at hpm;simp only [yaj,yaq,yaZ] at hpm;rcases hpm with rfl|rfl|rfl|rfl
 all_goals
  simp only [bH,zap,zx,rO,den_add,D.d0,D.d4,D.d5,w1,yaL,yaR,ybq] at hto;cases hl;refine ⟨?_,hb⟩
 ·omega
 ·omega
 ·rw [he.ret];have e1:dF n a x c=(a+c-n,!x):=by unfold dF;rw [yah (by omega)]
  rw [e1];simp only [AV.val,AV.bK,den_add,iL,bF,QF,j6,D.d0,D.d4,D.d5,D.b0,w1,w2];rfl
 ·rw [he.ret];have e1:dF n a x c=(a+c,x):=by unfold dF;rw [yak (by omega)]
  rw [e1];simp only [AV.val,AV.bK,den_add,bF,j6,D.d4,D.d5,D.b0,w1];rfl
theorem Tryz.zuc {n a b c:Int} {x y:Bool} (hn:1≤n∧n≤32768) (ha:0≤a∧a<n) (hb:0≤b∧b<n) (hc:0≤c∧c≤n) (w:World):
  Calls prog 122 #[bM a x,bM b y,.int .i64 c,.int .i64 n] w fun e w'=>e= .returned (.tuple #[.bool (vD n a x b y c),.int .i64 0])∧Below w.heap.size w w':=by
 have D:=AZ (n:=n) (a:=a) (c:=c) (b:=b) (x:=x) (y:=y) hn ⟨ha.1,by omega⟩ ⟨hc.1,by omega⟩ ⟨hb.1,by omega⟩;generalize zG n a c b x y=ρ at D;refine ya7 (mR (ρ:=ρ) (K:=fun _=>False) (g:=bO.none) (bl:= []) (vals:= [bM a x,bM b y,.int .i64 c,.int .i64 n]) mixed zvE zxz (fun b h=>h.elim) trivial trivial ja trivial (ay (nT (ay (aO D.d4) (ay (dQ D.b0) RL.nil))) (ay (nT (ay (aO D.d6) (ay (dQ D.b1) RL.nil))) (ay (aO D.d5) (ay (aO D.d0) RL.nil)))) (zap.2 trivial)) fun e w' hh=> ?_;obtain ⟨p,hpm,hto,l,hl,j,he⟩:=hh;have hbl:=j4 he (fun _ h=>h);have q4:SE.den ρ (.bn [⟨4,0,4611686018427387903,0,16,0⟩] 0)=a:=(xg (by rw [D.i4];exact ha.1) (by rw [D.i4];show a≤4611686018427387903;omega)).trans (by rw [D.i4];show a/1%65536*1=a;omega);have q6:SE.den ρ (.bn [⟨6,0,4611686018427387903,0,16,0⟩] 0)=b:=(xg (by rw [D.i6];exact hb.1) (by rw [D.i6];show b≤4611686018427387903;omega)).trans (by rw [D.i6];show b/1%65536*1=b;omega);have w1:IntKind.wrap .i64 (a-n)=a-n:=dV (by omega) (by omega);have w2:IntKind.wrap .i64 (b-c)=b-c:=dV (by omega) (by omega);unfold zu5 at hpm;simp only [yaj,yaq,yaZ] at hpm;rcases hpm with rfl|rfl|rfl|rfl|rfl
 all_goals
  simp only [bH,zap,zx,rO,J8,j6,D.d0,D.d4,D.d5,D.d6,D.b0,D.b1,yaL,yaR,ycC,yci,ne_eq,ybq] at hto;cases hl;refine ⟨?_,hbl⟩
 ·omega
 ·omega
 ·omega
 ·rw [he.ret];simp only [AV.val,AV.bK,fD,iL,Ji,bF,D.d0,D.d4,D.d5,D.d6,q4,q6,w1,w2,IZ];unfold vD;rw [yah hto.2.2.2];congr 5;exact ya4.2 (by omega)
 ·rw [he.ret];simp only [AV.val,AV.bK,fD,iL,Ji,bF,D.d0,D.d4,D.d5,D.d6,q4,q6,w1,w2,IZ];unfold vD;rw [yak hto.2.2.2];congr 5;exact ya4.2 (by omega)
theorem Tryz.ztU {a:Int} {x:Bool} (ha:0≤a∧a<32768) (w:World):
  Calls prog 158 #[bM a x] w fun e w'=>e= .returned (.int .u16 (sQ a x))∧Below w.heap.size w w':=by
 have D:=AZ (n:=1) (a:=a) (c:=0) (b:=0) (x:=x) (y:=false) ⟨by decide,by decide⟩ ha ⟨by decide,by decide⟩ ⟨by decide,by decide⟩;generalize zG 1 a 0 0 x false=ρ at D;refine ya7 (mR (ρ:=ρ) (K:=fun _=>False) (g:=bO.none) (bl:= []) (vals:= [bM a x]) mixed zvA zxv (fun b h=>h.elim) trivial trivial ja trivial (ay (nT (ay (aO D.d4) (ay (dQ D.b0) RL.nil))) RL.nil) (zap.2 trivial)) fun e w' hh=> ?_;obtain ⟨p,hpm,hto,l,hl,j,he⟩:=hh;have hbl:=j4 he (fun _ h=>h);unfold zu2 at hpm;simp only [yaj,yaq,yaZ] at hpm;rcases hpm with rfl|rfl
 all_goals
  simp only [bH,zap,j6,D.b0,ybq] at hto;cases hl;refine ⟨?_,hbl⟩;rw [he.ret];simp only [AV.val]
 ·rw [EN (k:=1) (n:=15) (hi:=4611686018427387903) (c:=32768) D.i4 ha.1 (by show a≤4611686018427387903;omega) ha.2 rfl,hto];rfl
 ·rw [EN (k:=0) (n:=15) (hi:=4611686018427387903) (c:=0) D.i4 ha.1 (by show a≤4611686018427387903;omega) ha.2 rfl,hto];rfl
theorem Tryz.zyr {f:Int} {b:Bool} (h:0≤f∧f<65536) (w:World):Calls prog 45 #[.int .u16 f,.bool b] w fun e w'=>e= .returned (.bool (zvu f b))∧Below w.heap.size w w':=by
 have e11:(dO [0,0,0,0,0,0,0,0,0,0,0,f] [b] []).i 11=f:=rfl;have d11:(fQ 11).den (dO [0,0,0,0,0,0,0,0,0,0,0,f] [b] [])=f:=zo h.1 h.2;have b0:(dO [0,0,0,0,0,0,0,0,0,0,0,f] [b] []).b 0=b:=rfl;generalize dO [0,0,0,0,0,0,0,0,0,0,0,f] [b] []=ρ at e11 d11 b0;have q7:=zsE (s:=7) e11 h;have MS:=zsE (s:=15) e11 h;refine ya7 (mR (ρ:=ρ) (K:=fun _=>False) (g:=bO.none) (bl:= []) (vals:= [.int .u16 f,.bool b]) mixed zwm zxV (fun b h=>h.elim) trivial trivial ja trivial (ay (aO d11) (ay (dQ b0) RL.nil)) (zap.2 trivial)) fun e w' hh=> ?_;obtain ⟨p,hpm,hto,l,hl,j,he⟩:=hh;have hb:=j4 he (fun _ h=>h);have e1:(f/((2^7:Nat):Int)%2*((2^7:Nat):Int) !=0)=decide (f/128%2=1):=by
  have:((2^7:Nat):Int)=128:=rfl;rw [this];by_cases hh:f/128%2=1
  ·rw [hh];rfl
  ·rw [show f/128%2=0 by omega];rfl
 have e2:(f/((2^15:Nat):Int)%2*((2^15:Nat):Int) !=0)=decide (f/32768%2=1):=by
  have:((2^15:Nat):Int)=32768:=rfl;rw [this];by_cases hh:f/32768%2=1
  ·rw [hh];rfl
  ·rw [show f/32768%2=0 by omega];rfl
 unfold zvh at hpm;simp only [yaj,yaq,yaZ] at hpm;unfold zvu;rcases hpm with rfl|rfl
 all_goals
  simp only [bH,zap,J8,xC,j6,q7,b0,bF,e1,ybq] at hto;cases hl;refine ⟨he.ret.trans ?_,hb⟩;simp only [AV.val,QF,J8,xC,j6,zyd,MS,b0,bF,e2];rw [hto];simp [bne]
theorem Tryz.zqK {a:Int} {x:Bool} (ha:0≤a∧a<32768) (w:World):
  Calls prog 133 #[bM a x] w fun e w'=>e= .returned (.int .u16 (sQ a x))∧Below w.heap.size w w':=by
 have D:=AZ (n:=1) (a:=a) (c:=0) (b:=0) (x:=x) (y:=false) ⟨by decide,by decide⟩ ha ⟨by decide,by decide⟩ ⟨by decide,by decide⟩;generalize zG 1 a 0 0 x false=ρ at D;refine ya7 (mR (ρ:=ρ) (K:=fun _=>False) (g:=bO.none) (bl:= []) (vals:= [bM a x]) mixed zvQ zxJ (fun b h=>h.elim) trivial trivial ja trivial (ay (nT (ay (aO D.d4) (ay (dQ D.b0) RL.nil))) RL.nil) (zap.2 trivial)) fun e w' hh=> ?_;obtain ⟨p,hpm,hto,l,hl,j,he⟩:=hh;have hbl:=j4 he (fun _ h=>h);unfold zu9 at hpm;simp only [yaj,yaq,yaZ] at hpm;rcases hpm with rfl|rfl
 all_goals
  simp only [bH,zap,j6,D.b0,ybq] at hto;cases hl;refine ⟨?_,hbl⟩;rw [he.ret];simp only [AV.val]
 ·rw [EN (k:=1) (n:=15) (hi:=4611686018427387903) (c:=32768) D.i4 ha.1 (by show a≤4611686018427387903;omega) ha.2 rfl,hto];rfl
 ·rw [EN (k:=0) (n:=15) (hi:=4611686018427387903) (c:=0) D.i4 ha.1 (by show a≤4611686018427387903;omega) ha.2 rfl,hto];rfl
theorem Tryz.ztt {f:Int} (h:0≤f∧f<65536) (w:World):Calls prog 132 #[.agg #[.int .u16 f,.int .u16 2]] w fun e w'=>e= .returned (.int .u64 (f+131072))∧Below w.heap.size w w':=by
 have e11:(dO [0,0,0,0,0,0,0,0,0,0,0,f] [] []).i 11=f:=rfl;have d11:(fQ 11).den (dO [0,0,0,0,0,0,0,0,0,0,0,f] [] [])=f:=zo h.1 h.2;generalize dO [0,0,0,0,0,0,0,0,0,0,0,f] [] []=ρ at e11 d11;refine ya7 (mR (ρ:=ρ) (K:=fun _=>False) (g:=bO.none) (bl:= []) (vals:= [.agg #[.int .u16 f,.int .u16 2]]) mixed ztr zwd (fun b h=>h.elim) trivial trivial ja trivial (ay (nT (ay (aO d11) (ay (aO rfl) RL.nil))) RL.nil) (zap.2 trivial)) fun e w' hh=> ?_;obtain ⟨_,j,he⟩:=BS hh;refine ⟨he.ret.trans ?_,j4 he (fun _ h=>h)⟩;simp only [AV.val];rw [EN (k:=2) (n:=16) (hi:=65535) (c:=131072) e11 h.1 (by show f≤65535;omega) h.2 rfl];rfl
theorem Tryz.ztg {f:Int} (h:0≤f∧f<4294967296) (w:World):Calls prog 135 #[.int .u64 f] w fun e w'=>e= .returned (.agg #[.int .u16 (f%65536),.int .u16 (f/65536)])∧Below w.heap.size w w':=by
 have e12:(dO [0,0,0,0,0,0,0,0,0,0,0,0,f] [] []).i 12=f:=rfl;have d12:(bV 12).den (dO [0,0,0,0,0,0,0,0,0,0,0,0,f] [] [])=f:=xw h.1 h.2;generalize dO [0,0,0,0,0,0,0,0,0,0,0,0,f] [] []=ρ at e12 d12;refine ya7 (mR (ρ:=ρ) (K:=fun _=>False) (g:=bO.none) (bl:= []) (vals:= [.int .u64 f]) mixed zte zvT (fun b h=>h.elim) trivial trivial ja trivial (ay (aO d12) RL.nil) (zap.2 trivial)) fun e w' hh=> ?_;obtain ⟨_,j,he⟩:=BS hh;have q1:SE.den ρ (.bn [⟨12,0,4294967295,0,16,0⟩] 0)=f%65536:=(xg (by rw [e12];exact h.1) (by rw [e12];show f≤4294967295;omega)).trans (by rw [e12];show f/1%65536*1=_;omega);have q2:SE.den ρ (.bn [⟨12,0,4294967295,16,16,0⟩] 0)=f/65536:=(xg (by rw [e12];exact h.1) (by rw [e12];show f≤4294967295;omega)).trans (by rw [e12];show f/65536%65536*1=_;omega);refine ⟨he.ret.trans ?_,j4 he (fun _ h=>h)⟩;simp only [AV.val,AV.bK,q1,q2]
theorem Tryz.ztj {f n:Int} (h:0≤f∧f<65536) (hn:1≤n∧n≤32768) (w:World):Calls prog 136 #[.int .u16 f,.int .i64 n] w fun e w'=>e= .returned (.tuple #[if f%32768<n then bM (f%32768) (decide (f/32768%2=1)) else bM 0 false,.int .i64 (if f%32768<n then 0 else 4)])∧Below w.heap.size w w':=by
 have e11:(dO [n,0,0,0,0,0,0,0,0,0,0,f] [] []).i 11=f:=rfl;have d11:(fQ 11).den (dO [n,0,0,0,0,0,0,0,0,0,0,f] [] [])=f:=zo h.1 h.2;have d0:(bg 0).den (dO [n,0,0,0,0,0,0,0,0,0,0,f] [] [])=n:=JL hn.1 hn.2;generalize dO [n,0,0,0,0,0,0,0,0,0,0,f] [] []=ρ at e11 d11 d0;have q1:SE.den ρ (.bn [⟨11,0,65535,0,15,0⟩] 0)=f%32768:=(xg (by rw [e11];exact h.1) (by rw [e11];show f≤65535;omega)).trans (by rw [e11];show f/1%32768*1=_;omega);refine ya7 (mR (ρ:=ρ) (K:=fun _=>False) (g:=bO.none) (bl:= []) (vals:= [.int .u16 f,.int .i64 n]) mixed zth zvV (fun b h=>h.elim) trivial trivial ja trivial (ay (aO d11) (ay (aO d0) RL.nil)) (zap.2 trivial)) fun e w' hh=> ?_;obtain ⟨p,hpm,hto,l,hl,j,he⟩:=hh;have hbl:=j4 he (fun _ h=>h);unfold ZN at hpm;simp only [yaj,yaq,yaZ] at hpm;rcases hpm with rfl|rfl
 all_goals
  simp only [bH,zap,zx,q1,d0,yaL,yaR,ybq] at hto;cases hl;refine ⟨he.ret.trans ?_,hbl⟩
 ·rw [yah (by omega),yah (by omega)];rfl
 ·rw [yak (by omega),yak (by omega)];simp only [AV.val,AV.bK,zx,q1,d11,bF];unfold bM;rw [show decide (f/32768%2=1)=decide (32768≤f) from ya4.2 (by omega)]
theorem Tryz.zsM (x:Int):mV .and .i64 x 65535=x%65536:=by
 have hx:(BitVec.ofInt IntKind.i64.bits x&&&BitVec.ofInt IntKind.i64.bits 65535).toNat=(x%65536).toNat:=by
  rw [ych];have e2:(BitVec.ofInt IntKind.i64.bits 65535).toNat=2^16-1:=by decide
  rw [e2,ycw];have e1:(BitVec.ofInt IntKind.i64.bits x).toNat=(x%18446744073709551616).toNat:=by
   rw [BitVec.toNat_ofInt];rfl
  rw [e1];omega
 show IntKind.wrap .i64 ((BitVec.ofInt IntKind.i64.bits x&&&BitVec.ofInt IntKind.i64.bits 65535).toNat:Int)=_;rw [hx];have:((x%65536).toNat:Int)=x%65536:=Int.toNat_of_nonneg (ybI _ (by decide));rw [this];exact dV (by omega) (by omega)
theorem Tryz.zsj {ρ:Val} {k:IntKind} {a b:SE}:SE.den ρ (.bin .and k a b)=mV .and k (a.den ρ) (b.den ρ):=rfl
theorem Tryz.zqO {n a b c:Int} {x y:Bool} (hn:1≤n∧n≤32768) (ha:0≤a∧a<n) (hb:0≤b∧b<n) (hc:0≤c∧c≤n) (w:World):
  Calls prog 137 #[bM a x,bM b y,.int .i64 c,.int .i64 n] w fun e w'=>e= .returned (.tuple #[.bool (vD n a x b y c),.int .i64 0])∧Below w.heap.size w w':=by
 have D:=AZ (n:=n) (a:=a) (c:=c) (b:=b) (x:=x) (y:=y) hn ⟨ha.1,by omega⟩ ⟨hc.1,by omega⟩ ⟨hb.1,by omega⟩;generalize zG n a c b x y=ρ at D;refine ya7 (mR (ρ:=ρ) (K:=fun _=>False) (g:=bO.none) (bl:= []) (vals:= [bM a x,bM b y,.int .i64 c,.int .i64 n]) mixed zv7 zxN (fun b h=>h.elim) trivial trivial ja trivial (ay (nT (ay (aO D.d4) (ay (dQ D.b0) RL.nil))) (ay (nT (ay (aO D.d6) (ay (dQ D.b1) RL.nil))) (ay (aO D.d5) (ay (aO D.d0) RL.nil)))) (zap.2 trivial)) fun e w' hh=> ?_;obtain ⟨p,hpm,hto,l,hl,j,he⟩:=hh;have hbl:=j4 he (fun _ h=>h);have q4:SE.den ρ (.bn [⟨4,0,4611686018427387903,0,16,0⟩] 0)=a:=(xg (by rw [D.i4];exact ha.1) (by rw [D.i4];show a≤4611686018427387903;omega)).trans (by rw [D.i4];show a/1%65536*1=a;omega);have q6:SE.den ρ (.bn [⟨6,0,4611686018427387903,0,16,0⟩] 0)=b:=(xg (by rw [D.i6];exact hb.1) (by rw [D.i6];show b≤4611686018427387903;omega)).trans (by rw [D.i6];show b/1%65536*1=b;omega);have w1:IntKind.wrap .i64 (a-n)=a-n:=dV (by omega) (by omega);have w2:IntKind.wrap .i64 (b-c)=b-c:=dV (by omega) (by omega);unfold zvb at hpm;simp only [yaj,yaq,yaZ] at hpm;rcases hpm with rfl|rfl|rfl|rfl|rfl
 all_goals
  simp only [bH,zap,zx,rO,J8,j6,D.d0,D.d4,D.d5,D.d6,D.b0,D.b1,yaL,yaR,ycC,yci,ne_eq,ybq] at hto;cases hl;refine ⟨?_,hbl⟩
 ·omega
 ·omega
 ·omega
 ·rw [he.ret];simp only [AV.val,AV.bK,fD,iL,Ji,bF,zsj,zsM,D.d0,D.d4,D.d5,D.d6,q4,q6,w1,w2,IZ];unfold vD;rw [yah hto.2.2.2];congr 5;exact ya4.2 (by omega)
 ·rw [he.ret];simp only [AV.val,AV.bK,fD,iL,Ji,bF,zsj,zsM,D.d0,D.d4,D.d5,D.d6,q4,q6,w1,w2,IZ];unfold vD;rw [yak hto.2.2.2];congr 5;exact ya4.2 (by omega)
def Tryz.TN:AV:= .agg [.bool (.lit true),.int .i64 (bg 0),.int .u64 (aP 1),.int .u64 (aP 2),.int .u64 (aP 3)]
section
variable {A:Nat→Prop} {w w':World} {S P L Bs B M N:Nat} {r:Tryz.Rg} {s s':Tryz.PS} {g g':Nat→Int}
end
theorem Tryz.gU.nums {r:Rg} (h:gU r):(1≤r.n∧r.n≤32768)∧(0≤r.d∧r.d<18446744073709551616)∧(0≤r.v∧r.v<18446744073709551616)∧(0≤r.c∧r.c<18446744073709551616):=by
 have h1:=h.bnd;have h2:=h.d;have h3:=h.v;have h4:=h.c;omega
section
variable {ρ:Val} {w0:World} {K:Nat→Prop} {P L Bs B N:Nat} {g:Nat→Int} {gs:List (Nat→Int)}
end
end Go.Proofs
namespace Go.Proofs
open Go.Dw Go.RowKit Go.Maps Go.Sort Go.Deep
section
variable {A:Nat→Prop} {w w':World} {S P L Bs B N b2:Nat} {r:Tryz.Rg} {s s':Tryz.PS} {g g':Nat→Int} {lv:Value}
end
end Go.Proofs
namespace Go.Proofs
open Go.Dw Go.RowKit
section
variable {ρ:Val} {P L Bs B N:Nat} {n d v c i ct id nx e:Int} {tb wr nwr:Bool} {sv:Value} {g:Nat→Int} {b2 W0:Nat} {l l3:List Tryz.Sg} {a q1 q2 q3:Nat} {w0:World} {K:Nat→Prop}
end
end Go.Proofs
namespace Go.Proofs
open Go.Dw Go.RowKit Go.Maps Go.Sort Go.Deep
theorem Tryz.BJ {n a c:Int} {x:Bool} (ha:0≤a∧a<n) (hc:0≤c∧c≤n):0≤(dF n a x c).1∧(dF n a x c).1<n:=by unfold dF;split<;>(simp only;omega)
end Go.Proofs
namespace Go.Proofs
open Go.Dw
def Tryz.XJ:List bL:= []
def Tryz.Zm:List Sh:= []
def Tryz.XK:List AV:= [TN]
def Tryz.ztZ:List (SB×Bool):= [((.cmp .neq (.bn [⟨1,0,18446744073709551615,0,4,0⟩] 0) (.lit 0)),false),((.cmp .gtr (.bin .sub .u64 (.bin .mul .u64 (.lit 16) (bg 0)) (.lit 1)) (.bin .sub .u64 (.lit 18446744073709551615) (aP 1))),false),((.cmp .neq (.bn [⟨2,0,18446744073709551615,0,2,0⟩] 0) (.lit 0)),false),((.cmp .gtr (.lit 3) (.bin .sub .u64 (.lit 18446744073709551615) (aP 2))),false),((.cmp .leq (aP 2) (aP 1)),false),((.cmp .lss (.bin .sub .u64 (aP 2) (aP 1)) (.bin .mul .u64 (.lit 16) (bg 0))),false),((.cmp .neq (.bn [⟨3,0,18446744073709551615,0,2,0⟩] 0) (.lit 0)),false),((.cmp .gtr (.lit 3) (.bin .sub .u64 (.lit 18446744073709551615) (aP 3))),false),((.cmp .leq (aP 3) (aP 1)),false),((.cmp .lss (.bin .sub .u64 (aP 3) (aP 1)) (.bin .mul .u64 (.lit 16) (bg 0))),false),((.cmp .leq (aP 3) (aP 2)),false),((.cmp .lss (.bin .sub .u64 (aP 3) (aP 2)) (.lit 4)),false)]
def Tryz.zrr:List Leaf:= [
 ⟨.int .i64 (.lit 0),[],[],0,[]⟩]
def Tryz.zwx:List (List (SB×Bool)×Nat):= [
 ([], 0)]
theorem Tryz.ztY:(ev prog (dW XJ) 100000 (.call 103 XK (dP 0 Zm) (jc zrr 0))).ways ztZ=some zwx:=by kernel_rfl
theorem Tryz.zwy:(fe Zm&&eZ XJ&&AV.dX XK&&jm zrr)=true:=by kernel_rfl
def Tryz.VJ:List bL:= []
def Tryz.Xe:List Sh:= []
def Tryz.VK:List AV:= [TN]
def Tryz.zra:List (SB×Bool):= [((.cmp .neq (.bn [⟨1,0,18446744073709551615,0,4,0⟩] 0) (.lit 0)),false),((.cmp .lss (.bin .add .u64 (aP 1) (.bin .sub .u64 (.bin .mul .u64 (.lit 16) (bg 0)) (.lit 1))) (aP 1)),false),((.cmp .neq (.bn [⟨2,0,18446744073709551615,0,2,0⟩] 0) (.lit 0)),false),((.cmp .lss (.bin .add .u64 (aP 2) (.lit 3)) (aP 2)),false),((.cmp .leq (aP 2) (aP 1)),false),((.cmp .lss (.bin .sub .u64 (aP 2) (aP 1)) (.bin .mul .u64 (.lit 16) (bg 0))),false),((.cmp .neq (.bn [⟨3,0,18446744073709551615,0,2,0⟩] 0) (.lit 0)),false),((.cmp .lss (.bin .add .u64 (aP 3) (.lit 3)) (aP 3)),false),((.cmp .leq (aP 3) (aP 1)),false),((.cmp .lss (.bin .sub .u64 (aP 3) (aP 1)) (.bin .mul .u64 (.lit 16) (bg 0))),false),((.cmp .leq (aP 3) (aP 2)),false),((.cmp .lss (.bin .sub .u64 (aP 3) (aP 2)) (.lit 4)),false)]
def Tryz.Yg:List Leaf:= [
 ⟨.int .i64 (.lit 0),[],[],0,[]⟩]
def Tryz.ztI:List (List (SB×Bool)×Nat):= [
 ([], 0)]
theorem Tryz.zq9:(ev prog (dW VJ) 100000 (.call 49 VK (dP 0 Xe) (jc Yg 0))).ways zra=some ztI:=by kernel_rfl
theorem Tryz.ztJ:(fe Xe&&eZ VJ&&AV.dX VK&&jm Yg)=true:=by kernel_rfl
open Go.RowKit
theorem Tryz.zpD {r:Rg} (h:gU r) (w:World):Calls prog 103 #[r.fu] w fun e w'=>e= .returned (.int .i64 0)∧Below w.heap.size w w':=by
 obtain ⟨⟨n1,n2⟩,hd,hv,hc⟩:=h.nums;have hb:=h.bnd;have e1:=h.d;have e2:=h.v;have e3:=h.c;have d0:(bg 0).den (dO [r.n,r.d,r.v,r.c] [] [])=r.n:=JL n1 n2;have d1:(aP 1).den (dO [r.n,r.d,r.v,r.c] [] [])=r.d:=lq hd.1 hd.2;have d2:(aP 2).den (dO [r.n,r.d,r.v,r.c] [] [])=r.v:=lq hv.1 hv.2;have d3:(aP 3).den (dO [r.n,r.d,r.v,r.c] [] [])=r.c:=lq hc.1 hc.2;have q1:SE.den (dO [r.n,r.d,r.v,r.c] [] []) (.bn [⟨1,0,18446744073709551615,0,4,0⟩] 0)=r.d%16:=BL (n:=4) hd.1 hd.2;have q2:SE.den (dO [r.n,r.d,r.v,r.c] [] []) (.bn [⟨2,0,18446744073709551615,0,2,0⟩] 0)=r.v%4:=BL (n:=2) hv.1 hv.2;have q3:SE.den (dO [r.n,r.d,r.v,r.c] [] []) (.bn [⟨3,0,18446744073709551615,0,2,0⟩] 0)=r.c%4:=BL (n:=2) hc.1 hc.2;have m1:IntKind.wrap .u64 (16*r.n)=16*r.n:=iN (by omega) (by omega);generalize dO [r.n,r.d,r.v,r.c] [] []=ρ at d0 d1 d2 d3 q1 q2 q3;refine ya7 (mR (ρ:=ρ) (K:=fun _=>False) (g:=bO.none) (bl:= []) (vals:= [r.fu]) mixed ztY zwy (fun b h=>h.elim) trivial trivial ja trivial (ay (nT (ay (dQ rfl) (ay (aO d0) (ay (aO d1) (ay (aO d2) (ay (aO d3) RL.nil)))))) RL.nil)
  (bH.2 ⟨by rw [xC,q1,bF];exact ybZ.2 (by omega),bH.2 ⟨by rw [rO,iL,iL,den_mul,bF,bF,bF,d0,d1,m1,iN (by omega) (by omega),iN (by omega) (by omega)];exact yao (by omega),bH.2 ⟨by rw [xC,q2,bF];exact ybZ.2 (by omega),bH.2 ⟨by rw [rO,iL,bF,bF,d2,iN (by omega) (by omega)];exact yao (by omega),bH.2 ⟨by rw [Cg,d2,d1];exact yao (by omega),bH.2 ⟨by rw [fD,iL,den_mul,bF,d0,d1,d2,m1,iN (by omega) (by omega)];exact yao (by omega),bH.2 ⟨by rw [xC,q3,bF];exact ybZ.2 (by omega),bH.2 ⟨by rw [rO,iL,bF,bF,d3,iN (by omega) (by omega)];exact yao (by omega),bH.2 ⟨by rw [Cg,d3,d1];exact yao (by omega),bH.2 ⟨by rw [fD,iL,den_mul,bF,d0,d1,d3,m1,iN (by omega) (by omega)];exact yao (by omega),bH.2 ⟨by rw [Cg,d3,d2];exact yao (by omega),bH.2 ⟨by rw [fD,iL,bF,d3,d2,iN (by omega) (by omega)];exact yao (by omega),zap.2 trivial⟩⟩⟩⟩⟩⟩⟩⟩⟩⟩⟩⟩)) fun e w' hh=> ?_
 obtain ⟨_,j,he⟩:=BS hh;exact ⟨he.ret,j4 he (fun _ h=>h)⟩
theorem Tryz.zmJ {r:Rg} (h:gU r) (w:World):Calls prog 49 #[r.fu] w fun e w'=>e= .returned (.int .i64 0)∧Below w.heap.size w w':=by
 obtain ⟨⟨n1,n2⟩,hd,hv,hc⟩:=h.nums;have hb:=h.bnd;have e1:=h.d;have e2:=h.v;have e3:=h.c;have d0:(bg 0).den (dO [r.n,r.d,r.v,r.c] [] [])=r.n:=JL n1 n2;have d1:(aP 1).den (dO [r.n,r.d,r.v,r.c] [] [])=r.d:=lq hd.1 hd.2;have d2:(aP 2).den (dO [r.n,r.d,r.v,r.c] [] [])=r.v:=lq hv.1 hv.2;have d3:(aP 3).den (dO [r.n,r.d,r.v,r.c] [] [])=r.c:=lq hc.1 hc.2;have q1:SE.den (dO [r.n,r.d,r.v,r.c] [] []) (.bn [⟨1,0,18446744073709551615,0,4,0⟩] 0)=r.d%16:=BL (n:=4) hd.1 hd.2;have q2:SE.den (dO [r.n,r.d,r.v,r.c] [] []) (.bn [⟨2,0,18446744073709551615,0,2,0⟩] 0)=r.v%4:=BL (n:=2) hv.1 hv.2;have q3:SE.den (dO [r.n,r.d,r.v,r.c] [] []) (.bn [⟨3,0,18446744073709551615,0,2,0⟩] 0)=r.c%4:=BL (n:=2) hc.1 hc.2;have m1:IntKind.wrap .u64 (16*r.n)=16*r.n:=iN (by omega) (by omega);generalize dO [r.n,r.d,r.v,r.c] [] []=ρ at d0 d1 d2 d3 q1 q2 q3;refine ya7 (mR (ρ:=ρ) (K:=fun _=>False) (g:=bO.none) (bl:= []) (vals:= [r.fu]) mixed zq9 ztJ (fun b h=>h.elim) trivial trivial ja trivial (ay (nT (ay (dQ rfl) (ay (aO d0) (ay (aO d1) (ay (aO d2) (ay (aO d3) RL.nil)))))) RL.nil)
  (bH.2 ⟨by rw [xC,q1,bF];exact ybZ.2 (by omega),bH.2 ⟨by rw [fD,den_add,iL,den_mul,bF,bF,d0,d1,m1,iN (k:=16*r.n-1) (by omega) (by omega),iN (by omega) (by omega)];exact yao (by omega),bH.2 ⟨by rw [xC,q2,bF];exact ybZ.2 (by omega),bH.2 ⟨by rw [fD,den_add,bF,d2,iN (by omega) (by omega)];exact yao (by omega),bH.2 ⟨by rw [Cg,d2,d1];exact yao (by omega),bH.2 ⟨by rw [fD,iL,den_mul,bF,d0,d1,d2,m1,iN (by omega) (by omega)];exact yao (by omega),bH.2 ⟨by rw [xC,q3,bF];exact ybZ.2 (by omega),bH.2 ⟨by rw [fD,den_add,bF,d3,iN (by omega) (by omega)];exact yao (by omega),bH.2 ⟨by rw [Cg,d3,d1];exact yao (by omega),bH.2 ⟨by rw [fD,iL,den_mul,bF,d0,d1,d3,m1,iN (by omega) (by omega)];exact yao (by omega),bH.2 ⟨by rw [Cg,d3,d2];exact yao (by omega),bH.2 ⟨by rw [fD,iL,bF,d3,d2,iN (by omega) (by omega)];exact yao (by omega),zap.2 trivial⟩⟩⟩⟩⟩⟩⟩⟩⟩⟩⟩⟩)) fun e w' hh=> ?_
 obtain ⟨_,j,he⟩:=BS hh;exact ⟨he.ret,j4 he (fun _ h=>h)⟩
open Go.Maps Go.Sort
theorem Tryz.zpm (a:Option Addr) (n c:Nat) (w:World):(binOp .eql 49 (.slice a n c) (.slice none 0 0)).run prog w= .ok (.bool a.isNone) w:=by
 simp only [binOp];simp [ydn w 49 137 _ _ _ underlying49]
set_option maxRecDepth 100000 in
theorem Tryz.VY {A:Nat→Prop} {w:World} {v:Value} {l:List Sg} (h:bC A w v l) (hl:l.length≤1000000):
    Calls prog 66 #[v] w fun e w'=> ∃u,e= .returned u∧fM w' w.heap.size u l∧Below w.heap.size w w':=by
  obtain ⟨sa,c,rfl,hok,hr⟩:=h;have hq:=zpm;obtain ⟨i0,hi0,hz0,hz1,hzb⟩:=yba Ff;have pO:=Ep l;cases sa with
  | none=>
    have h0:l= []:=by
      rcases hr with h|⟨R,o,h,_⟩
      · exact h
      · cases h
    subst h0;go_enter func66,ntmps66;go_wp2;go_ret;exact ⟨_,rfl,fM.nil _ _,yab _ _⟩
  | some ad=>
    have lF:=yco (base:=w.heap.size) (e:=137) (size:=3) w #[] 0 (yaa _) (by unfold maxLen;omega) rfl;have hb0:=(yab w.heap.size w).alloc (yaa _) (.cells #[] 137);have hnews: ∀j u,(dA l)[j]? =some u→(w.alloc (.cells #[] 137)).cell? (ad.add j)=some u:=fun j u hj=>by
      rcases hr with h|⟨R,o,h,_,hr⟩
      · subst h;cases hj
      · cases h;have hlt:R<w.heap.size:=yan w _ (hr j u hj);rw [Dw.addr_add];exact (yal (a:=⟨R,o+j,none⟩) (ycd w _ R hlt)).trans (hr j u hj)
    have hlen:=yY l;go_enter func66,ntmps66;go_wp2_with (first
      | (at_builtin;go_loud (refine ybV _ rfl _ _ 49 rfl w.heap.size 137 i0 _ 3 16 (by kernel_rfl) hi0 hz0 hz1 hzb rfl (by decide) _ _ _ rfl lF ad l.length c (dA l) rfl (by omega) hnews pO (by unfold maxLen;omega) (by omega) (by simp) ?_);intro v' w3 hown' hg3 _;go_frame)
      | go_in)
    go_ret;have hown2:fM w3 w.heap.size v' l:=by unfold fM;simpa using hown'
    refine ⟨_,rfl,hown2,hb0.grown hg3 (by simp) (fun j hj=> ?_)⟩;exact (lF.lt j hj).1
section
variable {A:Nat→Prop} {w:World} {S P L Bs B M N:Nat} {r:Tryz.Rg} {s:Tryz.PS} {g:Nat→Int}
end
end Go.Proofs
namespace Go.Proofs
open Go.RowKit Go.Maps Go.Sort
def Tryz.Pp (n:Nat):Rg:=⟨n,4096,4096+16*n,4100+16*n⟩
theorem Tryz.zpB {n:Nat} (h:1≤n∧n≤16):gU (Pp n):=⟨⟨by show (1:Int)≤n;omega,by show (n:Int)≤16;omega⟩,rfl,rfl,rfl⟩
def Tryz.zwq (n:Nat):Dw.AV:= .agg [.bool (.lit true),.int .i64 (.lit n),.int .u64 (.lit 4096),.int .u64 (.lit (4096+16*n)),.int .u64 (.lit (4100+16*n))]
def Tryz.Ng:List Nat:= [1,2,3,4,5,6,7,8,9,10,11,12,13,14,15,16]
theorem Tryz.zxB {n:Nat} (h:1≤n∧n≤16):n∈Ng:=by unfold Ng;simp;omega
noncomputable def Tryz.zt5 (n:Nat):Bool:=(Dw.ev prog Dw.zH 100000 (.call 8 [.bool (.lit true),.int .i64 (.lit n),.int .u64 (.lit 4096)] Dw.og (Dw.AA (.aK [zwq n,.int .u64 (.lit (8+16*n)),.int .i64 (.lit 0)])))).good
theorem Tryz.zmK:(Ng.all fun n=>zt5 n)=true:=by kernel_rfl
theorem Tryz.zpC (n:Nat) (hn:1≤n∧n≤16) (w:World):
  Calls prog 8 #[.bool true,.int .i64 n,.int .u64 4096] w fun e w'=>e= .returned (.tuple #[(Pp n).fu,.int .u64 (8+16*n),.int .i64 0])∧Below w.heap.size w w':=by
 have h1:=ybo.1 zmK n (zxB hn);exact Dw.PW (by kernel_rfl) rfl (Dw.Qb (Dw.QB (Dw.QB Dw.RL.nil))) h1 w
noncomputable def Tryz.zt4 (f:Nat):Bool:=(Dw.ev prog Dw.zH 100000 (.call f [] Dw.og (Dw.AA (.agg [.int .i64 (.lit 0),.bool (.lit true)])))).good
theorem Tryz.zmH:([56,39].all fun f=>zt4 f)=true:=by kernel_rfl
theorem Tryz.Iz (f:Nat) (hf:f=56∨f=39) (w:World):
  Calls prog f #[] w fun e w'=>e= .returned (.agg #[.int .i64 0,.bool true])∧Below w.heap.size w w':=by
 have h1:=ybo.1 zmH f (by simpa using hf);exact Dw.PW (by kernel_rfl) rfl Dw.RL.nil h1 w
end Go.Proofs
namespace Go.Proofs
open Go.Dw Go.RowKit
theorem Tryz.bq {w w':World} {p:Addr} {v:Value} (hb:Below w.heap.size w w') (h:w.cell? p=some v):w'.cell? p=some v:=(hb.cell (yan _ _ h)).trans h
def Tryz.BP:List (Nat×AV):= [(1,.int .i64 (ai 2)),(2,.int .i64 (fQ 5)),(3,sl1 [(ai 1,2)]),(4,.ptr 1 0),(11,.cst 2 none),(12,.int .i64 (ai 1))]
def Tryz.Kn:List Sh:= [.own [.int .i64 (ai 6),.bool (.var 1)],xV 3 4 0]
def Tryz.G9 (f:Int):bL:=⟨21,[.int .u16 (.lit f),.bool (.var 1),.bool (.lit false)],1,0,0,.int .u16 (fQ 8),1⟩
def Tryz.Ea:bL:=⟨40,[.agg [.int .i64 (ai 6),.bool (.var 1)],.int .i64 (.lit 1),.int .i64 (ai 2)],2,0,0,.aK [.agg [.int .i64 (ai 9),.bool (.var 2)],.int .i64 (.lit 0)],2⟩
def Tryz.D9 (base:Nat):gK:=⟨70,.cst 2 none,1,[.int .i64 (ai 6),.int .u64 (aP 3),.int .u32 (bV 4),.int .u16 (fQ 5),.int .u16 (fQ 8)],1,base,1,.opq base none,2⟩
end Go.Proofs
namespace Go.Proofs
open Go.Dw
def Tryz.VL:List bL:= [G9 3,Ea]
def Tryz.Wz:List Sh:=Kn
def Tryz.Oa:List (Nat×AV):=BP
def Tryz.Vg:List eH:= []
def Tryz.Vh:List gK:= [D9 4]
def Tryz.WA:Option AV:=none
def Tryz.zrd:List (SB×Bool):= [(.cmp .lss (ai 1) (ai 0),true),(.var 0,true),(.cmp .lss (.bin .add .i64 (ai 1) (.lit 1)) (ai 0),true)]
def Tryz.Zd:List ko:= [
 ⟨.normal,[1,2,3,4,11,12],none,⟨.aK [.int .i64 (ai 2),.int .i64 (fQ 5),.sx 1 ((ai 0)) 3 [((ai 1),2)],.ptr 1 0,.opq 4 none,.int .i64 (.bin .add .i64 (ai 1) (.lit 1))],[(1,[.int .i64 (ai 9),.bool (.var 2)])],[],2,[1]⟩⟩]
def Tryz.Zc:List (List (SB×Bool)×Nat):= [
 ([], 0)]
theorem Tryz.zrc:(kH prog (dW VL) (lT Vg) (lu Vh) 100000 (.code (bS prog [0,0,1,0,1,1,1,1,1,78]) [0,0,1,0,1,1,1,1,1,78] 86 (bP 86 Oa WA) (dP 1 Wz) (jE Zd 0))).ways zrd=some Zc:=by kernel_rfl
theorem Tryz.ztM:(fe Wz&&eZ VL&&lJ Vg&&lK Vh&&jC Oa&&lN Zd&&jo 86 Oa&&Nat.ble 86 bN&&lQ WA)=true:=by kernel_rfl
def Tryz.VN:List bL:= [G9 1,Ea]
def Tryz.WB:List Sh:=Kn
def Tryz.Oc:List (Nat×AV):=BP
def Tryz.Vi:List eH:= []
def Tryz.Vj:List gK:= [D9 4]
def Tryz.WC:Option AV:=none
def Tryz.zrf:List (SB×Bool):= [(.cmp .lss (ai 1) (ai 0),true),(.var 0,false),(.cmp .lss (.bin .add .i64 (ai 1) (.lit 1)) (ai 0),true)]
def Tryz.Zf:List ko:= [
 ⟨.normal,[1,2,3,4,11,12],none,⟨.aK [.int .i64 (ai 2),.int .i64 (fQ 5),.sx 1 ((ai 0)) 3 [((ai 1),2)],.ptr 1 0,.opq 4 none,.int .i64 (.bin .add .i64 (ai 1) (.lit 1))],[(1,[.int .i64 (ai 9),.bool (.var 2)])],[],2,[1]⟩⟩]
def Tryz.Ze:List (List (SB×Bool)×Nat):= [
 ([], 0)]
theorem Tryz.zre:(kH prog (dW VN) (lT Vi) (lu Vj) 100000 (.code (bS prog [0,0,1,0,1,1,1,1,1,78]) [0,0,1,0,1,1,1,1,1,78] 86 (bP 86 Oc WC) (dP 1 WB) (jE Zf 0))).ways zrf=some Ze:=by kernel_rfl
theorem Tryz.ztN:(fe WB&&eZ VN&&lJ Vi&&lK Vj&&jC Oc&&lN Zf&&jo 86 Oc&&Nat.ble 86 bN&&lQ WC)=true:=by kernel_rfl
def Tryz.VO:List bL:= [G9 2,Ea]
def Tryz.WE:List Sh:=Kn
def Tryz.Od:List (Nat×AV):=BP
def Tryz.Vk:List eH:= []
def Tryz.Vl:List gK:= [D9 4]
def Tryz.WG:Option AV:=none
def Tryz.zrh:List (SB×Bool):= [(.cmp .lss (ai 1) (ai 0),true),(.var 0,true),(.cmp .lss (.bin .add .i64 (ai 1) (.lit 1)) (ai 0),false)]
def Tryz.Zh:List ko:= [
 ⟨.normal,[1,2,3,4,11,12],none,⟨.aK [.int .i64 (ai 2),.int .i64 (fQ 5),.sx 1 ((ai 0)) 3 [((ai 1),2)],.ptr 1 0,.opq 4 none,.int .i64 (.bin .add .i64 (ai 1) (.lit 1))],[(1,[.int .i64 (ai 9),.bool (.var 2)])],[],2,[1]⟩⟩]
def Tryz.Zg:List (List (SB×Bool)×Nat):= [
 ([], 0)]
theorem Tryz.zrg:(kH prog (dW VO) (lT Vk) (lu Vl) 100000 (.code (bS prog [0,0,1,0,1,1,1,1,1,78]) [0,0,1,0,1,1,1,1,1,78] 86 (bP 86 Od WG) (dP 1 WE) (jE Zh 0))).ways zrh=some Zg:=by kernel_rfl
theorem Tryz.ztO:(fe WE&&eZ VO&&lJ Vk&&lK Vl&&jC Od&&lN Zh&&jo 86 Od&&Nat.ble 86 bN&&lQ WG)=true:=by kernel_rfl
def Tryz.VP:List bL:= [G9 0,Ea]
def Tryz.WH:List Sh:=Kn
def Tryz.Oe:List (Nat×AV):=BP
def Tryz.Vm:List eH:= []
def Tryz.Vn:List gK:= [D9 4]
def Tryz.WI:Option AV:=none
def Tryz.zrj:List (SB×Bool):= [(.cmp .lss (ai 1) (ai 0),true),(.var 0,false),(.cmp .lss (.bin .add .i64 (ai 1) (.lit 1)) (ai 0),false)]
def Tryz.Zj:List ko:= [
 ⟨.normal,[1,2,3,4,11,12],none,⟨.aK [.int .i64 (ai 2),.int .i64 (fQ 5),.sx 1 ((ai 0)) 3 [((ai 1),2)],.ptr 1 0,.opq 4 none,.int .i64 (.bin .add .i64 (ai 1) (.lit 1))],[(1,[.int .i64 (ai 9),.bool (.var 2)])],[],2,[1]⟩⟩]
def Tryz.Zi:List (List (SB×Bool)×Nat):= [
 ([], 0)]
theorem Tryz.zri:(kH prog (dW VP) (lT Vm) (lu Vn) 100000 (.code (bS prog [0,0,1,0,1,1,1,1,1,78]) [0,0,1,0,1,1,1,1,1,78] 86 (bP 86 Oe WI) (dP 1 WH) (jE Zj 0))).ways zrj=some Zi:=by kernel_rfl
theorem Tryz.ztP:(fe WH&&eZ VP&&lJ Vm&&lK Vn&&jC Oe&&lN Zj&&jo 86 Oe&&Nat.ble 86 bN&&lQ WI)=true:=by kernel_rfl
def Tryz.WJ:List bL:= []
def Tryz.Zk:List Sh:= [.own [.int .i64 (ai 6),.bool (.var 1)]]
def Tryz.IA:List (Nat×AV):= [(1,.int .i64 (ai 2)),(2,.int .i64 (fQ 5)),(3,sl1 []),(4,.ptr 1 0),(11,.cst 2 none),(12,.int .i64 (ai 1))]
def Tryz.VQ:List eH:= []
def Tryz.VR:List gK:= []
def Tryz.Zl:Option AV:=none
def Tryz.ztR:List (SB×Bool):= [(.cmp .lss (ai 1) (ai 0),false)]
def Tryz.zrl:List ko:= [
 ⟨(.exit 0),[11],none,⟨.aK [.cst 2 none],[],[],0,[]⟩⟩]
def Tryz.zrk:List (List (SB×Bool)×Nat):= [
 ([], 0)]
theorem Tryz.ztQ:(kH prog (dW WJ) (lT VQ) (lu VR) 100000 (.code (bS prog [0,0,1,0,1,1,1,1,1,78]) [0,0,1,0,1,1,1,1,1,78] 86 (bP 86 IA Zl) (dP 0 Zk) (jE zrl 0))).ways ztR=some zrk:=by kernel_rfl
theorem Tryz.zwt:(fe Zk&&eZ WJ&&lJ VQ&&lK VR&&jC IA&&lN zrl&&jo 86 IA&&Nat.ble 86 bN&&lQ Zl)=true:=by kernel_rfl
open Go.RowKit Go.Maps Go.Sort
def Tryz.fZ (f:Int) (wr:Bool):Int:=f+if wr then 128 else 32768
noncomputable def Tryz.zwC (f:Nat) (wr:Bool):Bool:=(Dw.ev prog Dw.zH 100000 (.call 21 [.int .u16 (.lit f),.bool (.lit wr),.bool (.lit false)] Dw.og (Dw.AA (.int .u16 (.lit (fZ f wr)))))).good
theorem Tryz.zpI:([0,1,2,3].all fun f=> [true,false].all fun wr=>zwC f wr)=true:=by kernel_rfl
theorem Tryz.Je (f:Nat) (hf:f=0∨f=1∨f=2∨f=3) (wr:Bool) (w:World):
  Calls prog 21 #[.int .u16 f,.bool wr,.bool false] w fun e w'=>e= .returned (.int .u16 (fZ f wr))∧Below w.heap.size w w':=by
 have h1:=ybo.1 (ybo.1 zpI f (by simp;omega)) wr (by cases wr<;>simp);exact Dw.PW (by kernel_rfl) rfl (Dw.QB (Dw.Qb (Dw.Qb Dw.RL.nil))) h1 w
def Tryz.bf (n a:Int) (x:Bool):Nat→Int×Bool
 | 0=>(a,x)
 | k+1=>dF n (bf n a x k).1 (bf n a x k).2 1
theorem Tryz.BQ {n a:Int} {x:Bool} (ha:0≤a∧a<n): ∀k,0≤(bf n a x k).1∧(bf n a x k).1<n
 | 0=>ha
 | k+1=>BJ (BQ ha k) ⟨by decide,by have:=BQ ha k (x:=x);omega⟩
def Tryz.iJ (n id a:Int) (x:Bool) (l:List Sg) (k:Nat):Pt:=
 ⟨(bf n a x k).1,(l.getD k ⟨0,0,false⟩).bB,(l.getD k ⟨0,0,false⟩).len,id,fZ ((if (l.getD k ⟨0,0,false⟩).wr then 2 else 0)+(if k+1<l.length then 1 else 0)) (bf n a x k).2⟩
def Tryz.dN (n id a:Int) (x:Bool) (l:List Sg) (k:Nat):List Pt:=(List.range k).map (iJ n id a x l)
theorem Tryz.WK (n id a:Int) (x:Bool) (l:List Sg) (k:Nat):dN n id a x l (k+1)=dN n id a x l k++ [iJ n id a x l k]:=by simp [dN,ycF]
theorem Tryz.BI (n id a:Int) (x:Bool) (l:List Sg) (k:Nat):(dN n id a x l k).length=k:=by simp [dN]
def Tryz.vH (w:World) (b2:Nat) (v:Value) (ps:List Pt):Prop:=af 139 5 w b2 v ps.length (dY ps)
def Tryz.zxW (b2:Nat) (v:Value) (ps:List Pt) (F:Nat→Prop) (w:World):Prop:=vH w b2 v ps∧ ∀b,v.ownBlock=some b→F b
def Tryz.yR (b2 base:Nat) (v:Value) (p1 p2:List Pt):bO where
 fact k q F w:=match k with|0=>True|1=>zxW b2 v p1 F w|_=> ∃u,q base=some u∧zxW b2 u p2 F w
 loc:=fun k q q' F w w' h hq hb hs=>by
  match k,h with
  | 0,_=>trivial
  | 1,⟨h7,h8⟩=>exact ⟨af.kept h7 fun b e=>hb b (h8 b e),h8⟩
  | k+2,⟨u,h7,h8,h9⟩=>exact ⟨u,hq _ _ h7,af.kept h8 fun b e=>hb b (h9 b e),h9⟩
theorem Tryz.zx6:(prog.info? 139).map (fun i=>(i.zero.isSome,i.size,i.bytes))=some (true,5,24):=by kernel_rfl
theorem Tryz.zwS:((prog.info? 139).bind (·.zero)).map (·.cells.size)=some 5:=by kernel_rfl
set_option maxRecDepth 10000 in
theorem Tryz.Ka {ρ:Val} {w0:World} {K:Nat→Prop} {b2 base:Nat} {v:Value} {p1:List Pt} {p:Pt} (hv2:ρ.v 2=v) (h9:(ai 6).den ρ=p.aG) (h3:(aP 3).den ρ=p.a) (h4:(bV 4).den ρ=p.ln) (hf:(fQ 5).den ρ=p.f) (hnx:(fQ 8).den ρ=p.nx)
  (hb2:b2≤w0.heap.size) (hK: ∀b,v.ownBlock=some b→K b) (hl:p1.length≤100000):zyp prog ρ w0 K (yR b2 base v p1 (p1++ [p])) (D9 base):=by
 intro j w F n us bb o cap vals ty fH hcells hxs hnone hbase hF hsz hfa;have hb:n=base:=hbase (by show (1:Nat)≠0;decide);subst hb;obtain ⟨f5,f6⟩:=hfa;have fH:=zQ rfl fH;have fH:us=v:=by rw [fH];exact hv2
 subst fH;obtain ⟨x0,_,rfl,e0,hxs⟩:=hxs;obtain ⟨x1,_,rfl,e1,hxs⟩:=hxs;obtain ⟨x2,_,rfl,e2,hxs⟩:=hxs;obtain ⟨x3,_,rfl,e3,hxs⟩:=hxs;obtain ⟨x4,_,rfl,e4,hxs⟩:=hxs;have hxs:_= []:=hxs;subst hxs;have e0:x0= .int .i64 p.aG:=by rw [show x0= .int .i64 (SE.den ρ (ai 6)) from e0,h9]
 have e1:x1= .int .u64 p.a:=by rw [show x1= .int .u64 (SE.den ρ (aP 3)) from e1,h3]
 have e2:x2= .int .u32 p.ln:=by rw [show x2= .int .u32 (SE.den ρ (bV 4)) from e2,h4]
 have e3:x3= .int .u16 p.f:=by rw [show x3= .int .u16 (SE.den ρ (fQ 5)) from e3,hf]
 have e4:x4= .int .u16 p.nx:=by rw [show x4= .int .u16 (SE.den ρ (fQ 8)) from e4,hnx]
 subst e0 e1 e2 e3 e4;have hinfo:=zx6;have LM:=zwS;cases hi:prog.info? 139 with
 | none=>rw [hi] at hinfo;cases hinfo
 | some i=>
 rw [hi] at hinfo LM;simp only [yaJ,ybH,ycX] at hinfo;obtain ⟨i1,i2,i3⟩:=hinfo;obtain ⟨z,hz⟩:=ydX.1 i1;simp only [ycA,hz,yaJ,ybH] at LM;obtain ⟨u,w',h1,h2,h3,h4,h5⟩:=run_append_own_at (P:=prog) w b2 70 ty 139 i z 5 24 (by kernel_rfl) hi hz i2 i3 LM (by decide) us p1.length (dY p1) f5 ⟨bb,o,none⟩ 1 cap p.cells rfl
  (fun q y hy=>by rw [Dw.addr_add];exact hcells q y hy) (fun y hy=>by simp only [Pt.cells,yaj,yaq,yaZ] at hy;rcases hy with rfl|rfl|rfl|rfl|rfl<;>rfl) (by unfold maxLen;omega) (by omega) (by omega)
 have hseg:dY p1++p.cells=dY (p1++ [p]):=by simp [dY]
 have hown:vH w' b2 u (p1++ [p]):=by
  unfold vH af;rw [←hseg,yaC];exact h2
 have hub:=af.lt hown;have aa6: ∀b,u.ownBlock=some b→us.ownBlock=some b∨w.heap.size≤b:=fun b hb=>by
  rcases h5 with h5|h5
  ·exact .inl (h5▸hb)
  ·rw [hb] at h5;cases h5;exact .inr (yaa _)
 have hmv:Dw.Mv (fun b=>us.ownBlock=some b) w w':=⟨h3.os,h3.tape,h3.output,h3.size,fun b hb hn=>h3.block b hb (fun e=>hn e.symm)⟩;refine ⟨u,w',[u],fun b=>F b∨u.ownBlock=some b,h1,rfl,⟨⟨⟨0,0,0,some u⟩,?_,rfl⟩,af.one hown,fun _ h=>(by cases h)⟩,⟨u,Zo,hown,fun b hb=> .inr hb⟩,?_,hmv.mono fun b hb=>⟨f6 b hb,.inr (hK b hb)⟩⟩
 ·show jq j n _ n=_;unfold jq;rw [yak ⟨yaa _,by simp⟩];simp
 ·rintro b (hb|hb)
  ·exact ⟨yae (hF b hb) hmv.size,.inl hb⟩
  ·refine ⟨(hub b hb).2,?_⟩;rcases aa6 b hb with h|h
   ·exact .inl (f6 b h)
   ·exact .inr h
structure Tryz.Cr (ρ:Val) (m k n id a fl na:Int) (s:Sg) (x nx:Bool) (sv ov:Value):Prop where
 d0:(ai 0).den ρ=m
 d1:(ai 1).den ρ=k
 d2:(ai 2).den ρ=n
 d3:(aP 3).den ρ=s.bB
 d4:(bV 4).den ρ=s.len
 d5:(fQ 5).den ρ=id
 d6:(ai 6).den ρ=a
 d8:(fQ 8).den ρ=fl
 d9:(ai 9).den ρ=na
 b0:ρ.b 0=s.wr
 b1:ρ.b 1=x
 b2:ρ.b 2=nx
 v1:ρ.v 1=sv
 v2:ρ.v 2=ov
theorem Tryz.TL {m k n id a fl na:Int} {s:Sg} {x nx:Bool} {sv ov:Value} (hm:0≤m∧m<64000) (hk:0≤k∧k<64000) (hn:0≤n∧n<64000) (hid:0≤id∧id<65536) (ha:0≤a∧a<64000) (hf:0≤fl∧fl<65536) (hna:0≤na∧na<64000) (hs:s.ok):
  ∃ ρ,Cr ρ m k n id a fl na s x nx sv ov:=
 ⟨dO [m,k,n,s.bB,s.len,id,a,0,fl,na] [s.wr,x,nx] [undef,sv,ov],lU hm.1 (by show m<_;omega),lU hk.1 (by show k<_;omega),lU hn.1 (by show n<_;omega),lq hs.1 hs.2.1,xw hs.2.2.1 hs.2.2.2,zo hid.1 hid.2,lU ha.1 (by show a<_;omega),zo hf.1 hf.2,lU hna.1 (by show na<_;omega),rfl,rfl,rfl,rfl,rfl⟩
set_option maxRecDepth 100000 in
theorem Tryz.Vb {A:Nat→Prop} {w:World} {v:Value} {l:List Sg} {n id a:Int} {x:Bool} (h:bC A w v l) (hm:rQ l=0) (hln:(l.length:Int)≤n) (hn:1≤n∧n≤32768) (ha:0≤a∧a<n) (hid:0≤id∧id<n):
    Calls prog 78 #[bM a x,.int .i64 n,.int .i64 id,v] w fun e w'=>(∃u,e= .returned (.tuple #[u,.int .i64 0])∧vH w' w.heap.size u (dN n id a x l l.length))∧Below w.heap.size w w':=by
  have hmay:=fun w1 (hb:Below w.heap.size w w1)=>Pz (h.below hb) (by omega);rw [hm] at hmay;obtain ⟨sa,cs,rfl,hok,hr⟩:=h;have hA:=(yab w.heap.size w).alloc (yaa _);have i1: ¬id<0:=by omega
  have i2: ¬n≤id:=by omega
  have i3: ¬n<(l.length:Int):=by omega
  have i4: ¬a<0:=by omega
  have i5: ¬n≤a:=by omega
  have i6:1≤n:=hn.1;have i7:n≤32768:=hn.2;unfold bM;go_enter func78,ntmps78;go_wp2_with (first
    | (go_at_call 124;refine (hmay _ (hA _)).mono ?_;rintro e w1 ⟨rfl,hb1⟩;have kp:=(Cl.new w _ _).below hb1 (by simp);have c0:=kp.cell 0 _ rfl;have c1:=kp.cell 1 _ rfl)
    | go_in)
  rename_i K hK;obtain ⟨R0,hR0⟩: ∃R0,R0=w.heap.size:=⟨_,rfl⟩;obtain ⟨W,hW⟩: ∃W,W=w1.alloc (Obj.cells #[.int .i64 a,.bool x] 64):=⟨_,rfl⟩;have hbW:Below R0 w W:=by rw [hW,hR0];exact ((hA _).trans (hb1.mono (by simp))).alloc (yas (by simp) hb1.size) _
  have oW:Own W R0 [.int .i64 a,.bool x]:=by
    rw [hW,hR0];have e1:=hb1.size;simp only [fw] at e1;exact ((Pv w _ _).kept (hb1.block w.heap.size (by simp))).kept (ydg w1 _ (h:=by omega))
  have hWs:R0+1≤W.heap.size:=by
    have e1:=hb1.size;simp only [fw] at e1;rw [hW,fw];omega
  rw [←hW];clear hW hmay hA c0 c1 kp hb1;have hrs:l= []∨ ∃R o,sa=some ⟨R,o,none⟩∧w.rangeAt R o (dA l):=hr.imp_right fun ⟨R,o,e,_,h⟩=>⟨R,o,e,h⟩;rw [←hR0];have tail: ∀ {a2:Act} {w2:World} {u:Value},a2.tmps.size=86→a2.defers= []→a2.tmps.getD 11 undef=u→vH w2 (R0+1) u (dN n id a x l l.length)→Below R0 w w2→K a2 w2:=fun {a2 w2 u} z1 z2 z3 z4 z5=>by
    refine hK _ _ ?_;clear hK;obtain ⟨tmps,dH⟩:=a2;have z2:dH= []:=z2;have z1:tmps.size=86:=z1;have z3:tmps.getD 11 undef=u:=z3;subst z2;go_wp2_with fail;refine yap (v:= .tuple #[u,.int .i64 0]) ?_ rfl ⟨⟨u,rfl,af.mono z4 (by omega)⟩,hR0▸z5⟩;rw [yav,yaQ (by omega)] at z3;simp [results,results78,z1]
    try exact z3
  refine mr (c':= .loop (bS prog [0,0,1,0,1,1,1,1,1,78])) (by kernel_rfl) ?_;refine IL (fun (y:Nat×Value) a' w'=>y.1≤l.length∧a'.tmps.size=86∧a'.defers= []∧([1,2,3,4,11,12].map fun t=>a'.tmps.getD t undef)= [.int .i64 n,.int .i64 id,.slice sa l.length cs,.pointer (some ⟨R0,0,none⟩),y.2,.int .i64 y.1]∧
      Own w' R0 [.int .i64 (bf n a x y.1).1,.bool (bf n a x y.1).2]∧vH w' (R0+1) y.2 (dN n id a x l y.1)∧Below R0 w w'∧R0+1≤w'.heap.size)
    (fun y=>l.length-y.1) (fun y a1 w1 hI=> ?_) (0,.slice none 0 0) _ _ ⟨yar _,rfl,rfl,rfl,oW,af.nil _ _ _ _,hbW,hWs⟩
  obtain ⟨k,vk⟩:=y;obtain ⟨hk,q0,qd,hsl,oP,hov,hbl,hsz⟩:=hI;simp only at hk hsl oP hov;simp only [yaU,ybM,ybb,ybq] at hsl;obtain ⟨s1,s2,s3,s4,s11,s12⟩:=hsl;have Tj:=af.one hov;have uH:=af.lt hov;have hpk:=BQ (x:=x) ha k;have ab8:=BQ (x:=x) ha (k+1);have hwk:=zu1 k (by omega);have CR: ∀b,(b=R0∨vk.ownBlock=some b)→b<w1.heap.size:=fun b hb=>by
    rcases hb with rfl|hb
    · omega
    · exact (uH b hb).2
  by_cases hkl:k<l.length
  · rcases hrs with h0|⟨R,p,rfl,hrs⟩
    · rw [h0] at hkl;simp at hkl
    have hRl:=tO hrs (by intro h0;rw [h0] at hkl;simp at hkl);have aa2:=aX hrs (hbl.block R (by omega));have hxs:=xq aa2 k hkl;have hxo:=hok l[k] (yaA hkl);have hnR: ¬(R=R0∨vk.ownBlock=some R):=by
      rintro (e|e)
      · omega
      · have:=(uH R e).1;omega
    have hsx:l.getD k ⟨0,0,false⟩=l[k]:=by simp [yaw,hkl]
    have ha0:(iJ n id a x l k).a=l[k].bB:=by simp only [iJ,hsx]
    have hl0:(iJ n id a x l k).ln=l[k].len:=by simp only [iJ,hsx]
    have uz:(iJ n id a x l k).nx=fZ ((if l[k].wr then 2 else 0)+(if k+1<l.length then 1 else 0)) (bf n a x k).2:=by simp only [iJ,hsx]
    have hfb:0≤(iJ n id a x l k).nx∧(iJ n id a x l k).nx<65536:=by
      rw [uz];unfold fZ
      repeat' split
      all_goals decide
    have hj1:cB [(R0,0),(R,p+3*k)] 1=some ⟨R0,0,0,none⟩:=rfl;have hj2:cB [(R0,0),(R,p+3*k)] 2=some ⟨R,p+3*k,0,none⟩:=rfl;have hG:(yR (R0+1) 4 vk (dN n id a x l k) (dN n id a x l k++ [iJ n id a x l k])).G 1 (cB [(R0,0),(R,p+3*k)]) w1:=
      ⟨fun b=>vk.ownBlock=some b,fun b hb'=>⟨(uH b hb').2,fun hmn=>by
        have:=zud hmn;simp only [yaU,ybM,yaj,yaq,yaZ] at this;have h1:=(uH b hb').1;rcases this with e|e<;>omega⟩,hov,fun b hb'=>hb'⟩
    obtain ⟨ρ,D⟩:=TL (m:=l.length) (k:=k) (n:=n) (id:=id) (a:=(bf n a x k).1) (fl:=(iJ n id a x l k).nx) (na:=(bf n a x (k+1)).1) (s:=l[k]) (x:=(bf n a x k).2) (nx:=(bf n a x (k+1)).2) (sv:= .slice (some ⟨R,p,none⟩) l.length cs) (ov:=vk) (by omega) (by omega) (by omega) (by omega) (by omega) hfb (by omega) hxo;have dk1: ∀ {ρ:Val},Cr ρ l.length k n id (bf n a x k).1 (iJ n id a x l k).nx (bf n a x (k+1)).1 l[k] (bf n a x k).2 (bf n a x (k+1)).2 (.slice (some ⟨R,p,none⟩) l.length cs) vk→(SE.bin .add .i64 (ai 1) (.lit 1)).den ρ=((k+1:Nat):Int):=fun D=>by rw [den_add,D.d1,bF,hwk]
    have iT: ∀ {ρ:Val} {w0:World} {K:Nat→Prop} {g:bO},Cr ρ l.length k n id (bf n a x k).1 (iJ n id a x l k).nx (bf n a x (k+1)).1 l[k] (bf n a x k).2 (bf n a x (k+1)).2 (.slice (some ⟨R,p,none⟩) l.length cs) vk→Fs prog ρ w0 K g Ea:=fun D=>
      Bj (Dw.enters_of (by kernel_rfl)) (by rfl) [bM (bf n a x k).1 (bf n a x k).2,.int .i64 1,.int .i64 n] (.tuple #[bM (bf n a x (k+1)).1 (bf n a x (k+1)).2,.int .i64 0]) (fun j=>ay (nT (ay (aO D.d6) (ay (dQ D.b1) RL.nil))) (ay (aO rfl) (ay (aO D.d2) RL.nil))) (fun j=>zyk (ay (nT (ay (aO D.d9) (ay (dQ D.b2) RL.nil))) (ay (aO rfl) RL.nil))) (fun w F q hf=>Pn hn hpk ⟨by decide,hn.1⟩ w)
    have slots: ∀ {ρ:Val},Cr ρ l.length k n id (bf n a x k).1 (iJ n id a x l k).nx (bf n a x (k+1)).1 l[k] (bf n a x k).2 (bf n a x (k+1)).2 (.slice (some ⟨R,p,none⟩) l.length cs) vk→ ∀t∈BP,Dw.R ρ (cB [(R0,0),(R,p+3*k)]) t.2 (a1.tmps.getD t.1 undef):=fun {ρ} D t ht=>by
      simp only [BP,yaj,yaq,yaZ] at ht;rcases ht with rfl|rfl|rfl|rfl|rfl|rfl
      · rw [s1];exact aO D.d2
      · rw [s2];exact aO D.d5
      · rw [s3];exact ⟨D.v1.symm,_,_,_,rfl,D.d0.symm,⟨R,p,_,k,rfl,hj2,rfl,D.d1,hkl,rfl⟩,trivial⟩
      · rw [s4];exact ⟨_,hj1,rfl⟩
      · rw [s11];exact zym D.v2 Tj
      · rw [s12];exact aO D.d1
    have fin: ∀ {ρ:Val} {j2:J} {a2:Act} {w2:World},Cr ρ l.length k n id (bf n a x k).1 (iJ n id a x l k).nx (bf n a x (k+1)).1 l[k] (bf n a x k).2 (bf n a x (k+1)).2 (.slice (some ⟨R,p,none⟩) l.length cs) vk→a2.tmps.size=86→a2.defers= []→Dw.Mv (fun b=>b=R0∨vk.ownBlock=some b) w1 w2→
        (yR (R0+1) 4 vk (dN n id a x l k) (dN n id a x l k++ [iJ n id a x l k])).G 2 j2 w2→Own w2 R0 (AV.bK ρ (fq j2) [.int .i64 (ai 9),.bool (.var 2)])→([1,2,3,4,11,12].map fun t=>a2.tmps.getD t undef)= [.int .i64 n,.int .i64 id,.slice (some ⟨R,p,none⟩) l.length cs,.pointer (some ⟨R0,0,none⟩),(AV.opq 4 none).val ρ (fq j2),.int .i64 (k+1:Nat)]→
        ∃ y':Nat×Value,l.length-y'.1<l.length-k∧y'.1≤l.length∧a2.tmps.size=86∧a2.defers= []∧([1,2,3,4,11,12].map fun t=>a2.tmps.getD t undef)= [.int .i64 n,.int .i64 id,.slice (some ⟨R,p,none⟩) l.length cs,.pointer (some ⟨R0,0,none⟩),y'.2,.int .i64 y'.1]∧
          Own w2 R0 [.int .i64 (bf n a x y'.1).1,.bool (bf n a x y'.1).2]∧vH w2 (R0+1) y'.2 (dN n id a x l y'.1)∧Below R0 w w2∧R0+1≤w2.heap.size:=fun {ρ j2 a2 w2} D r1 r2 r3 r4 r5 r6=>by
      obtain ⟨F2,_,u,hu,hou,_⟩:=r4;rw [zru hu] at r6;simp only [AV.bK,AV.val,D.d9,j6,D.b2] at r5;refine ⟨(k+1,u),by simp only;omega,hkl,r1,r2,r6,r5,?_,⟨r3.os.trans hbl.os,r3.tape.trans hbl.tape,r3.output.trans hbl.output,yas hbl.size r3.size,fun b hb'=>(r3.block b (by have:=hbl.size;omega) fun e=>by
        rcases e with e|e
        · omega
        · have:=(uH b e).1;omega).trans (hbl.block b hb')⟩,yas hsz r3.size⟩
      rw [WK];exact hou
    cases hwr:l[k].wr
    · by_cases hk1:k+1<l.length
      · refine ybu (oN (ρ:=ρ) (K:=fun b=>b=R0∨vk.ownBlock=some b) (g:=yR (R0+1) 4 vk (dN n id a x l k) (dN n id a x l k++ [iJ n id a x l k])) (bl:= [(R0,0),(R,p+3*k)]) mixed zre ztN CR
          ⟨oO oP (ay (aO D.d6) (ay (dQ D.b1) RL.nil)) (.inl rfl),rG hxs (by unfold Sg.cells;simp) (ay (aO D.d3) (ay (aO D.d4) (ay (dQ D.b0) RL.nil))) hnR,trivial⟩
          (Bn (by simp;omega)) hG ⟨Bj (Dw.enters_of (by kernel_rfl)) (by rfl) [.int .u16 1,.bool (bf n a x k).2,.bool false] (.int .u16 (fZ 1 (bf n a x k).2)) (fun j=>ay (aO rfl) (ay (dQ D.b1) (ay (dQ rfl) RL.nil))) (fun j=>aO (D.d8.trans (by rw [uz,hwr];rw [yak hk1];rfl))) (fun w F q hf=>Je 1 (by decide) _ w),iT D,trivial⟩ trivial ⟨Ka D.v2 D.d6 (D.d3.trans ha0.symm) (D.d4.trans hl0.symm) D.d5 (D.d8.trans rfl) (by omega) (fun b hb=> .inr hb) (by rw [BI];omega),trivial⟩ q0 qd (slots D)
          (bH.2 ⟨by rw [fD,D.d0,D.d1];exact yaH (by omega),bH.2 ⟨by rw [j6,D.b0];exact hwr,bH.2 ⟨by rw [fD,D.d0,dk1 D];exact yaH (by omega),zap.2 trivial⟩⟩⟩)) fun ex a2 w2 hh=> ?_
        obtain ⟨q,hq,hto,lf,hlf,rfl,hsz2,j2,uy,he⟩:=hh;unfold Ze at hq;simp only [yaj,yaq,yaZ] at hq;subst hq;cases hlf;have hs2:=jZ he.ret;refine fin D hsz2 uy he.mv he.nY ((he.rows.1 _ (he.sub _ _ hj1)).2 (.inr (.inl rfl)) rfl) ?_;rw [hs2];simp only [AV.bK,AV.val,D.v1,D.d2,D.d5,dk1 D,gQ (he.sub _ _ hj1)]
      · refine ybu (oN (ρ:=ρ) (K:=fun b=>b=R0∨vk.ownBlock=some b) (g:=yR (R0+1) 4 vk (dN n id a x l k) (dN n id a x l k++ [iJ n id a x l k])) (bl:= [(R0,0),(R,p+3*k)]) mixed zri ztP CR
          ⟨oO oP (ay (aO D.d6) (ay (dQ D.b1) RL.nil)) (.inl rfl),rG hxs (by unfold Sg.cells;simp) (ay (aO D.d3) (ay (aO D.d4) (ay (dQ D.b0) RL.nil))) hnR,trivial⟩
          (Bn (by simp;omega)) hG ⟨Bj (Dw.enters_of (by kernel_rfl)) (by rfl) [.int .u16 0,.bool (bf n a x k).2,.bool false] (.int .u16 (fZ 0 (bf n a x k).2)) (fun j=>ay (aO rfl) (ay (dQ D.b1) (ay (dQ rfl) RL.nil))) (fun j=>aO (D.d8.trans (by rw [uz,hwr];rw [yah hk1];rfl))) (fun w F q hf=>Je 0 (by decide) _ w),iT D,trivial⟩ trivial ⟨Ka D.v2 D.d6 (D.d3.trans ha0.symm) (D.d4.trans hl0.symm) D.d5 (D.d8.trans rfl) (by omega) (fun b hb=> .inr hb) (by rw [BI];omega),trivial⟩ q0 qd (slots D)
          (bH.2 ⟨by rw [fD,D.d0,D.d1];exact yaH (by omega),bH.2 ⟨by rw [j6,D.b0];exact hwr,bH.2 ⟨by rw [fD,D.d0,dk1 D];exact yao (by omega),zap.2 trivial⟩⟩⟩)) fun ex a2 w2 hh=> ?_
        obtain ⟨q,hq,hto,lf,hlf,rfl,hsz2,j2,uy,he⟩:=hh;unfold Zi at hq;simp only [yaj,yaq,yaZ] at hq;subst hq;cases hlf;have hs2:=jZ he.ret;refine fin D hsz2 uy he.mv he.nY ((he.rows.1 _ (he.sub _ _ hj1)).2 (.inr (.inl rfl)) rfl) ?_;rw [hs2];simp only [AV.bK,AV.val,D.v1,D.d2,D.d5,dk1 D,gQ (he.sub _ _ hj1)]
    · by_cases hk1:k+1<l.length
      · refine ybu (oN (ρ:=ρ) (K:=fun b=>b=R0∨vk.ownBlock=some b) (g:=yR (R0+1) 4 vk (dN n id a x l k) (dN n id a x l k++ [iJ n id a x l k])) (bl:= [(R0,0),(R,p+3*k)]) mixed zrc ztM CR
          ⟨oO oP (ay (aO D.d6) (ay (dQ D.b1) RL.nil)) (.inl rfl),rG hxs (by unfold Sg.cells;simp) (ay (aO D.d3) (ay (aO D.d4) (ay (dQ D.b0) RL.nil))) hnR,trivial⟩
          (Bn (by simp;omega)) hG ⟨Bj (Dw.enters_of (by kernel_rfl)) (by rfl) [.int .u16 3,.bool (bf n a x k).2,.bool false] (.int .u16 (fZ 3 (bf n a x k).2)) (fun j=>ay (aO rfl) (ay (dQ D.b1) (ay (dQ rfl) RL.nil))) (fun j=>aO (D.d8.trans (by rw [uz,hwr];rw [yak hk1];rfl))) (fun w F q hf=>Je 3 (by decide) _ w),iT D,trivial⟩ trivial ⟨Ka D.v2 D.d6 (D.d3.trans ha0.symm) (D.d4.trans hl0.symm) D.d5 (D.d8.trans rfl) (by omega) (fun b hb=> .inr hb) (by rw [BI];omega),trivial⟩ q0 qd (slots D)
          (bH.2 ⟨by rw [fD,D.d0,D.d1];exact yaH (by omega),bH.2 ⟨by rw [j6,D.b0];exact hwr,bH.2 ⟨by rw [fD,D.d0,dk1 D];exact yaH (by omega),zap.2 trivial⟩⟩⟩)) fun ex a2 w2 hh=> ?_
        obtain ⟨q,hq,hto,lf,hlf,rfl,hsz2,j2,uy,he⟩:=hh;unfold Zc at hq;simp only [yaj,yaq,yaZ] at hq;subst hq;cases hlf;have hs2:=jZ he.ret;refine fin D hsz2 uy he.mv he.nY ((he.rows.1 _ (he.sub _ _ hj1)).2 (.inr (.inl rfl)) rfl) ?_;rw [hs2];simp only [AV.bK,AV.val,D.v1,D.d2,D.d5,dk1 D,gQ (he.sub _ _ hj1)]
      · refine ybu (oN (ρ:=ρ) (K:=fun b=>b=R0∨vk.ownBlock=some b) (g:=yR (R0+1) 4 vk (dN n id a x l k) (dN n id a x l k++ [iJ n id a x l k])) (bl:= [(R0,0),(R,p+3*k)]) mixed zrg ztO CR
          ⟨oO oP (ay (aO D.d6) (ay (dQ D.b1) RL.nil)) (.inl rfl),rG hxs (by unfold Sg.cells;simp) (ay (aO D.d3) (ay (aO D.d4) (ay (dQ D.b0) RL.nil))) hnR,trivial⟩
          (Bn (by simp;omega)) hG ⟨Bj (Dw.enters_of (by kernel_rfl)) (by rfl) [.int .u16 2,.bool (bf n a x k).2,.bool false] (.int .u16 (fZ 2 (bf n a x k).2)) (fun j=>ay (aO rfl) (ay (dQ D.b1) (ay (dQ rfl) RL.nil))) (fun j=>aO (D.d8.trans (by rw [uz,hwr];rw [yah hk1];rfl))) (fun w F q hf=>Je 2 (by decide) _ w),iT D,trivial⟩ trivial ⟨Ka D.v2 D.d6 (D.d3.trans ha0.symm) (D.d4.trans hl0.symm) D.d5 (D.d8.trans rfl) (by omega) (fun b hb=> .inr hb) (by rw [BI];omega),trivial⟩ q0 qd (slots D)
          (bH.2 ⟨by rw [fD,D.d0,D.d1];exact yaH (by omega),bH.2 ⟨by rw [j6,D.b0];exact hwr,bH.2 ⟨by rw [fD,D.d0,dk1 D];exact yao (by omega),zap.2 trivial⟩⟩⟩)) fun ex a2 w2 hh=> ?_
        obtain ⟨q,hq,hto,lf,hlf,rfl,hsz2,j2,uy,he⟩:=hh;unfold Zg at hq;simp only [yaj,yaq,yaZ] at hq;subst hq;cases hlf;have hs2:=jZ he.ret;refine fin D hsz2 uy he.mv he.nY ((he.rows.1 _ (he.sub _ _ hj1)).2 (.inr (.inl rfl)) rfl) ?_;rw [hs2];simp only [AV.bK,AV.val,D.v1,D.d2,D.d5,dk1 D,gQ (he.sub _ _ hj1)]
  · have hkk:k=l.length:=by omega
    obtain ⟨ρ,D⟩:=TL (m:=l.length) (k:=k) (n:=n) (id:=id) (a:=(bf n a x k).1) (fl:=0) (na:=0) (s:=⟨0,1,false⟩) (x:=(bf n a x k).2) (nx:=false) (sv:= .slice sa l.length cs) (ov:=vk) (by omega) (by omega) (by omega) (by omega) (by omega) (by omega) (by omega) zx0;have hj1:cB [(R0,0)] 1=some ⟨R0,0,0,none⟩:=rfl;refine ybu (oN (ρ:=ρ) (K:=fun b=>b=R0) (g:=bO.none) (bl:= [(R0,0)]) mixed ztQ zwt (fun b hb=>CR b (.inl hb)) ⟨oO oP (ay (aO D.d6) (ay (dQ D.b1) RL.nil)) rfl,trivial⟩ (Bn (by simp)) ja trivial trivial trivial q0 qd ?_ (bH.2 ⟨by rw [fD,D.d0,D.d1];exact yao (by omega),zap.2 trivial⟩)) fun ex a2 w2 hh=> ?_
    · intro t ht;simp only [IA,yaj,yaq,yaZ] at ht;rcases ht with rfl|rfl|rfl|rfl|rfl|rfl
      · rw [s1];exact aO D.d2
      · rw [s2];exact aO D.d5
      · rw [s3];exact ⟨D.v1.symm,_,_,_,rfl,D.d0.symm,trivial⟩
      · rw [s4];exact ⟨_,hj1,rfl⟩
      · rw [s11];exact zym D.v2 Tj
      · rw [s12];exact aO D.d1
    · obtain ⟨q,hq,hto,lf,hlf,rfl,hsz2,j2,uy,he⟩:=hh;unfold zrk at hq;simp only [yaj,yaq,yaZ] at hq;subst hq;cases hlf;have hs2:=jZ he.ret;have hmv:=he.mv;simp only [AV.bK,AV.val,D.v2,yaU,ybM,ybb,ybq] at hs2;have hb2:Below R0 w w2:=⟨hmv.os.trans hbl.os,hmv.tape.trans hbl.tape,hmv.output.trans hbl.output,yas hbl.size hmv.size,fun b hb'=>(hmv.block b (by have:=hbl.size;omega) fun e=>by omega).trans (hbl.block b hb')⟩;show K a2 w2;exact tail hsz2 uy hs2 (hkk▸af.kept hov fun b e=>hmv.block b (uH b e).2 fun e'=>by have:=(uH b e).1;omega) hb2
end Go.Proofs
namespace Go.Proofs
open Go.Dw
def Tryz.Xf:List bL:=zxU
def Tryz.Yh:List Sh:= []
def Tryz.Xg:List AV:= [.agg [.int .u64 (aP 3),.int .u32 (bV 4),.int .u16 (fQ 5),.int .u16 (fQ 6)]]
def Tryz.ztL:List (SB×Bool):= []
def Tryz.zrb:List Leaf:= [
 ⟨.opq 5 none,[],[],4,[]⟩]
def Tryz.zwr:List (List (SB×Bool)×Nat):= [
 ([], 0)]
theorem Tryz.ztK:(ev prog (dW Xf) 100000 (.call 20 Xg (dP 0 Yh) (jc zrb 0))).ways ztL=some zwr:=by kernel_rfl
theorem Tryz.zws:(fe Yh&&eZ Xf&&AV.dX Xg&&jm zrb)=true:=by kernel_rfl
open Go.RowKit Go.Maps Go.Sort
theorem Tryz.N9 (p:Pt) (hp:p.ok) (w:World):
  Calls prog 20 #[.agg #[.int .u64 p.a,.int .u32 p.ln,.int .u16 p.f,.int .u16 p.nx]] w fun e w'=> ∃u,e= .returned u∧af 5 1 w' w.heap.size u p.bytes.length (aN p.bytes)∧Below w.heap.size w w':=by
 obtain ⟨ρ,d3,d4,d5,d6⟩: ∃ρ:Val,(aP 3).den ρ=p.a∧(bV 4).den ρ=p.ln∧(fQ 5).den ρ=p.f∧(fQ 6).den ρ=p.nx:=
  ⟨dO [0,0,0,p.a,p.ln,p.f,p.nx] [] [],lq hp.a.1 hp.a.2,xw hp.ln.1 hp.ln.2,zo hp.f.1 hp.f.2,zo hp.nx.1 hp.nx.2⟩
 let L:Nat→List Int:=fun k=>match k with
  | 0=> []|1=>bytesOf p.a 8|2=>bytesOf p.a 8++bytesOf p.ln 4|3=>bytesOf p.a 8++bytesOf p.ln 4++bytesOf p.f 2|_=>p.bytes
 have l1:(L 1).length=8:=by simp [L,zb]
 have l2:(L 2).length=12:=by simp [L,zb]
 have l3:(L 3).length=14:=by simp [L,zb]
 refine ya7 (mR (ρ:=ρ) (K:=fun _=>False) (g:=TR w.heap.size L) (bl:= []) (vals:= [.agg #[.int .u64 p.a,.int .u32 p.ln,.int .u16 p.f,.int .u16 p.nx]]) mixed ztK zws (fun b h=>h.elim) trivial trivial ⟨fun _=>False,fun _ h=>h.elim,trivial⟩
  ⟨JS (n:=8) (.inl ⟨rfl,rfl⟩) rfl (by rw [d3];rfl) (by decide) (yar _),JS (n:=4) (.inr ⟨by decide,rfl⟩) rfl (by rw [d4];rfl) (by decide) (by omega),JS (n:=2) (.inr ⟨by decide,rfl⟩) rfl (by rw [d5];rfl) (by decide) (by omega),JS (n:=2) (.inr ⟨by decide,rfl⟩) rfl (by rw [d6];rfl) (by decide) (by omega),trivial⟩
  (ay (nT (ay (aO d3) (ay (aO d4) (ay (aO d5) (ay (aO d6) RL.nil))))) RL.nil) (zap.2 trivial)) fun e w' hh=> ?_
 obtain ⟨_,j,he⟩:=BS hh;have hb:=j4 he (fun _ h=>h);obtain ⟨F2,_,u,hu,hou,_⟩:=he.nY;exact ⟨u,he.ret.trans (by rw [zru hu]),hou,hb⟩
def Tryz.TM (n:Int) (l:List Sg):Prop:=rQ l=0∧(l.length:Int)≤n
instance (n:Int) (l:List Tryz.Sg):Decidable (Tryz.TM n l):=by unfold Tryz.TM;infer_instance
structure Tryz.Ob (σ:Type) where
 L:σ→(Nat→Prop)→World→Prop
 T:Nat→Prop
 kept: ∀ {s F w w'},L s F w→(∀b,F b→w'.heap[b]? =w.heap[b]?)→w.heap.size≤w'.heap.size→L s F w'
 leans: ∀ {s F w},L s F w→ ∀b,T b→F b
section
variable {σ:Type} {O:Tryz.Ob σ} {X:Nat→Prop} {bX:Nat} {ρ:Val} {w0:World} {K:Nat→Prop} {b2:Nat} {sk:Nat→σ} {rows:Nat→List Tryz.pE} {f:FuncId} {args:List AV} {res:AV} {k k':Nat}
end
section
variable {S P L Bs B M N:Nat} {r:Tryz.Rg} {s s':Tryz.PS×(Nat→Int)} {F F':Nat→Prop} {w w':World}
end
section
variable {X:Nat→Prop} {bX:Nat} {ρ:Val} {w0:World} {K:Nat→Prop} {S P L Bs B M N:Nat} {r:Tryz.Rg} {b2:Nat} {sk:Nat→Tryz.PS×(Nat→Int)} {rows:Nat→List Tryz.pE} {f:FuncId} {args:List AV} {res:AV} {k k':Nat}
end
end Go.Proofs
namespace Go.Proofs
open Go.Dw Go.RowKit Go.Maps Go.Sort
section
variable {ρ:Val} {w0:World} {K:Nat→Prop} {X:Nat→Prop} {bX:Nat} {S P L Bs B M N:Nat} {r:Tryz.Rg} {b2:Nat} {sk:Nat→Tryz.PS×(Nat→Int)} {rows:Nat→List Tryz.pE} {k k' q:Nat}
end
end Go.Proofs
namespace Go.Proofs
open Go.Dw Go.RowKit Go.Maps Go.Sort
structure Tryz.Pc where
 k:Int
 n:Int
 v:Int
 a:Int
 l:Int
 f:Int
 x:Int
 gd:Bool
 sv:Value
 sl:List Sg
structure Tryz.PmV where
 r:Rg
 c:Pc
 acn:Int
 i:Int
 steps:Int
 na:Int
 nw:Bool
 h1:Int
 h2:Int
 pick:Int
 code:Int
 err:Int
 x:Int
 y:Int
 z:Int
 cnt:Int
 na2:Int
 nw2:Bool
 abH:Bool
 abI:Bool
 off:Bool
 ret:Bool
 busy:Bool
 mem:Value
 srv:Value
 acts:Value
section
variable {ρ:Val} {m:Tryz.PmV}
end
section
variable {W0:World} {X9 Q9 S P L Bs B M:Nat} {r:Tryz.Rg} {av:Value} {acts:List Tryz.Pc} {s:Tryz.PS×(Nat→Int)} {i steps:Nat} {na:Int} {nw:Bool} {a:Act} {w:World}
end
end Go.Proofs
namespace Go.Proofs
open Go.Dw Go.RowKit Go.Maps Go.Sort Go.Deep
section
variable {w0 w w':World} {X b2 P L Bs B N:Nat} {g:Nat→Int} {v0 v:Value} {l:List Tryz.Sg} {n e:Int}
end
end Go.Proofs
namespace Go.Proofs
open Go.Dw Go.RowKit Go.Maps Go.Sort Go.Deep
set_option maxRecDepth 100000 in
theorem Tryz.zmz {n a:Int} {x:Bool} (hn:1≤n∧n≤16) (ha:0≤a∧a<n) (w:World):
  Calls prog 92 #[.agg #[.int .i64 a,.bool x],.int .i64 n] w fun e w'=>e= .returned (.int .i64 0)∧Below w.heap.size w w':=by
 have h1: ¬a<0:=by omega
 have h2: ¬n≤a:=by omega
 have h3: ¬n<1:=by omega
 have h4: ¬(32768:Int)<n:=by omega
 have h5:1≤n:=hn.1;have h6:n≤32768:=by omega
 have hb:=(yab w.heap.size w).alloc (yaa _) (.cells #[.int .i64 a,.bool x] 64);go_enter func92,ntmps92;go_wp2;go_ret;exact ⟨rfl,hb⟩
theorem Tryz.Jm (F:Int) (k:Nat) (hk:k≤15) (h0:0≤F) (h1:F<65536):bits .and .u16 F ((2^k:Nat):Int)=F/((2^k:Nat):Int)%2*((2^k:Nat):Int):=by
 obtain ⟨x,rfl⟩:=yaM h0;have hx:x<2^16:=by omega
 have hp:2^k<2^16:=Nat.pow_lt_pow_right (by decide) (by omega);unfold bits;simp only [ych];have ex:(BitVec.ofInt IntKind.u16.bits (x:Int)).toNat=x:=by
  rw [ybt,ybj];exact ya6 hx
 have ey:(BitVec.ofInt IntKind.u16.bits ((2^k:Nat):Int)).toNat=2^k:=by
  rw [ybt,ybj];exact ya6 hp
 have e0:x&&&2^k=x/2^k%2*2^k:=by
  have e1:x&&&2^k=if x.testBit k then 2^k else 0:=by
   apply ybh;intro i;rw [yb8,ycj];by_cases hi:k=i
   ·subst hi;cases x.testBit k<;>simp [ycj]
   ·cases x.testBit k<;>simp [ycj,hi]
  rw [e1,Nat.testBit_eq_decide_div_mod_eq];have:x/2^k%2=0∨x/2^k%2=1:=by omega
  rcases this with h|h<;>simp [h]
 rw [ex,ey,e0];have hb:x/2^k%2*2^k≤2^k:=by
  have:x/2^k%2≤1:=by omega
  calc _≤1*2^k:=ya9 _ this
   _=_:=Nat.one_mul _
 have hc:(x:Int)/((2^k:Nat):Int)%2*((2^k:Nat):Int)=((x/2^k%2*2^k:Nat):Int):=by rw [Int.natCast_mul,Int.natCast_emod,Int.natCast_ediv];rfl
 rw [hc];generalize x/2^k%2*2^k=y at hb ⊢;exact tN (by omega) (by omega)
end Go.Proofs
namespace Go.Proofs
open Go.Dw Go.RowKit
structure Tryz.DO where
 id:Int
 tk:Int
 ct:Int
def Tryz.DO.cells (e:DO):List Value:= [.int .i64 e.id,.int .i64 e.tk,.int .i64 e.ct]
structure Tryz.DS where
 ev:Bool
 tb:Bool
 nx:Int
 nw:Bool
 sx:Int
 sw:Bool
 own:Int
 L:List DO
 ph:Nat
 op:Int
 nn:Bool
 tok:Int
 wr:Int
 kk:Bool
 dn:Bool
 br:Bool
 c:DO
 sg:List Sg
 pu:List Pt
def Tryz.DS.goto (s:DS) (k:Nat):DS:= { s with ph:=k,dn:=false }
def Tryz.DS.stop (s:DS):DS:= { s with ph:=0,dn:=true }
def Tryz.DS.brk (s:DS):DS:= { s with br:=true,ph:=0,dn:=false,op:=0,nn:=false,tok:=0,wr:=0,kk:=false }
def Tryz.kg (L:List DO) (k:Int):Bool:=L.any fun e=>e.id==k
def Tryz.dD (L:List DO):Nat→Nat→Nat
 | 0,k=>k
 | m+1,k=>if kg L k then dD L m (k+1) else k
def Tryz.fA (L:List DO) (k:Int):Option DO:=L.find? fun e=>e.id==k
def Tryz.dJ (L:List DO) (k:Int):List DO:=L.eraseP fun e=>e.id==k
def Tryz.xI (f:Int) (wr:Bool):Bool:=(decide (f/128%2=1)==wr)&&(decide (f/32768%2=1)==wr)
def Tryz.zip (id aG a n:Int) (x:Bool):Pt:=⟨aG,a,16*n,id,fZ 4 x⟩
def Tryz.iA (s:Sg):Pt:=⟨0,s.bB,s.len,0,if s.wr then 2 else 0⟩
def Tryz.dh (l:List Sg):List Int:=l.flatMap fun s=>(iA s).bytes
def Tryz.DS.tab (s:DS) (l:List Sg):Bool:=s.tb&&decide (1<l.length)
def Tryz.jF (id:Int):Int:=20000+1024*id
def Tryz.DS.puts (s:DS) (n id:Int) (l:List Sg):List Pt:=if s.tab l then [zip id s.nx (jF id) l.length s.nw] else dN n id s.nx s.nw l l.length
def Tryz.DS.need (s:DS) (l:List Sg):Int:=if s.tab l then 1 else l.length
def Tryz.di (N:Nat) (n:Int) (s:DS) (t:Int) (l:List Sg):Int×DS:=
 if s.br then (4,s) else if s.ph≠0 then (8,s)
 else if t<0∨s.L.any (fun e=>e.tk==t) then (2,s)
 else if iB N l≠0 then (iB N l,s)
 else if l.length=0 then (2,s)
 else
  let ct:Int:=s.need l
  let id:Int:=dD s.L n.toNat 0
  if s.own<ct∨n≤id then (7,s)
  else (0,{ s with c:=⟨id,t,ct⟩,sg:=l,pu:=s.puts n id l,L:=s.L++ [⟨id,t,ct⟩],own:=s.own-ct,ph:=1,dn:=false,op:=1,nn:=false,tok:=t,wr:=0,kk:=false })
def Tryz.mX (s:DS):Int×DS:=
 if s.br then (4,s) else if s.ph≠0 then (8,s) else (0,{ s with ph:=11,dn:=false,op:=2,nn:=false,tok:=0,wr:=0,kk:=false })
def Tryz.zy (g:Nat→Int) (i:Nat) (p:Pt):Nat→Int:=eY g (4096+16*p.aG).toNat (if i=0 then p.bytes.take 14 else p.bytes)
def Tryz.lg:Nat→List Pt→(Nat→Int)→Nat→Int
 | _,[],g=>g
 | i,p::r,g=>lg (i+1) r (zy g i p)
def Tryz.Co (s:DS) (g:Nat→Int):Nat→Int:=lg 0 s.pu (if s.tab s.sg then eY g (jF s.c.id).toNat (dh s.sg) else g)
def Tryz.iO (g:Nat→Int) (s:DS):Bool:=xI (bW g (4096+16*s.sx+14).toNat 2) s.sw
def Tryz.DS.l9 (s:DS):Pt:=s.pu.headD ⟨0,0,0,0,0⟩
def Tryz.Cf (r:Rg) (s:DS) (g:Nat→Int) (ph:Nat):Value×Int×DS×(Nat→Int):=
 let acc:=fun (k what i:Int)=>Value.agg #[.int .i64 k,.int .i64 what,.int .i64 i]
 match ph with
 | 1=>(acc 1 0 0,0,s.goto 2,Co s g)
 | 2=>(acc 4 0 0,0,s.goto 3,g)
 | 3=>(acc 3 1 s.l9.aG,0,s.goto 4,iK g (4096+16*s.l9.aG+14).toNat 2 s.l9.nx)
 | 4=>(acc 4 0 0,0,s.goto 5,g)
 | 5=>
  let w:=bW g r.c.toNat 4
  let u:=dF r.n s.nx s.nw s.c.ct
  (acc 2 11 0,0,({ s with nx:=u.1,nw:=u.2,kk:=qo r.n u.1 u.2 s.c.ct w false }:DS).stop,g)
 | 11=>(acc 2 1 s.sx,0,if iO g s then s.goto 15 else if s.ev then s.goto 12 else ({ s with nn:=true }:DS).stop,g)
 | 12=>(acc 3 10 0,0,s.goto 13,iK g r.v.toNat 4 (sQ s.sx s.sw+131072))
 | 13=>(acc 4 0 0,0,s.goto 14,g)
 | 14=>(acc 2 1 s.sx,0,if iO g s then s.goto 15 else ({ s with nn:=true }:DS).stop,g)
 | 15=>(acc 4 0 0,0,s.goto 16,g)
 | _=>
  let w:=bW g (4096+16*s.sx+8).toNat 8
  match fA s.L (w/4294967296%65536) with
  | none=>(acc 2 1 s.sx,4,s.brk,g)
  | some e=>
   let u:=dF r.n s.sx s.sw e.ct
   (acc 2 1 s.sx,0,({ s with tok:=e.tk,wr:=w%4294967296,own:=s.own+e.ct,L:=dJ s.L e.id,sx:=u.1,sw:=u.2 }:DS).stop,g)
def Tryz.dZ (r:Rg) (s:DS) (g:Nat→Int):Value×Int×DS×(Nat→Int):=
 if s.br then (.agg #[.int .i64 0,.int .i64 0,.int .i64 0],4,s,g) else if s.ph=0 then (.agg #[.int .i64 0,.int .i64 0,.int .i64 0],8,s,g) else Cf r s g s.ph
def Tryz.DS.out (s:DS):Value:=if s.ph=0∧s.dn=true then .agg #[.int .i64 s.op,.bool s.nn,.int .i64 s.tok,.int .u32 s.wr,.bool s.kk] else .agg #[.int .i64 0,.bool false,.int .i64 0,.int .u32 0,.bool false]
def Tryz.DS.has (s:DS):Bool:=decide (s.ph=0)&&s.dn
def Tryz.DS.fresh (ev tb:Bool) (n:Int):DS:=⟨ev,tb,0,true,0,true,n,[],0,0,false,0,0,false,false,false,⟨0,0,0⟩,[],[]⟩
open Go.Maps Go.Sort
theorem Tryz.uX (L:List DO): ∀(m k:Nat),k≤dD L m k∧dD L m k≤k+m∧(∀j,k≤j→j<dD L m k→kg L j=true)∧(dD L m k<k+m→kg L (dD L m k)=false)
 | 0,k=>⟨yaa _,yaa _,fun j h1 h2=>absurd h2 (by show¬j<k;omega),fun h=>absurd h (by show¬k<k+0;omega)⟩
 | m+1,k=>by
  unfold dD;split
  ·rename_i hh;obtain ⟨h1,h2,h3,h4⟩:=uX L m (k+1);refine ⟨by omega,by omega,fun j hj1 hj2=> ?_,fun h=>h4 (by omega)⟩;by_cases hjk:j=k
   ·subst hjk;exact hh
   ·exact h3 j (by omega) hj2
  ·rename_i hh;exact ⟨yaa _,by omega,fun j h1 h2=>absurd h2 (by omega),fun _=>by simpa using hh⟩
theorem Tryz.XE {L:List DO} {k:Int}:kg L k=true↔ ∃e∈L,e.id=k:=by simp [kg]
theorem Tryz.yZ {L:List DO} {k:Int} {e:DO} (h:fA L k=some e):e∈L∧e.id=k:=⟨ydT h,by simpa using List.find?_some h⟩
theorem Tryz.tC {L:List DO} {k:Int}:(fA L k).isSome=kg L k:=by simp [fA,kg,List.find?_isSome];rw [ybS];simp
structure Tryz.DB (r:Rg) (s:DS):Prop where
 nx:0≤s.nx∧s.nx<r.n
 sx:0≤s.sx∧s.sx<r.n
 wr:0≤s.wr∧s.wr<4294967296
 el: ∀e∈s.L,(0≤e.id∧e.id<r.n)∧(0≤e.tk∧e.tk<9223372036854775808)∧(1≤e.ct∧e.ct≤r.n)
 nd:(s.L.map (·.id)).Nodup
 sum:s.own+(s.L.map (·.ct)).sum=r.n
 own:0≤s.own
 c:1≤s.ph→s.ph≤5→s.c∈s.L
 pu:1≤s.ph→s.ph≤5→0<s.pu.length∧s.pu.length≤16
 ps: ∀p∈s.pu,p.ok∧0≤p.aG∧p.aG<r.n
 sg:s.sg.length≤64∧ ∀x∈s.sg,x.ok
 ph:s.ph≤5∨(11≤s.ph∧s.ph≤16)
 dn:(s.ph≠0∨s.br=true)→s.dn=false
theorem Tryz.gT {L:List DO} (h: ∀e∈L,1≤e.ct):(L.length:Int)≤(L.map (·.ct)).sum:=by
 induction L with
 | nil=>simp
 | cons e r ih=>
  have h1:=h e (by simp);have h2:=ih fun x hx=>h x (by simp [hx]);simp only [yaU,List.sum_cons,yaX];push_cast;omega
theorem Tryz.OH {L:List DO} {e:DO} (he:e∈L) (hnd:(L.map (·.id)).Nodup):((dJ L e.id).map (·.ct)).sum+e.ct=(L.map (·.ct)).sum:=by
 induction L with
 | nil=>cases he
 | cons x r ih=>
  unfold dJ;by_cases hx:x.id=e.id
  ·have hxe:x=e:=by
    rcases yaj.1 he with h|h
    ·exact h.symm
    ·rw [yaU,ycG] at hnd;exact absurd (yaY.2 ⟨e,h,hx.symm⟩) hnd.1
   subst hxe;simp;omega
  ·rw [ycm (by simpa using hx)];rcases yaj.1 he with h|h
   ·exact absurd (yaB (·.id) h.symm) hx
   ·rw [yaU,ycG] at hnd;have:=ih h hnd.2;unfold dJ at this;simp only [yaU,List.sum_cons];omega
theorem Tryz.IW (L:List DO) (k:Int):(dJ L k).Sublist L:=List.eraseP_sublist
theorem Tryz.DB.fresh {r:Rg} (ev tb:Bool) (hn:1≤r.n):DB r (DS.fresh ev tb r.n):=
 ⟨⟨ybY _,by show 0<r.n;omega⟩,⟨ybY _,by show 0<r.n;omega⟩,⟨ybY _,by show (0:Int)<4294967296;decide⟩,fun e he=>(by cases he),by simp [DS.fresh],by simp [DS.fresh],by show 0≤r.n;omega,fun h=>absurd h (by show¬1≤0;decide),fun h=>absurd h (by show¬1≤0;decide),fun p hp=>(by cases hp),⟨yar _,fun x hx=>(by cases hx)⟩,.inl (yar _),fun _=>rfl⟩
theorem Tryz.Zx (f:Int) (x:Bool) (h:0≤f∧f<8):0≤fZ f x∧fZ f x<65536:=by
 unfold fZ;cases x<;>simp<;>omega
theorem Tryz.ztS {n id a:Int} {x:Bool} {l:List Sg} (hl: ∀s∈l,s.ok) (hn:n≤32768) (ha:0≤a∧a<n) (hid:0≤id∧id<n): ∀p∈dN n id a x l l.length,p.ok∧0≤p.aG∧p.aG<n:=fun p hp=>by
 unfold dN at hp;obtain ⟨k,hk,rfl⟩:=yaY.1 hp;have hk:=List.mem_range.1 hk;have hs:=hl l[k] (yaA hk);have hg:l.getD k ⟨0,0,false⟩=l[k]:=by rw [yaw,yai hk];rfl
 unfold iJ;rw [hg];refine ⟨⟨⟨hs.1,hs.2.1⟩,⟨hs.2.2.1,hs.2.2.2⟩,⟨hid.1,by show id<65536;omega⟩,Zx _ _ ?_⟩,BQ ha k⟩;split<;>split<;>omega
theorem Tryz.nS {N:Nat} {l:List Sg} (h:iB N l=0):l.length≤64∧gJ l=0:=by
 unfold iB at h;by_cases he:gJ l=0
 ·refine ⟨?_,he⟩;unfold gJ at he;split at he
  ·cases he
  ·omega
 ·simp [he] at h
theorem Tryz.DB.Ho {r:Rg} {s:DS} (h:DB r s):DB r (mX s).2:=by
 unfold mX;split
 ·exact h
 ·split
  ·exact h
  ·exact ⟨h.nx,h.sx,⟨ybY _,by show (0:Int)<4294967296;decide⟩,h.el,h.nd,h.sum,h.own,fun _ h5=>absurd h5 (by show¬11≤5;decide),fun _ h5=>absurd h5 (by show¬11≤5;decide),h.ps,h.sg,.inr (by show 11≤11∧11≤16;decide),fun _=>rfl⟩
theorem Tryz.DB.off {r:Rg} {N:Nat} {s:DS} {t:Int} {l:List Sg} (h:DB r s) (hn:1≤r.n∧r.n≤16) (ht:t<9223372036854775808) (hok: ∀x∈l,x.ok):DB r (di N r.n s t l).2:=by
 unfold di;split
 ·exact h
 ·split
  ·exact h
  ·split
   ·exact h
   ·rename_i hbr GK htk;split
    ·exact h
    ·rename_i hin;have hin:=yaz.1 hin;have h64:=(nS hin).1;split
     ·exact h
     ·rename_i hl0;simp only;split
      ·exact h
      ·rename_i hfull;obtain ⟨f1,f2,f3,f4⟩:=uX s.L r.n.toNat 0;obtain ⟨id,hid⟩: ∃id:Nat,id=dD s.L r.n.toNat 0:=⟨_,rfl⟩;rw [←hid] at f1 f2 f3 f4 hfull ⊢;have Av:(id:Int)<r.n:=by omega
       have hnew:=f4 (by omega);have hct:1≤s.need l∧s.need l≤s.own:=by
        refine ⟨?_,by omega⟩;unfold DS.need;split<;>omega
       have aaV:s.tab l=true∨(l.length:Int)≤16:=by
        by_cases htb:s.tab l=true
        ·exact .inl htb
        ·refine .inr ?_;have h2:=hct.2;unfold DS.need at h2;rw [yah htb] at h2;have:=h.sum;have:=gT fun e he=>(h.el e he).2.2.1;omega
       generalize s.need l=ct at hct hfull ⊢;have hsum:=h.sum;have hlen:=gT fun e he=>(h.el e he).2.2.1;have hps: ∀p∈s.puts r.n id l,p.ok∧0≤p.aG∧p.aG<r.n:=by
        unfold DS.puts;split
        ·intro p hp;rw [yaI] at hp;subst hp;refine ⟨⟨⟨?_,?_⟩,⟨?_,?_⟩,⟨by show (0:Int)≤id;omega,by show (id:Int)<65536;omega⟩,Zx 4 _ ⟨by decide,by decide⟩⟩,h.nx⟩
         ·show 0≤jF id;unfold jF;omega
         ·show jF id<_;unfold jF;omega
         ·show (0:Int)≤16*l.length;omega
         ·show 16*(l.length:Int)<_;omega
        ·exact ztS hok (by omega) h.nx ⟨by omega,Av⟩
       have hpl:0<(s.puts r.n id l).length∧(s.puts r.n id l).length≤16:=by
        unfold DS.puts;split
        ·exact ⟨Nat.one_pos,by show 1≤16;decide⟩
        ·rename_i htb;rw [BI];rcases aaV with q|q
         ·exact absurd q htb
         ·omega
       have aa5:0≤t:=by omega
       refine ⟨h.nx,h.sx,⟨ybY _,by show (0:Int)<4294967296;decide⟩,fun e he=> ?_,?_,?_,by show 0≤s.own-ct;omega,fun _ _=> ?_,fun _ _=>hpl,hps,⟨h64,hok⟩,.inl (by show 1≤5;decide),fun _=>rfl⟩
       ·have he:e∈s.L++ [⟨id,t,ct⟩]:=he;rcases ya2.1 he with he|he
        ·exact h.el e he
        ·rw [yaI] at he;subst he;exact ⟨⟨by show (0:Int)≤id;omega,Av⟩,⟨aa5,ht⟩,hct.1,by show ct≤r.n;omega⟩
       ·show ((s.L++ [(⟨id,t,ct⟩:DO)]).map (·.id)).Nodup;rw [ybA,List.nodup_append];refine ⟨h.nd,by simp,fun a ha b hb hab=> ?_⟩;simp only [yaU,ybM,yaI] at hb;obtain ⟨e,he,hea⟩:=yaY.1 ha;have:kg s.L id=true:=XE.2 ⟨e,he,by rw [hea,hab,hb]⟩;rw [hnew] at this;cases this
       ·show s.own-ct+((s.L++ [(⟨id,t,ct⟩:DO)]).map (·.ct)).sum=r.n;simp only [ybA,yaU,ybM,List.sum_append,List.sum_cons,List.sum_nil];omega
       ·show (⟨id,t,ct⟩:DO)∈s.L++ [⟨id,t,ct⟩];simp
open Go.Deep
theorem Tryz.zag {K:Nat→Prop} {a w:World} (h:Dw.Mv K a w) (b o:Nat) (v:Value) (hb:K b):Dw.Mv K a (w.setCell ⟨b,o,none⟩ v):=by
 have q:=(Mv.setCell (S:=K) (a:=a) (w:=w) ⟨h.os,h.tape,h.output,h.size,h.block⟩ b o v (.inl hb));exact ⟨q.os,q.tape,q.output,q.size,q.block⟩
theorem Tryz.af.Tn {t:TypeId} {w:World} {b2:Nat} {v:Value} {xs:List Int} (h:af t 1 w b2 v xs.length (bA xs)):xR w v xs:=by
 obtain ⟨sa,c,e,hr⟩:=af.row h;refine ⟨sa,c,e,?_⟩;rcases hr with hr|⟨G,e2,_,hG⟩
 ·left;have:=yaB List.length hr;simp [bA] at this;exact ybG.1 (by simpa using this)
 ·exact .inr ⟨G,0,e2,hG⟩
theorem Tryz.af.cap {t:TypeId} {sz n:Nat} {w:World} {b2:Nat} {sa:Option Addr} {c:Nat} {cs:List Value} (h:af t sz w b2 (.slice sa n c) n cs) (hn:0<n):n≤c:=by
 obtain ⟨h1,h2⟩:=h;rcases h2 with ⟨h2,h3⟩|⟨G,cap,cur,e,h3,h4,h5,_⟩
 ·omega
 ·cases e;exact h5
theorem Tryz.zmG {w w':World} {G o:Nat} {cs:List Value} {row:Option Nat} (h:w.rangeAt G o cs) (hg:w.grownBy w' row) (hl:G<w.heap.size) (hn:some G≠row):w'.rangeAt G o cs:=aX h (hg.block G hl hn)
theorem Tryz.zp1 {w:World} {G:Nat} {cs:List Value} (h:w.rangeAt G 0 cs) (k:Nat): ∀j u,(cs.take k)[j]? =some u→w.cell? ((⟨G,0,none⟩:Addr).add j)=some u:=fun j u hu=>by
 rw [Dw.addr_add];rw [List.getElem?_take] at hu;split at hu
 ·have:=h j u hu
  rwa [yaf] at this ⊢
 ·cases hu
theorem Tryz.zp2 {w:World} {G:Nat} {cs:List Value} (h:w.rangeAt G 0 cs) (k:Nat): ∀j u,(cs.drop k)[j]? =some u→w.cell? ((⟨G,k,none⟩:Addr).add j)=some u:=fun j u hu=>by
 rw [Dw.addr_add];rw [ybN] at hu;have:=h (k+j) u hu
 rwa [yaf] at this
theorem Tryz.V5 {w:World} {G:Nat} {cs:List Value} (h:w.rangeAt G 0 cs) {k c:Nat} (hc:cs.length≤c): ∀j u,(cs.drop k)[j]? =some u→w.cell? ((if c=k then (⟨G,0,none⟩:Addr) else ⟨G,k,none⟩).add j)=some u:=fun j u hu=>by
 by_cases hk:c=k
 ·subst hk;rw [List.drop_eq_nil_of_le hc] at hu;cases hu
 ·rw [yah hk];exact zp2 h k j u hu
theorem Tryz.aD {K:Nat→Prop} {a w:World} (h:Dw.Mv K a w) (b o:Nat) (v:Value) (hb:K b∨a.heap.size≤b):Dw.Mv K a (w.setCell ⟨b,o,none⟩ v):=by
 have q:=(Mv.setCell (S:=K) (a:=a) (w:=w) ⟨h.os,h.tape,h.output,h.size,h.block⟩ b o v hb);exact ⟨q.os,q.tape,q.output,q.size,q.block⟩
theorem Tryz.ah {K:Nat→Prop} {a w:World} (h:Below a.heap.size a w):Dw.Mv K a w:=⟨h.os,h.tape,h.output,h.size,fun b hb _=>h.block b hb⟩
section
variable {A:Nat→Prop} {w w':World} {S P L Bs B N b2:Nat} {r:Tryz.Rg} {s s':Tryz.PS} {g g':Nat→Int} {lv:Value}
end
end Go.Proofs
namespace Go.Proofs
open Go.Dw Go.RowKit Go.Maps Go.Sort Go.Deep
section
variable {A A' K:Nat→Prop} {w w':World} {S P L Bs B N b2:Nat} {r:Tryz.Rg} {s s':Tryz.PS} {g g':Nat→Int} {lv:Value}
theorem Tryz.bC.aZ {A A':Nat→Prop} {w w':World} {v:Value} {l:List Sg} (h:bC A w v l) (hA: ∀b,b<w.heap.size→A' b→A b) (hk: ∀b,b<w.heap.size→ ¬A b→w'.heap[b]? =w.heap[b]?):bC A' w' v l:=by
 obtain ⟨sa,c,rfl,hl,hr⟩:=h;refine ⟨sa,c,rfl,hl,?_⟩;rcases hr with h0|⟨R,o,rfl,hn,hr⟩
 ·exact .inl h0
 ·by_cases h0:l= []
  ·exact .inl h0
  ·have hR:=tO hr h0;exact .inr ⟨R,o,rfl,fun q=>hn (hA R hR q),aX hr (hk R hR hn)⟩
end
end Go.Proofs
namespace Go.Proofs
open Go.Dw Go.RowKit Go.Maps Go.Sort Go.Deep
def Tryz.DS.row (s:DS) (r:Rg) (P I:Nat) (aT aU au aj:Value):List Value:=
 [.pointer (some ⟨P,0,none⟩),.bool true,.int .i64 r.n,.int .u64 r.d,.int .u64 r.v,.int .u64 r.c,.bool s.ev,.bool s.tb,.bool true,.int .u64 20000,.int .i64 s.nx,.bool s.nw,.int .i64 s.sx,.bool s.sw,.int .i64 s.own,
  .slice (some ⟨I,0,none⟩) r.n.toNat r.n.toNat,aT,aU,au,aj,.int .i64 s.op,.bool s.nn,.int .i64 s.tok,.int .u32 s.wr,.bool s.kk,.bool s.dn,.bool s.br]
def Tryz.fo (ph:Nat):List Nat:=
 match ph with
 | 1=> [70,71,72,71,73]
 | 2=> [71,72,71,73]
 | 3=> [72,71,73]
 | 4=> [71,73]
 | 5=> [73]
 | 11=> [79]
 | 12=> [127,71,128]
 | 13=> [71,128]
 | 14=> [128]
 | 15=> [71,126]
 | 16=> [126]
 | _=> []
def Tryz.zye (S fn:Nat):Value:= .func (.func fn) #[.pointer (some ⟨S,0,none⟩)] #[]
def Tryz.jK (A:Nat→Prop) (w:World) (S:Nat) (v:Value) (l:List Nat):Prop:= ∃sa c,v= .slice sa l.length c∧l.length≤c∧(l= []∨ ∃R o,sa=some ⟨R,o,none⟩∧ ¬A R∧w.rangeAt R o (l.map (zye S)))
def Tryz.gV (A:Nat→Prop) (w:World) (v:Value) (l:List Pt):Prop:= ∃sa c,v= .slice sa l.length c∧(l= []∨ ∃R o,sa=some ⟨R,o,none⟩∧ ¬A R∧w.rangeAt R o (dY l))
def Tryz.qD (A:Nat→Prop) (w:World) (v:Value) (e:DO):Prop:= ∃O,v= .pointer (some ⟨O,0,none⟩)∧ ¬A O∧w.rangeAt O 0 e.cells
def Tryz.mF (A:Nat→Prop) (w:World) (I n:Nat) (L:List DO):Prop:= ∃vs,Cl w I vs∧vs.length=n∧ ∀(k:Nat) (h:k<vs.length),(kg L k=false→vs[k]= .pointer none)∧ ∀e,fA L k=some e→qD A w vs[k] e
structure Tryz.aQ (fns:List Nat) (nw:Prop) (A:Nat→Prop) (w:World) (S P L Bs B I N:Nat) (r:Rg) (s:DS) (g:Nat→Int):Prop where
 obj: ∃aT aU au aj,Cl w S (s.row r P I aT aU au aj)∧jK A w S aT fns∧aU.oneCell'=true∧(nw→qD A w aU s.c)∧bC A w au s.sg∧gV A w aj s.pu
 ids:mF A w I r.n.toNat s.L
 mem:GM w P L Bs B N g
 ne:S≠I
 aS:A S
 aI:A I
 aB:A B
 lt: ∀b,A b→b<w.heap.size
 rg:gU r
 hN:N≤1048576
 fit:40000≤N
 sd:S≠P∧S≠L∧S≠Bs∧S≠B
 md:I≠P∧I≠L∧I≠Bs∧I≠B
structure Tryz.DW (A:Nat→Prop) (w:World) (S P L Bs B I N:Nat) (r:Rg) (s:DS) (g:Nat→Int):Prop where
 f:aQ (fo s.ph) (1≤s.ph∧s.ph≤5) A w S P L Bs B I N r s g
 pb:DB r s
section
variable {fns gW:List Nat} {nw ji:Prop} {A A':Nat→Prop} {w w':World} {S P L Bs B I N:Nat} {r:Tryz.Rg} {s s':Tryz.DS} {g g':Nat→Int}
theorem Tryz.fJ {R o:Nat} {cs:List Value} (h:w.rangeAt R o cs) (h0:cs≠ []):R<w.heap.size:=by
 match cs,h0 with
 | c::_,_=>exact yan w _ (h 0 c rfl)
theorem Tryz.jK.aZ {v:Value} {l:List Nat} (h:jK A w S v l) (hA: ∀b,b<w.heap.size→A' b→A b) (hk: ∀b,b<w.heap.size→ ¬A b→w'.heap[b]? =w.heap[b]?):jK A' w' S v l:=by
 obtain ⟨sa,c,e,h0,h⟩:=h;refine ⟨sa,c,e,h0,?_⟩;rcases h with h|⟨R,o,e1,h1,h2⟩
 ·exact .inl h
 ·by_cases hl:l= []
  ·exact .inl hl
  ·have hR:=fJ h2 (by simpa using hl);exact .inr ⟨R,o,e1,fun q=>h1 (hA R hR q),aX h2 (hk R hR h1)⟩
theorem Tryz.EC {l:List Pt} (h:l≠ []):dY l≠ []:=by
 match l,h with
 | p::r,_=>simp [dY,Pt.cells]
theorem Tryz.gV.aZ {v:Value} {l:List Pt} (h:gV A w v l) (hA: ∀b,b<w.heap.size→A' b→A b) (hk: ∀b,b<w.heap.size→ ¬A b→w'.heap[b]? =w.heap[b]?):gV A' w' v l:=by
 obtain ⟨sa,c,e,h⟩:=h;refine ⟨sa,c,e,?_⟩;rcases h with h|⟨R,o,e1,h1,h2⟩
 ·exact .inl h
 ·by_cases hl:l= []
  ·exact .inl hl
  ·have hR:=fJ h2 (EC hl);exact .inr ⟨R,o,e1,fun q=>h1 (hA R hR q),aX h2 (hk R hR h1)⟩
theorem Tryz.qD.aZ {v:Value} {e:DO} (h:qD A w v e) (hA: ∀b,b<w.heap.size→A' b→A b) (hk: ∀b,b<w.heap.size→ ¬A b→w'.heap[b]? =w.heap[b]?):qD A' w' v e:=by
 obtain ⟨O,e1,h1,h2⟩:=h;have hO:=fJ h2 (by simp [DO.cells]);exact ⟨O,e1,fun q=>h1 (hA O hO q),aX h2 (hk O hO h1)⟩
theorem Tryz.mF.aZ {n:Nat} {l:List DO} (h:mF A w I n l) (hI:w'.heap[I]? =w.heap[I]?) (hA: ∀b,b<w.heap.size→A' b→A b) (hk: ∀b,b<w.heap.size→ ¬A b→w'.heap[b]? =w.heap[b]?):mF A' w' I n l:=by
 obtain ⟨vs,h1,h2,h3⟩:=h;exact ⟨vs,h1.kept hI,h2,fun k hk'=>⟨(h3 k hk').1,fun e he=>((h3 k hk').2 e he).aZ hA hk⟩⟩
theorem Tryz.aQ.qZ (h:aQ fns nw A w S P L Bs B I N r s g) (hA: ∀b,b<w.heap.size→A' b→A b) (aS:A' S) (aI:A' I) (aB:A' B) (hl: ∀b,A' b→b<w'.heap.size) (hk: ∀b,b<w.heap.size→(¬A b∨b=S∨b=I∨b=P∨b=L∨b=Bs∨b=B)→w'.heap[b]? =w.heap[b]?) (hs:w.heap.size≤w'.heap.size):aQ fns nw A' w' S P L Bs B I N r s g:=by
 obtain ⟨aT,aU,au,aj,h1,h2,h3,h4,h5,h6⟩:=h.obj;have hkk: ∀b,b<w.heap.size→ ¬A b→w'.heap[b]? =w.heap[b]? :=fun b hb hn=>hk b hb (.inl hn);exact ⟨⟨aT,aU,au,aj,h1.kept (hk S h1.lt (.inr (.inl rfl))),h2.aZ hA hkk,h3,fun q=>(h4 q).aZ hA hkk,h5.aZ hA hkk,h6.aZ hA hkk⟩,h.ids.aZ (hk I (h.lt I h.aI) (.inr (.inr (.inl rfl)))) hA hkk,
  h.mem.kept (fun k hk' hq=>hk k hk' (by rcases hq with q|q|q|q<;>simp [q])) hs,h.ne,aS,aI,aB,hl,h.rg,h.hN,h.fit,h.sd,h.md⟩
theorem Tryz.aQ.below (h:aQ fns nw A w S P L Bs B I N r s g) (hb:Below w.heap.size w w'):aQ fns nw A w' S P L Bs B I N r s g:=
 h.qZ (fun b _ q=>q) h.aS h.aI h.aB (fun b q=>yae (h.lt b q) hb.size) (fun b hb' _=>hb.block b hb') hb.size
theorem Tryz.DW.below (h:DW A w S P L Bs B I N r s g) (hb:Below w.heap.size w w'):DW A w' S P L Bs B I N r s g:=⟨h.f.below hb,h.pb⟩
def Tryz.dK (S I B b:Nat):Prop:=b=S∨b=I∨b=B
theorem Tryz.aQ.Bc (h:aQ fns nw A w S P L Bs B I N r s g) (hm:Dw.Mv (fun b=>b=S∨b=B) w w') (hg:GM w' P L Bs B N g') (ho: ∃aT aU au aj,Cl w' S (s'.row r P I aT aU au aj)∧jK A w' S aT gW∧aU.oneCell'=true∧(ji→qD A w' aU s'.c)∧bC A w' au s'.sg∧gV A w' aj s'.pu) (hL:s'.L=s.L):aQ gW ji A w' S P L Bs B I N r s' g':=by
 have hb: ∀b,b<w.heap.size→b≠S→b≠B→w'.heap[b]? =w.heap[b]? :=fun b hb h1 h2=>hm.block b hb fun e=>e.elim h1 h2;exact ⟨ho,hL▸h.ids.aZ (hb I (h.lt I h.aI) h.ne.symm h.md.2.2.2) (fun b _ q=>q) (fun b hb' hn=>hb b hb' (fun e=>hn (e▸h.aS)) fun e=>hn (e▸h.aB)),hg,h.ne,h.aS,h.aI,h.aB,fun b q=>yae (h.lt b q) hm.size,h.rg,h.hN,h.fit,h.sd,h.md⟩
theorem Tryz.aQ.CG (h:aQ fns nw A w S P L Bs B I N r s g) (hm:Dw.Mv (· =S) w w'):GM w' P L Bs B N g:=
 h.mem.kept (fun k hk' hq=>hm.block k hk' (by have:=h.sd;show¬k=S;rcases hq with q|q|q|q<;>(rw [q];simp [this.1.symm,this.2.1.symm,this.2.2.1.symm,this.2.2.2.symm]))) hm.size
theorem Tryz.aQ.ptr (h:aQ fns nw A w S P L Bs B I N r s g) (hk: ∀b,b<w.heap.size→ ¬A b→w'.heap[b]? =w.heap[b]?): ∃aT aU au aj,Cl w S (s.row r P I aT aU au aj)∧jK A w' S aT fns∧aU.oneCell'=true∧(nw→qD A w' aU s.c)∧bC A w' au s.sg∧gV A w' aj s.pu:=by
 obtain ⟨aT,aU,au,aj,h1,h2,h3,h4,h5,h6⟩:=h.obj;exact ⟨aT,aU,au,aj,h1,h2.aZ (fun _ _ q=>q) hk,h3,fun q=>(h4 q).aZ (fun _ _ q=>q) hk,h5.aZ (fun _ _ q=>q) hk,h6.aZ (fun _ _ q=>q) hk⟩
end
end Go.Proofs
namespace Go.Proofs
open Go.Dw Go.RowKit Go.Maps Go.Sort Go.Deep
theorem Tryz.Qd {fn:Func} {p:Tmp} {ty:TypeId} (h:fn.results= #[.cell p ty]) (tmps:Array Value) (w:World) (b:Nat) (cs:List Value) (d:TypeDesc)
  (hp:tmps.getD p undef= .pointer (some ⟨b,0,none⟩)) (hg:w.rangeAt b 0 cs) (hu:prog.underlying ty=some d) (hd:d.isRow=true) (hi:(prog.info? ty).map (·.size)=some cs.length):
  (results fn tmps).run prog w= .ok (.agg cs.toArray) w:=by
 have hp':tmps[p]?.getD undef= .pointer (some ⟨b,0,none⟩):=by simpa using hp
 simp [results,h,hp',asAddr,ydW w b 0 ty cs d hg hu hd hi]
theorem Tryz.mU {w w':World} (h:Dw.Mv (fun _=>False) w w'):Below w.heap.size w w':=⟨h.os,h.tape,h.output,h.size,fun b hb=>h.block b hb id⟩
set_option maxRecDepth 100000 in
theorem Tryz.zsZ {f:Int} {b:Bool} (h:0≤f∧f<65536) (w:World):Calls prog 156 #[.int .u16 f,.bool b] w fun e w'=>e= .returned (.bool (xI f b))∧w'=w:=by
 have b7:bits .and .u16 f 128=f/128%2*128:=by have:=Jm f 7 (by decide) h.1 h.2;simpa using this
 have b15:bits .and .u16 f 32768=f/32768%2*32768:=by have:=Jm f 15 (by decide) h.1 h.2;simpa using this
 unfold xI;have hx:f/128%2=0∨f/128%2=1:=by omega
 have hy:f/32768%2=0∨f/32768%2=1:=by omega
 clear h;rcases hx with hx|hx<;>rcases hy with hy|hy<;>cases b
 all_goals
  rw [hx] at b7;rw [hy] at b15;simp only [hx,hy];clear hx hy;go_enter func156,ntmps156;go_wp2;go_ret;exact ⟨rfl,rfl⟩
set_option maxRecDepth 100000 in
theorem Tryz.zqB {f:Int} {b:Bool} (h:0≤f∧f<65536) (w:World):Calls prog 131 #[.int .u16 f,.bool b] w fun e w'=>e= .returned (.bool (xI f b))∧w'=w:=by
 have b7:bits .and .u16 f 128=f/128%2*128:=by have:=Jm f 7 (by decide) h.1 h.2;simpa using this
 have b15:bits .and .u16 f 32768=f/32768%2*32768:=by have:=Jm f 15 (by decide) h.1 h.2;simpa using this
 unfold xI;have hx:f/128%2=0∨f/128%2=1:=by omega
 have hy:f/32768%2=0∨f/32768%2=1:=by omega
 clear h;rcases hx with hx|hx<;>rcases hy with hy|hy<;>cases b
 all_goals
  rw [hx] at b7;rw [hy] at b15;simp only [hx,hy];clear hx hy;go_enter func131,ntmps131;go_wp2;go_ret;exact ⟨rfl,rfl⟩
theorem Tryz.zys {f:Int} (h:0≤f∧f<65536):bits .or .u64 f 131072=f+131072:=by
 obtain ⟨x,rfl⟩:=yaM h.1;have hx:x<2^17:=by omega
 unfold bits;simp only [ydJ];have ex:(BitVec.ofInt IntKind.u64.bits (x:Int)).toNat=x:=by
  rw [ybt,ybj];exact ya6 (Nat.lt_trans hx (by decide))
 have ey:(BitVec.ofInt IntKind.u64.bits (131072:Int)).toNat=131072:=by decide
 have e0:x|||131072=x+131072:=by
  have:=ydK hx 1;rw [ycE,show (131072:Nat)=2^17*1 from rfl,←this];omega
 rw [ex,ey,e0];exact iN (by omega) (by omega)
set_option maxRecDepth 100000 in
theorem Tryz.zwY {f:Int} (h:0≤f∧f<65536) (w:World):Calls prog 157 #[.agg #[.int .u16 f,.int .u16 2]] w fun e w'=>e= .returned (.int .u64 (f+131072))∧Below w.heap.size w w':=by
 have ho:=zys h;have e1:IntKind.wrap .u64 f=f:=wrap_u64 _ (by omega) (by omega);have hb:=(yab w.heap.size w).alloc (yaa _) (Obj.cells #[.int .u16 f,.int .u16 2] 192);clear h;go_enter func157,ntmps157;go_wp2;go_ret;exact ⟨rfl,hb⟩
set_option maxRecDepth 100000 in
theorem Tryz.zwe {f:Int} (h:0≤f∧f<4294967296) (w:World):Calls prog 120 #[.int .u64 f] w fun e w'=>e= .returned (.agg #[.int .u16 (f%65536),.int .u16 (f/65536)])∧Below w.heap.size w w':=by
 have e1:IntKind.wrap .u16 f=f%65536:=by unfold IntKind.wrap;simp [IntKind.signed,IntKind.bits]
 have e2:IntKind.wrap .u16 (f/65536)=f/65536:=tN (by omega) (by omega);have e3:f/65536%65536=f/65536:=Int.emod_eq_of_lt (by omega) (by omega);have hb:=(yab w.heap.size w).alloc (yaa _) (Obj.cells #[.int .u16 (f%65536),.int .u16 (f/65536)] 192);have k2:=Cl.new w #[.int .u16 (f%65536),.int .u16 (f/65536)] 192;go_enter func120,ntmps120;go_wp2;refine yap (Qd rfl _ _ w.heap.size [.int .u16 (f%65536),.int .u16 (f/65536)] _ rfl (fun j y hy=>by rw [yaf];exact k2.cell j y hy) underlying192 rfl (by kernel_rfl)) rfl ?_;exact ⟨rfl,hb⟩
set_option maxRecDepth 100000 in
theorem Tryz.Vv {n:Int} (hn:1≤n∧n≤32768) (w:World):Calls prog 152 #[.int .i64 n] w fun e w'=>e= .returned (.bool true)∧w'=w:=by
 obtain ⟨h1,h2⟩:=hn;go_enter func152,ntmps152;go_wp2;go_ret;exact ⟨by simp [h1,h2],rfl⟩
set_option maxRecDepth 100000 in
theorem Tryz.P6 {n a:Int} {x:Bool} (hn:1≤n∧n≤32768) (ha:0≤a) (w:World):Calls prog 109 #[bM a x,.int .i64 n] w fun e w'=>e= .returned (.int .i64 (if a<n then 0 else 2))∧Below w.heap.size w w':=by
  have hs:=fun w'=>Vv hn w';have hb:=(yab w.heap.size w).alloc (yaa _) (Obj.cells #[.int .i64 a,.bool x] 64);have h0: ¬a<0:=by omega
  clear hn;unfold bM;by_cases h:a<n
  · have h': ¬n≤a:=by omega
    go_enter func109,ntmps109;go_wp2_with (first
      | (go_at_call 152;refine (hs _).mono ?_;rintro e w' ⟨rfl,hw⟩;have hw:=hw.symm;subst hw)
      | go_in)
    go_ret;exact ⟨by simp [h],hb⟩
  · have h':n≤a:=by omega
    go_enter func109,ntmps109;go_wp2_with (first
      | (go_at_call 152;refine (hs _).mono ?_;rintro e w' ⟨rfl,hw⟩;have hw:=hw.symm;subst hw)
      | go_in)
    go_ret;exact ⟨by simp [h],hb⟩
theorem Tryz.zyi {f:Int} (h:0≤f∧f<65536):bits .and .u16 f 32767=f%32768:=by
 obtain ⟨x,rfl⟩:=yaM h.1;have hx:x<2^16:=by omega
 unfold bits;simp only [ych];have ex:(BitVec.ofInt IntKind.u16.bits (x:Int)).toNat=x:=by
  rw [ybt,ybj];exact ya6 hx
 have ey:(BitVec.ofInt IntKind.u16.bits (32767:Int)).toNat=32767:=by decide
 have e0:x&&&32767=x%32768:=ycw x 15;rw [ex,ey,e0];exact tN (by omega) (by omega)
set_option maxRecDepth 100000 in
theorem Tryz.zvD {f n:Int} (h:0≤f∧f<65536) (hn:1≤n∧n≤32768) (w:World):Calls prog 121 #[.int .u16 f,.int .i64 n] w fun e w'=>e= .returned (.tuple #[if f%32768<n then bM (f%32768) (decide (f/32768%2=1)) else bM 0 false,.int .i64 (if f%32768<n then 0 else 4)])∧Below w.heap.size w w':=by
  have hs:=fun w'=>Vv hn w';have ha:=zyi h;have hc:=fun x w'=>P6 (n:=n) (a:=f%32768) (x:=x) hn (by omega) w';unfold bM at hc ⊢;have e1:f/32768%65536=f/32768:=Int.emod_eq_of_lt (by omega) (by omega);have e2:decide (f/32768%2=1)=decide (f/32768=1):=ya4.2 ⟨fun q=>by omega,fun q=>by omega⟩;have e3:IntKind.wrap .i64 (f%32768)=f%32768:=dV (by omega) (by omega);rw [e2];obtain ⟨y,hy⟩: ∃y,y=f%32768:=⟨_,rfl⟩;rw [←hy] at ha hc e3 ⊢;clear e2 hn hy;have hd:(f/32768==1)=decide (f/32768=1):=rfl;generalize decide (f/32768=1)=b at hd ⊢;have hbx:=(yab w.heap.size w).alloc (yaa _) (Obj.cells #[.int .i64 0,.bool false] 64);by_cases hyn:y<n
  · simp only [hyn,ycD] at hc ⊢;go_enter func121,ntmps121;go_wp2_with (first
      | (go_at_call 152;refine (hs _).mono ?_;rintro e w' ⟨rfl,hw⟩;have hw:=hw.symm;subst hw)
      | (go_at_call 109;refine (hc b _).mono ?_;rintro e w2 ⟨rfl,hb2⟩;have ka:=((Cl.new w _ _).alloc _).below hb2 (by simp<;>omega);have kb:=(Cl.new (w.alloc _) _ _).below hb2 (by simp<;>omega);rw [fw] at kb;have x0:=ka.cell 0 _ rfl;have x1:=ka.cell 1 _ rfl;have y0:=kb.cell 0 _ rfl;have y1:=kb.cell 1 _ rfl;have f0:=ka.free 0;have f1:=ka.free 1)
      | go_in)
    have hbw:Below w.heap.size w w2:=(hbx.alloc hbx.size _).trans (hb2.mono (by simp<;>omega));have kA:=(ka.set 0 (.int .i64 y) (by simp)).set 1 (.bool b) (by simp);have hm:=mU (aD (aD (ah (K:=fun _=>False) hbw) w.heap.size 0 (.int .i64 y) (.inr (yaa _))) w.heap.size 1 (.bool b) (.inr (yaa _)));refine yap (bU rfl _ _ w.heap.size [.int .i64 y,.bool b] _ rfl (fun j y hy=>by rw [yaf];exact kA.cell j y hy) underlying64 rfl (by kernel_rfl)) rfl ?_;exact ⟨rfl,hm⟩
  · simp only [hyn,ybW] at hc ⊢;go_enter func121,ntmps121;go_wp2_with (first
      | (go_at_call 152;refine (hs _).mono ?_;rintro e w' ⟨rfl,hw⟩;have hw:=hw.symm;subst hw)
      | (go_at_call 109;refine (hc b _).mono ?_;rintro e w2 ⟨rfl,hb2⟩;have ka:=((Cl.new w _ _).alloc _).below hb2 (by simp<;>omega);have x0:=ka.cell 0 _ rfl;have x1:=ka.cell 1 _ rfl;have f0:=ka.free 0;have f1:=ka.free 1)
      | go_in)
    have hbw:Below w.heap.size w w2:=(hbx.alloc hbx.size _).trans (hb2.mono (by simp<;>omega));have kA:=(ka.set 0 (.int .i64 0) (by simp)).set 1 (.bool false) (by simp);have hm:=mU (aD (aD (ah (K:=fun _=>False) hbw) w.heap.size 0 (.int .i64 0) (.inr (yaa _))) w.heap.size 1 (.bool false) (.inr (yaa _)));refine yap (bU rfl _ _ w.heap.size [.int .i64 0,.bool false] _ rfl (fun j y hy=>by rw [yaf];exact kA.cell j y hy) underlying64 rfl (by kernel_rfl)) rfl ?_;exact ⟨rfl,hm⟩
theorem Tryz.Jc (a k:Nat):iK (fun _=>0) a k 0=fun _=>0:=by
 funext j;unfold iK;split<;>simp
set_option maxRecDepth 100000 in
theorem Tryz.zwo {r:Rg} (hr:gU r) (w:World):Calls prog 145 #[r.fu] w fun e w'=>e= .returned (.bool true)∧Below w.heap.size w w':=by
 have hn:=hr.bnd;have hn1:=hn.1;have hn2:decide (r.n≤32768)=true:=yaH (by omega);have hb:=(yab w.heap.size w).alloc (yaa _) (Obj.cells #[.bool true,.int .i64 r.n,.int .u64 r.d,.int .u64 r.v,.int .u64 r.c] 30);unfold Rg.fu;go_enter func145,ntmps145;go_wp2_with fail;go_ret;exact ⟨rfl,hb⟩
set_option maxRecDepth 100000 in
theorem Tryz.zwp {r:Rg} (hr:gU r) (w:World):Calls prog 149 #[r.fu] w fun e w'=>e= .returned (.tuple #[.int .u64 (16*r.n),.int .u64 4,.int .u64 4])∧Below w.heap.size w w':=by
  have hn:=hr.bnd;have hz:=fun w'=>zwo hr w';have e1:IntKind.wrap .u64 r.n=r.n:=wrap_u64 _ (by omega) (by omega);have e2:IntKind.wrap .u64 (16*r.n)=16*r.n:=wrap_u64 _ (by omega) (by omega);have hb:=(yab w.heap.size w).alloc (yaa _) (Obj.cells #[.bool true,.int .i64 r.n,.int .u64 r.d,.int .u64 r.v,.int .u64 r.c] 30);have kA:=Cl.new w #[.bool true,.int .i64 r.n,.int .u64 r.d,.int .u64 r.v,.int .u64 r.c] 30;unfold Rg.fu at hz ⊢;go_enter func149,ntmps149;go_wp2_with (first
    | (go_at_call 145;refine (hz _).mono ?_;rintro e w1 ⟨rfl,hb1⟩;have k1:=kA.below hb1 kA.lt;have c0:=k1.cell 0 _ rfl;have c1:=k1.cell 1 _ rfl)
    | go_in)
  go_ret3;exact ⟨rfl,hb.trans (hb1.mono hb.size)⟩
set_option maxRecDepth 100000 in
theorem Tryz.ztl {n:Int} (hn:1≤n∧n≤32768) (w:World):Calls prog 100 #[.bool true,.int .i64 n] w fun e w'=>e= .returned (.bool true)∧w'=w:=by
 go_enter func100,ntmps100;go_wp2_with fail;go_ret;exact ⟨rfl,rfl⟩
set_option maxRecDepth 100000 in
theorem Tryz.ztm {r:Rg} (hr:gU r) (w:World):Calls prog 47 #[r.fu] w fun e w'=>e= .returned (.tuple #[.int .u64 (16*r.n),.int .u64 4,.int .u64 4])∧Below w.heap.size w w':=by
  have hn:=hr.bnd;have hz:=fun w'=>ztl (n:=r.n) (by omega) w';have e1:IntKind.wrap .u64 r.n=r.n:=wrap_u64 _ (by omega) (by omega);have e2:IntKind.wrap .u64 (16*r.n)=16*r.n:=wrap_u64 _ (by omega) (by omega);have hb:=(yab w.heap.size w).alloc (yaa _) (Obj.cells #[.bool true,.int .i64 r.n,.int .u64 r.d,.int .u64 r.v,.int .u64 r.c] 30);unfold Rg.fu;go_enter func47,ntmps47;go_wp2_with (first
    | (go_at_call 100;refine (hz _).mono ?_;rintro e w1 ⟨rfl,hw⟩;have hw:=hw.symm;subst hw)
    | go_in)
  go_ret3;exact ⟨rfl,hb⟩
set_option maxRecDepth 100000 in
theorem Tryz.zq8 {r:Rg} (hr:gU r) (w:World):Calls prog 104 #[r.fu] w fun e w'=>e= .returned (.agg #[.int .u64 r.d,.int .u64 (16*r.n),.int .u64 r.v,.int .u64 4,.int .u64 r.c,.int .u64 4])∧Below w.heap.size w w':=by
  have hz:=fun w'=>zwp hr w';have hb:=(yab w.heap.size w).alloc (yaa _) (Obj.cells #[.bool true,.int .i64 r.n,.int .u64 r.d,.int .u64 r.v,.int .u64 r.c] 30);have hb2:=hb.alloc hb.size (Obj.cells #[.int .u64 0,.int .u64 0,.int .u64 0,.int .u64 0,.int .u64 0,.int .u64 0] 176);have kA:=(Cl.new w #[.bool true,.int .i64 r.n,.int .u64 r.d,.int .u64 r.v,.int .u64 r.c] 30).alloc (.cells #[.int .u64 0,.int .u64 0,.int .u64 0,.int .u64 0,.int .u64 0,.int .u64 0] 176);have kB:=Cl.new (w.alloc (Obj.cells #[.bool true,.int .i64 r.n,.int .u64 r.d,.int .u64 r.v,.int .u64 r.c] 30)) #[.int .u64 0,.int .u64 0,.int .u64 0,.int .u64 0,.int .u64 0,.int .u64 0] 176;rw [fw] at kB;unfold Rg.fu at hz ⊢;go_enter func104,ntmps104;go_wp2_with (first
    | (go_at_call 149;refine (hz _).mono ?_;rintro e w1 ⟨rfl,hb1⟩;have k1:=kA.below hb1 kA.lt;have k2:=kB.below hb1 kB.lt;have c2:=k1.cell 2 _ rfl;have c3:=k1.cell 3 _ rfl;have c4:=k1.cell 4 _ rfl;have y0:=k2.cell 0 _ rfl;have q0:=k2.free 0;have y1:=k2.cell 1 _ rfl;have q1:=k2.free 1;have y2:=k2.cell 2 _ rfl;have q2:=k2.free 2;have y3:=k2.cell 3 _ rfl;have q3:=k2.free 3;have y4:=k2.cell 4 _ rfl;have q4:=k2.free 4;have y5:=k2.cell 5 _ rfl;have q5:=k2.free 5)
    | go_in)
  have kF:=(((((k2.set 0 (.int .u64 r.d) (by simp)).set 1 (.int .u64 (16*r.n)) (by simp)).set 2 (.int .u64 r.v) (by simp)).set 3 (.int .u64 4) (by simp)).set 4 (.int .u64 r.c) (by simp)).set 5 (.int .u64 4) (by simp);have hb3:=hb2.trans (hb1.mono hb2.size);have hmv:=aD (aD (aD (aD (aD (aD (ah (K:=fun _=>False) hb3) (w.heap.size+1) 0 (.int .u64 r.d) (.inr (by omega))) (w.heap.size+1) 1 (.int .u64 (16*r.n)) (.inr (by omega))) (w.heap.size+1) 2 (.int .u64 r.v) (.inr (by omega))) (w.heap.size+1) 3 (.int .u64 4) (.inr (by omega))) (w.heap.size+1) 4 (.int .u64 r.c) (.inr (by omega))) (w.heap.size+1) 5 (.int .u64 4) (.inr (by omega));refine yap (Qd rfl _ _ (w.heap.size+1) [.int .u64 r.d,.int .u64 (16*r.n),.int .u64 r.v,.int .u64 4,.int .u64 r.c,.int .u64 4] _ rfl (fun j y hy=>by rw [yaf];exact kF.cell j y hy) underlying176 rfl (by kernel_rfl)) rfl ?_;exact ⟨rfl,mU hmv⟩
theorem Tryz.zyy (a b c d e f:Int) (w:World):(Instr.index 176 (.agg #[.int .u64 a,.int .u64 b,.int .u64 c,.int .u64 d,.int .u64 e,.int .u64 f]) (.int .i64 0)).run prog w= .ok (.agg #[.int .u64 a,.int .u64 b]) w:=by kernel_rfl
theorem Tryz.zyx (a b c d e f:Int) (w:World):(Instr.index 176 (.agg #[.int .u64 a,.int .u64 b,.int .u64 c,.int .u64 d,.int .u64 e,.int .u64 f]) (.int .i64 1)).run prog w= .ok (.agg #[.int .u64 c,.int .u64 d]) w:=by kernel_rfl
theorem Tryz.zyw (a b c d e f:Int) (w:World):(Instr.index 176 (.agg #[.int .u64 a,.int .u64 b,.int .u64 c,.int .u64 d,.int .u64 e,.int .u64 f]) (.int .i64 2)).run prog w= .ok (.agg #[.int .u64 e,.int .u64 f]) w:=by kernel_rfl
set_option maxRecDepth 100000 in
theorem Tryz.XI {w:World} {P L Bs B N:Nat} {g:Nat→Int} {r:Rg} (st:GM w P L Bs B N g) (hr:gU r) (hN:N≤1048576) (hF:40000≤N):
    Calls prog 54 #[.pointer (some ⟨P,0,none⟩),r.fu] w fun e w'=>e= .returned (.int .i64 0)∧Below w.heap.size w w':=by
  have hn:=hr.bnd;have hd:=hr.d;have hv:=hr.v;have hc:=hr.c;have hck:=fun w'=>zpD hr w';have hsp:=fun w'=>zq8 hr w';have hb:=(yab w.heap.size w).alloc (yaa _) (Obj.cells #[.bool true,.int .i64 r.n,.int .u64 r.d,.int .u64 r.v,.int .u64 r.c] 30);have kA:=Cl.new w #[.bool true,.int .i64 r.n,.int .u64 r.d,.int .u64 r.v,.int .u64 r.c] 30;have stA:=st.below hb;have hhas: ∀(w':World) (a n:Int),Below w.heap.size w w'→0≤a→1≤n→a+n≤N→Calls prog 55 #[.pointer (some ⟨P,0,none⟩),.int .u64 a,.int .u64 n] w' fun e w2=>e= .returned (.bool true)∧Below w'.heap.size w' w2:=fun w' a n hb1 h0 h1 h2=>by
    have:=Jz P L Bs B N a n g w' (st.below hb1) hN (by omega) h0 (by omega) (by omega)
    rwa [yaH (show 1≤n∧a+n≤(N:Int) from ⟨h1,h2⟩)] at this
  have uD:=fun w' hb1=>hhas w' r.d (16*r.n) hb1 (by omega) (by omega) (by omega);have Dg:=fun w' hb1=>hhas w' r.v 4 hb1 (by omega) (by omega) (by omega);have hh3:=fun w' hb1=>hhas w' r.c 4 hb1 (by omega) (by omega) (by omega);clear hhas hn hd hv hc hN hF;unfold Rg.fu at hck hsp ⊢;go_enter func54,ntmps54;go_wp2_with (first
    | (go_at_call 53;refine (EB P L Bs B N 0 g _ stA).mono ?_;rintro e w' ⟨rfl,hw⟩;have hw:=hw.symm;subst hw)
    | (go_at_call 103;refine (hck _).mono ?_;rintro e w1 ⟨rfl,hb1⟩;have k1:=kA.below hb1 kA.lt;have c0:=k1.cell 0 _ rfl;have c1:=k1.cell 1 _ rfl;have c2:=k1.cell 2 _ rfl;have c3:=k1.cell 3 _ rfl;have c4:=k1.cell 4 _ rfl)
    | (go_at_call 104;refine (hsp _).mono ?_;rintro e w2 ⟨rfl,hb2⟩)
    | go_in)
  have C8:=(hb.trans (hb1.mono hb.size)).trans (hb2.mono (hb.trans (hb1.mono hb.size)).size);clear c0 c1 c2 c3 c4;go_loopw [25] (fun iv wr=>(iv= .int .i64 0∨iv= .int .i64 1∨iv= .int .i64 2∨iv= .int .i64 3)∧Below w.heap.size w wr) (fun iv _=>3-(RowKit.intOf iv).toNat)
  case atStart=>exact ⟨.inl rfl,C8⟩
  case round=>
    obtain ⟨hi,hbr⟩:=hrel;have hx0:=zyy r.d (16*r.n) r.v 4 r.c 4;have hx1:=zyx r.d (16*r.n) r.v 4 r.c 4;have hx2:=zyw r.d (16*r.n) r.v 4 r.c 4;have hba:=fun (o:Obj)=>hbr.alloc hbr.size o;have fin: ∀ {o:Obj} {w5:World},Below (wr.alloc o).heap.size (wr.alloc o) w5→Below w.heap.size w w5:=fun {o w5} hb5=>(hba o).trans (hb5.mono (hba o).size);rcases hi with rfl|rfl|rfl|rfl
    · go_wp2_with (first
        | (go_at_call 55;refine (uD _ (hba _)).mono ?_;rintro e w5 ⟨rfl,hb5⟩)
        | go_in)
      exact ⟨⟨.inr (.inl rfl),fin hb5⟩,by simp [RowKit.intOf]⟩
    · go_wp2_with (first
        | (go_at_call 55;refine (Dg _ (hba _)).mono ?_;rintro e w5 ⟨rfl,hb5⟩)
        | go_in)
      exact ⟨⟨.inr (.inr (.inl rfl)),fin hb5⟩,by simp [RowKit.intOf]⟩
    · go_wp2_with (first
        | (go_at_call 55;refine (hh3 _ (hba _)).mono ?_;rintro e w5 ⟨rfl,hb5⟩)
        | go_in)
      exact ⟨⟨.inr (.inr (.inr rfl)),fin hb5⟩,by simp [RowKit.intOf]⟩
    · go_wp2_with fail;go_ret;exact ⟨rfl,hbr⟩
set_option maxRecDepth 100000 in
theorem Tryz.Wi {w:World} {P L Bs B N:Nat} {g:Nat→Int} {r:Rg} (st:aV w P L Bs B N g) (hr:gU r) (hN:N≤1048576) (hF:40000≤N):
    Calls prog 58 #[.pointer (some ⟨P,0,none⟩),r.fu] w fun e w'=>e= .returned (.int .i64 0)∧Below w.heap.size w w':=by
  have hn:=hr.bnd;have hd:=hr.d;have hv:=hr.v;have hc:=hr.c;have hck:=fun w'=>zmJ hr w';have hsp:=fun w'=>ztm hr w';have hb:=(yab w.heap.size w).alloc (yaa _) (Obj.cells #[.bool true,.int .i64 r.n,.int .u64 r.d,.int .u64 r.v,.int .u64 r.c] 30);have kA:=Cl.new w #[.bool true,.int .i64 r.n,.int .u64 r.d,.int .u64 r.v,.int .u64 r.c] 30;have stA:=st.below hb;have hhas: ∀(w':World) (a n:Int),Below w.heap.size w w'→0≤a→1≤n→a+n≤N→Calls prog 59 #[.pointer (some ⟨P,0,none⟩),.int .u64 a,.int .u64 n] w' fun e w2=>e= .returned (.bool true)∧Below w'.heap.size w' w2:=fun w' a n hb1 h0 h1 h2=>by
    have:=I9 P L Bs B N a n g w' (st.below hb1) hN h0 (by omega) (by omega) (by omega)
    rwa [yaH (show 1≤n∧a+n≤(N:Int) from ⟨h1,h2⟩)] at this
  have uD:=fun w' hb1=>hhas w' r.d (16*r.n) hb1 (by omega) (by omega) (by omega);have Dg:=fun w' hb1=>hhas w' r.v 4 hb1 (by omega) (by omega) (by omega);have hh3:=fun w' hb1=>hhas w' r.c 4 hb1 (by omega) (by omega) (by omega);clear hhas hn hd hv hc hN hF;unfold Rg.fu at hck hsp ⊢;go_enter func58,ntmps58;go_wp2_with (first
    | (go_at_call 49;refine (hck _).mono ?_;rintro e w1 ⟨rfl,hb1⟩;have k1:=kA.below hb1 kA.lt;have c0:=k1.cell 0 _ rfl;have c1:=k1.cell 1 _ rfl;have c2:=k1.cell 2 _ rfl;have c3:=k1.cell 3 _ rfl;have c4:=k1.cell 4 _ rfl;have RH:=hb.trans (hb1.mono hb.size))
    | (go_at_call 47;refine (hsp _).mono ?_;rintro e w2 ⟨rfl,hb2⟩;have C8:=RH.trans (hb2.mono RH.size);have k2:=k1.below hb2 k1.lt;have d2:=k2.cell 2 _ rfl;have d3:=k2.cell 3 _ rfl;have d4:=k2.cell 4 _ rfl)
    | (go_at_call 59;have hz:=qN;refine (hh3 _ qN).mono ?_;rintro e w5 ⟨rfl,hb5⟩;have aaw:=qN.trans (hb5.mono qN.size))
    | (go_at_call 59;have hz:=jP;refine (Dg _ jP).mono ?_;rintro e w4 ⟨rfl,hb4⟩;have qN:=jP.trans (hb4.mono jP.size);have k4:=k3.below hb4 k3.lt;have f4:=k4.cell 4 _ rfl)
    | (go_at_call 59;refine (uD _ C8).mono ?_;rintro e w3 ⟨rfl,hb3⟩;have jP:=C8.trans (hb3.mono C8.size);have k3:=k2.below hb3 k2.lt;have e3:=k3.cell 3 _ rfl)
    | go_in)
  go_ret;exact ⟨rfl,aaw⟩
theorem Tryz.zsn {ph:Nat} (h:ph≤5∨(11≤ph∧ph≤16)):(fo ph).length=0↔ph=0:=by
 have:ph=0∨ph=1∨ph=2∨ph=3∨ph=4∨ph=5∨ph=11∨ph=12∨ph=13∨ph=14∨ph=15∨ph=16:=by omega
 rcases this with rfl|rfl|rfl|rfl|rfl|rfl|rfl|rfl|rfl|rfl|rfl|rfl<;>simp [fo]
section
variable {A:Nat→Prop} {w:World} {S P L Bs B I N:Nat} {r:Tryz.Rg} {s:Tryz.DS} {g:Nat→Int}
set_option maxRecDepth 100000 in
theorem Tryz.EI {fns:List Nat} {nw:Prop} (h:aQ fns nw A w S P L Bs B I N r s g):Calls prog 89 #[.pointer (some ⟨S,0,none⟩)] w fun e w'=>e= .returned (.bool true)∧w'=w:=by
 obtain ⟨aT,aU,au,aj,h1,_⟩:=h.obj;have c15:=h1.cell 15 _ rfl;go_enter func89,ntmps89;go_wp2_with fail;go_ret;exact ⟨rfl,rfl⟩
set_option maxRecDepth 100000 in
theorem Tryz.BD (h:DW A w S P L Bs B I N r s g):Calls prog 33 #[.pointer (some ⟨S,0,none⟩)] w fun e w'=>e= .returned (.bool (decide (s.ph≠0)))∧w'=w:=by
  have hm:=EI h.f;have hz:=zsn h.pb.ph;obtain ⟨aT,aU,au,aj,h1,⟨sa,c,rfl,_⟩,_⟩:=h.f.obj;have c16:=h1.cell 16 _ rfl;have hd:decide (s.ph≠0)=decide (0<(fo s.ph).length):=ya4.2 (by omega);rw [hd];generalize (fo s.ph).length=n at c16;clear hd hz;go_enter func33,ntmps33;go_wp2_with (first
    | (go_at_call 89;refine hm.mono ?_;rintro e w' ⟨rfl,hw⟩;have hw:=hw.symm;subst hw)
    | go_in)
  go_ret;exact ⟨rfl,rfl⟩
set_option maxRecDepth 100000 in
theorem Tryz.EU (h:DW A w S P L Bs B I N r s g):Calls prog 34 #[.pointer (some ⟨S,0,none⟩)] w fun e w'=>e= .returned (.int .i64 (if s.br then 4 else 0))∧w'=w:=by
  have hm:=EI h.f;obtain ⟨aT,aU,au,aj,h1,_⟩:=h.f.obj;have c26:=h1.cell 26 _ rfl;cases hb:s.br
  all_goals
    rw [hb] at c26;go_enter func34,ntmps34;go_wp2_with (first
      | (go_at_call 89;refine hm.mono ?_;rintro e w' ⟨rfl,hw⟩;have hw:=hw.symm;subst hw)
      | go_in)
    go_ret;exact ⟨rfl,rfl⟩
def Tryz.DS.A7 (s:DS):Int:=if s.br then 4 else if s.ph≠0 then 8 else 0
set_option maxRecDepth 100000 in
theorem Tryz.Ja (h:DW A w S P L Bs B I N r s g):Calls prog 61 #[.pointer (some ⟨S,0,none⟩)] w fun e w'=>e= .returned (.int .i64 s.A7)∧w'=w:=by
  have he:=EU h;have hz:=BD h;unfold DS.A7;cases hb:s.br<;>rw [hb] at he
  · by_cases hp:s.ph=0
    all_goals
      first|rw [yao (by simpa using hp)] at hz|rw [yaH hp] at hz
      go_enter func61,ntmps61;go_wp2_with (first
        | (go_at_call 34;refine he.mono ?_;rintro e w' ⟨rfl,hw⟩;have hw:=hw.symm;subst hw)
        | (go_at_call 33;refine hz.mono ?_;rintro e w' ⟨rfl,hw⟩;have hw:=hw.symm;subst hw)
        | go_in)
      go_ret
      first|exact ⟨by simp [hp],rfl⟩|exact ⟨rfl,rfl⟩
  · go_enter func61,ntmps61;go_wp2_with (first
      | (go_at_call 34;refine he.mono ?_;rintro e w' ⟨rfl,hw⟩;have hw:=hw.symm;subst hw)
      | go_in)
    go_ret;exact ⟨rfl,rfl⟩
set_option maxRecDepth 100000 in
theorem Tryz.zqo (h:DW A w S P L Bs B I N r s g):Calls prog 32 #[.pointer (some ⟨S,0,none⟩)] w fun e w'=>e= .returned (.int .i64 s.own)∧w'=w:=by
  have hm:=EI h.f;obtain ⟨aT,aU,au,aj,h1,_⟩:=h.f.obj;have c14:=h1.cell 14 _ rfl;go_enter func32,ntmps32;go_wp2_with (first
    | (go_at_call 89;refine hm.mono ?_;rintro e w' ⟨rfl,hw⟩;have hw:=hw.symm;subst hw)
    | go_in)
  go_ret;exact ⟨rfl,rfl⟩
set_option maxRecDepth 100000 in
theorem Tryz.Ik (S:Nat) (w:World):Calls prog 71 #[.pointer (some ⟨S,0,none⟩)] w fun e w'=>e= .returned (.tuple #[.agg #[.int .i64 4,.int .i64 0,.int .i64 0],.bool true])∧Below w.heap.size w w':=by
 have hbx:=(yab w.heap.size w).alloc (yaa _) (Obj.cells #[.int .i64 4,.int .i64 0,.int .i64 0] 54);have k2:=Cl.new w #[.int .i64 4,.int .i64 0,.int .i64 0] 54;go_enter func71,ntmps71;go_wp2_with fail;refine yap (bU rfl _ _ w.heap.size [.int .i64 4,.int .i64 0,.int .i64 0] _ rfl (fun j y hy=>by rw [yaf];exact k2.cell j y hy) underlying54 rfl (by kernel_rfl)) rfl ?_;exact ⟨rfl,hbx⟩
end
end Go.Proofs
namespace Go.Proofs
open Go.Dw Go.RowKit Go.Maps Go.Sort Go.Deep
theorem Tryz.zxR {fn:Func} {t p:Tmp} {ty:TypeId} (h:fn.results= #[.tmp t,.cell p ty]) (tmps:Array Value) (w:World) (b:Nat) (cs:List Value) (d:TypeDesc)
  (hp:tmps.getD p undef= .pointer (some ⟨b,0,none⟩)) (hg:w.rangeAt b 0 cs) (hu:prog.underlying ty=some d) (hd:d.isRow=true) (hi:(prog.info? ty).map (·.size)=some cs.length):
  (results fn tmps).run prog w= .ok (.tuple #[tmps.getD t undef,.agg cs.toArray]) w:=by
 have hp':tmps[p]?.getD undef= .pointer (some ⟨b,0,none⟩):=by simpa using hp
 simp [results,h,hp',asAddr,ydW w b 0 ty cs d hg hu hd hi]
section
variable {fns:List Nat} {nw:Prop} {A:Nat→Prop} {w:World} {S P L Bs B I N:Nat} {r:Tryz.Rg} {s:Tryz.DS} {g:Nat→Int}
set_option maxRecDepth 100000 in
theorem Tryz.zuD (h:DW A w S P L Bs B I N r s g):Calls prog 27 #[.pointer (some ⟨S,0,none⟩)] w fun e w'=>e= .returned (.tuple #[s.out,.bool s.has])∧Below w.heap.size w w':=by
  have hbx:=(yab w.heap.size w).alloc (yaa _) (Obj.cells #[.int .i64 0,.bool false,.int .i64 0,.int .u32 0,.bool false] 67);have k2:=Cl.new w #[.int .i64 0,.bool false,.int .i64 0,.int .u32 0,.bool false] 67;have hm:=EI (h.f.below hbx);have hbz:=BD (h.below hbx);obtain ⟨aT,aU,au,aj,h1,_⟩:=h.f.obj;have kS:=h1.below hbx h1.lt;have Rb:=kS.cell 25 _ rfl;by_cases hdn:s.ph=0∧s.dn=true
  · have e1:s.out= .agg #[.int .i64 s.op,.bool s.nn,.int .i64 s.tok,.int .u32 s.wr,.bool s.kk]:=yak hdn;have e2:s.has=true:=by unfold DS.has;rw [hdn.1,hdn.2];rfl
    rw [e1,e2];rw [hdn.2] at Rb;rw [hdn.1] at hbz;have c20:=kS.cell 20 _ rfl;have c21:=kS.cell 21 _ rfl;have FW:=kS.cell 22 _ rfl;have c23:=kS.cell 23 _ rfl;have c24:=kS.cell 24 _ rfl;have f0:=k2.free 0;have f1:=k2.free 1;have f2:=k2.free 2;have f3:=k2.free 3;have f4:=k2.free 4;have x0:=k2.cell 0 _ rfl;have x1:=k2.cell 1 _ rfl;have x2:=k2.cell 2 _ rfl;have x3:=k2.cell 3 _ rfl;have x4:=k2.cell 4 _ rfl;clear e1 e2 hdn;go_enter func27,ntmps27;go_wp2_with (first
      | (go_at_call 89;refine hm.mono ?_;rintro e w' ⟨rfl,hw⟩;have hw:=hw.symm;subst hw)
      | (go_at_call 33;refine hbz.mono ?_;rintro e w' ⟨rfl,hw⟩;have hw:=hw.symm;subst hw)
      | go_in)
    refine yap (bU rfl _ _ w.heap.size [.int .i64 s.op,.bool s.nn,.int .i64 s.tok,.int .u32 s.wr,.bool s.kk] _ rfl (fun j y hy=>by rw [yaf];first|exact (Cl.new w #[.int .i64 s.op,.bool s.nn,.int .i64 s.tok,.int .u32 s.wr,.bool s.kk] 67).cell j y hy|exact (((((k2.set 0 (.int .i64 s.op) (by simp)).set 1 (.bool s.nn) (by simp)).set 2 (.int .i64 s.tok) (by simp)).set 3 (.int .u32 s.wr) (by simp)).set 4 (.bool s.kk) (by simp)).cell j y hy) underlying67 rfl (by kernel_rfl)) rfl ?_;refine ⟨rfl,?_⟩
    first
      | exact (yab w.heap.size w).alloc (yaa _) _
      | exact mU (aD (aD (aD (aD (aD (ah (K:=fun _=>False) hbx) w.heap.size 0 _ (.inr (yaa _))) w.heap.size 1 _ (.inr (yaa _))) w.heap.size 2 _ (.inr (yaa _))) w.heap.size 3 _ (.inr (yaa _))) w.heap.size 4 _ (.inr (yaa _)))
  · have e1:s.out= .agg #[.int .i64 0,.bool false,.int .i64 0,.int .u32 0,.bool false]:=yah hdn;have e2:s.has=false:=by
      unfold DS.has;cases q:s.dn with
      | false=>simp
      | true=>simp only [Bool.and_true,yaR];exact fun e=>hdn ⟨e,q⟩
    rw [e1,e2];by_cases hp:s.ph=0
    · have hdf:s.dn=false:=by
        cases q:s.dn with
        | false=>rfl
        | true=>exact absurd ⟨hp,q⟩ hdn
      rw [hdf] at Rb;rw [hp] at hbz;clear hdf hdn e1 e2;go_enter func27,ntmps27;go_wp2_with (first
        | (go_at_call 89;refine hm.mono ?_;rintro e w' ⟨rfl,hw⟩;have hw:=hw.symm;subst hw)
        | (go_at_call 33;refine hbz.mono ?_;rintro e w' ⟨rfl,hw⟩;have hw:=hw.symm;subst hw)
        | go_in)
      refine yap (bU rfl _ _ w.heap.size [.int .i64 0,.bool false,.int .i64 0,.int .u32 0,.bool false] _ rfl (fun j y hy=>by rw [yaf];exact k2.cell j y hy) underlying67 rfl (by kernel_rfl)) rfl ?_;exact ⟨rfl,hbx⟩
    · rw [yaH hp] at hbz;clear hdn hp e1 e2;go_enter func27,ntmps27;go_wp2_with (first
        | (go_at_call 89;refine hm.mono ?_;rintro e w' ⟨rfl,hw⟩;have hw:=hw.symm;subst hw)
        | (go_at_call 33;refine hbz.mono ?_;rintro e w' ⟨rfl,hw⟩;have hw:=hw.symm;subst hw)
        | go_in)
      refine yap (bU rfl _ _ w.heap.size [.int .i64 0,.bool false,.int .i64 0,.int .u32 0,.bool false] _ rfl (fun j y hy=>by rw [yaf];exact k2.cell j y hy) underlying67 rfl (by kernel_rfl)) rfl ?_;exact ⟨rfl,hbx⟩
set_option maxRecDepth 100000 in
theorem Tryz.tq (h:aQ fns nw A w S P L Bs B I N r s g) {i:Int} (hi:0≤i∧i<r.n):Calls prog 57 #[.pointer (some ⟨S,0,none⟩),.int .i64 i] w fun e w'=>e= .returned (.int .u64 (r.d+16*i))∧w'=w:=by
 have hb:=h.rg.bnd;have hd:=h.rg.d;have e1:IntKind.wrap .u64 i=i:=wrap_u64 _ (by omega) (by omega);have e2:IntKind.wrap .u64 (16*i)=16*i:=wrap_u64 _ (by omega) (by omega);have e3:IntKind.wrap .u64 (r.d+16*i)=r.d+16*i:=wrap_u64 _ (by omega) (by omega);obtain ⟨aT,aU,au,aj,h1,_⟩:=h.obj;have c3:=h1.cell 3 _ rfl;clear hi hb hd;go_enter func57,ntmps57;go_wp2_with fail;go_ret;exact ⟨rfl,rfl⟩
set_option maxRecDepth 100000 in
theorem Tryz.YJ (h:aQ fns nw A w S P L Bs B I N r s g) (hs:0≤s.sx∧s.sx<r.n):Calls prog 125 #[.pointer (some ⟨S,0,none⟩)] w fun e w'=>e= .returned (.tuple #[.bool (iO g s),.agg #[.int .i64 2,.int .i64 1,.int .i64 s.sx]])∧Below w.heap.size w w':=by
  have hb:=h.rg.bnd;have hd:=h.rg.d;have hbx:=(yab w.heap.size w).alloc (yaa _) (Obj.cells #[.int .i64 0,.int .i64 0,.int .i64 0] 54);have hX:=h.below hbx.drew;have hSn:S≠w.heap.size:=by have:=h.lt S h.aS;omega
  have hpl:=tq hX hs;have hN:=h.hN;have hF:=h.fit;obtain ⟨a,ha,ha2⟩: ∃a:Nat,(a:Int)=r.d+16*s.sx+14∧a+2≤N:=⟨(r.d+16*s.sx+14).toNat,by omega,by omega⟩;have e3:IntKind.wrap .u64 (r.d+16*s.sx+14)=(a:Int):=by rw [wrap_u64 _ (by omega) (by omega)];omega
  have ea:(4096+16*s.sx+14).toNat=a:=by omega
  have hu:iO g s=xI (bW g a 2) s.sw:=by unfold iO;rw [ea]
  have yw:=sV g h.mem.byte a 2;have hld:=JG P L Bs B N a 2 g _ hX.mem h.hN (by decide) ha2;rw [hu];generalize bW g a 2=f at yw hld;have e4:IntKind.wrap .u16 f=f:=tN (by omega) (by omega);have fH:=fun w'=>zsZ (b:=s.sw) (f:=f) ⟨yw.1,by omega⟩ w';have k2:=(Cl.new w #[.int .i64 0,.int .i64 0,.int .i64 0] 54);have kd:Cl (w.alloc (Obj.cells #[.int .i64 0,.int .i64 0,.int .i64 0] 54)).drew w.heap.size [.int .i64 0,.int .i64 0,.int .i64 0]:=k2.kept rfl;obtain ⟨aT,aU,au,aj,h1,_⟩:=hX.obj;have c0:=h1.cell 0 _ rfl;have c12:=h1.cell 12 _ rfl;have c13:=h1.cell 13 _ rfl;clear hs hb hd ha ha2 hu ea yw hN hF;go_enter func125,ntmps125;go_wp2_with fail;go_region_held3 (fun w'=>w'.cell? ⟨S,0,none⟩=some (.pointer (some ⟨P,0,none⟩))∧w'.cell? ⟨S,12,none⟩=some (.int .i64 s.sx)) (go_keep)
    ((first
      | (go_at_call 57;refine hpl.mono ?_;rintro en w3 ⟨rfl,hw3⟩;have hw3:=hw3.symm;subst hw3)
      | (go_at_call 119;refine hld.mono ?_;rintro en w4 ⟨rfl,hb4⟩;have h4:=h1.below hb4 h1.lt;have k4:=kd.below hb4 kd.lt;have y0:=h4.cell 0 _ rfl;have Nl:=h4.cell 12 _ rfl;have y13:=h4.cell 13 _ rfl)))
  all_goals (go_wp2_with fail)
  all_goals
    have Ao:=(yab w4.heap.size w4).drew;have h5:=h4.below Ao h4.lt;have k5:=k4.below Ao k4.lt;have v12:=h5.cell 12 _ rfl;have v13:=h5.cell 13 _ rfl;have f0:=k5.free 0;have f1:=k5.free 1;have f2:=k5.free 2;have u0:=k4.cell 0 _ rfl;have u1:=k4.cell 1 _ rfl;have u2:=k4.cell 2 _ rfl;have g0:=k4.free 0;have g1:=k4.free 1;have g2:=k4.free 2;clear c0 c12 c13 y0;go_region_law (first
      | (go_simp;go_at_call 156;refine (fH _).mono ?_;rintro en w6 ⟨rfl,yI⟩;have yI:=yI.symm;subst yI))
    all_goals (go_wp2_with fail)
  all_goals
    have hbw:=(((hbx.drew).trans (hb4.mono (by simp))).trans (Ao.mono (by have:=hb4.size;simp at this;omega)));have kA:=((k5.set 0 (.int .i64 2) (by simp)).set 1 (.int .i64 1) (by simp)).set 2 (.int .i64 s.sx) (by simp);refine yap (zxR rfl _ _ w.heap.size [.int .i64 2,.int .i64 1,.int .i64 s.sx] _ rfl (fun j y hy=>by rw [yaf];exact kA.cell j y hy) underlying54 rfl (by kernel_rfl)) rfl ?_;exact ⟨rfl,mU (aD (aD (aD (ah (K:=fun _=>False) hbw) w.heap.size 0 _ (.inr (yaa _))) w.heap.size 1 _ (.inr (yaa _))) w.heap.size 2 _ (.inr (yaa _)))⟩
end
end Go.Proofs
namespace Go.Proofs
open Go.Dw Go.RowKit Go.Maps Go.Sort Go.Deep
section
variable {fns gW:List Nat} {nw ji:Prop} {A A':Nat→Prop} {w w':World} {S P L Bs B I N:Nat} {r:Tryz.Rg} {s s':Tryz.DS} {g g':Nat→Int}
theorem Tryz.aQ.lG (h:aQ fns nw A w S P L Bs B I N r s g):S<w.heap.size∧I<w.heap.size∧P<w.heap.size∧L<w.heap.size∧Bs<w.heap.size∧B<w.heap.size:=
 ⟨h.lt S h.aS,h.lt I h.aI,h.mem.pl,h.mem.ll,h.mem.sl,h.lt B h.aB⟩
theorem Tryz.aQ.box (h:aQ fns nw A w S P L Bs B I N r s g) (o:Obj):aQ fns nw (fun b=>A b∨b=w.heap.size) (w.alloc o) S P L Bs B I N r s g:=by
 have hb:=(yab w.heap.size w).alloc (yaa _) o;refine h.qZ (fun b hb' q=>q.elim id fun e=>by omega) (.inl h.aS) (.inl h.aI) (.inl h.aB) (fun b q=> ?_) (fun b hh _=>hb.block b hh) hb.size;rcases q with q|rfl
 ·exact yae (h.lt b q) hb.size
 ·simp
theorem Tryz.aQ.fin {X:Nat} (h:aQ fns nw (fun b=>A b∨b=X) w S P L Bs B I N r s g) (aS:A S) (aI:A I) (aB:A B) (hX:X≠S∧X≠I∧X≠P∧X≠L∧X≠Bs∧X≠B) (hm:Dw.Mv (· =X) w w'):aQ fns nw A w' S P L Bs B I N r s g:=by
 obtain ⟨n1,n2,n3,n4,n5,n6⟩:=hX;refine h.qZ (fun b _ q=> .inl q) aS aI aB (fun b q=>yae (h.lt b (.inl q)) hm.size) (fun b hb hh=>hm.block b hb ?_) hm.size;rcases hh with hh|rfl|rfl|rfl|rfl|rfl|rfl
 ·exact fun e=>hh (.inr e)
 ·exact n1.symm
 ·exact n2.symm
 ·exact n3.symm
 ·exact n4.symm
 ·exact n5.symm
 ·exact n6.symm
theorem Tryz.aQ.sP (h:aQ fns nw A w S P L Bs B I N r s g) (hm:Dw.Mv (· =B) w w') (hg:GM w' P L Bs B N g'):aQ fns nw A w' S P L Bs B I N r s g':=by
 obtain ⟨aT,aU,au,aj,h1,h2⟩:=h.ptr (w':=w') fun b hb hn=>hm.block b hb fun e=>hn (by have e:b=B:=e;exact e▸h.aB);exact h.Bc (hm.mono fun b e=> .inr e) hg ⟨aT,aU,au,aj,h1.kept (hm.block S h1.lt h.sd.2.2.2),h2⟩ rfl
theorem Tryz.ku {K:Nat→Prop} {a b:World} (h:Mv K a b):Dw.Mv K a b:=⟨h.os,h.tape,h.output,h.size,h.block⟩
theorem Tryz.zrm {a:Int} {x:Bool} (h:0≤a∧a<32768):0≤sQ a x∧sQ a x<65536:=by
 unfold sQ;cases x<;>simp<;>omega
set_option maxRecDepth 100000 in
theorem Tryz.zsf (h:aQ fns nw A w S P L Bs B I N r s g) (hs:0≤s.sx∧s.sx<r.n):Calls prog 127 #[.pointer (some ⟨S,0,none⟩)] w fun e w'=>e= .returned (.tuple #[.agg #[.int .i64 3,.int .i64 10,.int .i64 0],.bool true])∧aQ fns nw A w' S P L Bs B I N r s (iK g r.v.toNat 4 (sQ s.sx s.sw+131072))∧Dw.Mv (· =B) w w':=by
  have hb:=h.rg.bnd;have hv:=h.rg.v;have hN:=h.hN;have hF:=h.fit;have hlt:=h.lG;have hbx:=(yab w.heap.size w).alloc (yaa _) (Obj.cells #[.int .i64 0,.int .i64 0,.int .i64 0] 54);have k2:=Cl.new w #[.int .i64 0,.int .i64 0,.int .i64 0] 54;have hX:=h.box (Obj.cells #[.int .i64 0,.int .i64 0,.int .i64 0] 54);have hbd:=(yab (w.alloc (Obj.cells #[.int .i64 0,.int .i64 0,.int .i64 0] 54)).heap.size (w.alloc (Obj.cells #[.int .i64 0,.int .i64 0,.int .i64 0] 54))).drew;have Af:=hX.below hbd;have kd:Cl (w.alloc (Obj.cells #[.int .i64 0,.int .i64 0,.int .i64 0] 54)).drew w.heap.size [.int .i64 0,.int .i64 0,.int .i64 0]:=k2.kept rfl;obtain ⟨a,ha,ha2⟩: ∃a:Nat,r.v=a∧a+4≤N:=⟨r.v.toNat,by omega,by omega⟩;have ea:r.v.toNat=a:=by omega
  have hpw:=fun w'=>ztU (a:=s.sx) (x:=s.sw) ⟨hs.1,by omega⟩ w';have hpi:=zrm (a:=s.sx) (x:=s.sw) ⟨hs.1,by omega⟩;rw [ea];generalize sQ s.sx s.sw=f at hpw hpi;unfold bM at hpw;have hev:=fun w'=>zwY hpi w';have hst:=fun w' (hg:GM w' P L Bs B N g)=>uZ P L Bs B N a 4 (f+131072) g w' hg h.hN (by decide) ha2;have hd1:=Af.obj;obtain ⟨aT,aU,au,aj,h1,_⟩:=hd1;have c0:=h1.cell 0 _ rfl;have c4:=h1.cell 4 _ rfl;have c12:=h1.cell 12 _ rfl;have c13:=h1.cell 13 _ rfl;have hc4: ∀ {w':World},Cl w' S (s.row r P I aT aU au aj)→w'.cell? ⟨S,4,none⟩=some (.int .u64 a):=fun q=>ha▸q.cell 4 _ rfl;rw [ha] at c4;clear hs hb hv ha ha2 ea hpi hN hF;go_enter func127,ntmps127;go_wp2_with fail;go_region_held3 (fun w'=>w'.cell? ⟨S,0,none⟩=some (.pointer (some ⟨P,0,none⟩))∧w'.cell? ⟨S,4,none⟩=some (.int .u64 a)∧w'.cell? ⟨S,12,none⟩=some (.int .i64 s.sx)∧w'.cell? ⟨S,13,none⟩=some (.bool s.sw)) (go_keep)
    ((first
      | (go_at_call 158;refine (hpw _).mono ?_;rintro en w3 ⟨rfl,hb3⟩;have h3:=Af.below hb3;have p3:=h1.below hb3 h1.lt;have y0:=p3.cell 0 _ rfl;have y4:=hc4 p3;have Nl:=p3.cell 12 _ rfl;have y13:=p3.cell 13 _ rfl)
      | (go_at_call 157;refine (hev _).mono ?_;rintro en w4 ⟨rfl,hb4⟩;have h4:=h3.below hb4;have p4:=p3.below hb4 p3.lt;have z0:=p4.cell 0 _ rfl;have z4:=hc4 p4;have z12:=p4.cell 12 _ rfl;have wR:=p4.cell 13 _ rfl)
      | (go_at_call 18;refine (hst _ h4.mem).mono ?_;rintro en w5 ⟨rfl,hg5,aH⟩;have h5:=h4.sP (ku aH) hg5;have p5:=p4.kept (aH.block S p4.lt h.sd.2.2.2);have v0:=p5.cell 0 _ rfl;have v4:=hc4 p5;have v12:=p5.cell 12 _ rfl;have v13:=p5.cell 13 _ rfl)))
  all_goals
    have k5:=((kd.below hb3 kd.lt).below hb4 (kd.below hb3 kd.lt).lt).kept (aH.block _ ((kd.below hb3 kd.lt).below hb4 (kd.below hb3 kd.lt).lt).lt (by omega));have hmv:=(((ah (K:=(· =B)) hbx).trans (ah hbd)).trans ((ah hb3).trans (ah hb4))).trans (ku aH);have b0:=k5.cell 0 _ rfl;have q0:=k5.free 0;have b1:=k5.cell 1 _ rfl;have q1:=k5.free 1;have b2:=k5.cell 2 _ rfl;have q2:=k5.free 2;go_wp2_with fail;have kA:=(((k5.set 0 (.int .i64 3) (by simp)).set 1 (.int .i64 10) (by simp)).set 2 (.int .i64 0) (by simp));refine yap (bU rfl _ _ w.heap.size [.int .i64 3,.int .i64 10,.int .i64 0] _ rfl (fun j y hy=>by rw [yaf];exact kA.cell j y hy) underlying54 rfl (by kernel_rfl)) rfl ?_;exact ⟨rfl,h5.fin h.aS h.aI h.aB ⟨by omega,by omega,by omega,by omega,by omega,by omega⟩ (zag (zag (zag (ah (K:=(· =w.heap.size)) (yab _ _)) w.heap.size 0 _ rfl) w.heap.size 1 _ rfl) w.heap.size 2 _ rfl),aD (aD (aD (hmv) w.heap.size 0 _ (.inr (yaa _))) w.heap.size 1 _ (.inr (yaa _))) w.heap.size 2 _ (.inr (yaa _))⟩
end
end Go.Proofs
end
