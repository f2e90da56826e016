/-
  Proved: laws on the way to 'SdriveHoldsProof' (texts WkB WkC WkD WkE WkF0 WkG DwTurn WkH0 WkH WkI0 WkI WkJ ClA WkK WkL WkM WkN WkO WkP WkQ WkR WkS0 WkS1 WkS WkT DwOrc Orc WkU XaB DwArgs DwVal SvJ SvK XaC XaD XaE XaF0 XaF XaG XaH XaI XaJ XaK XaL XaM0 XaM XaN XaO XaP XcA XcB XcC YaA YaB YaC); no condition.
-/
import Derived.Test.YtaichlekaoefpaaGreatM5
import Derived.Defers
import Derived.BigFrame
import Derived.Recover
import Derived.Shelf.SlIterI.Nil
import Derived.Shelf.SlIterI.Sorted
import Derived.Lib.SlKeysI
import Derived.Test.YtaichlekaoefpaaGreatProg
import Derived.Shelf.SortM.Plain
import Derived.Shelf.SortM.SortNone
import Derived.KernelRfl
import Derived.Sort.OwnSortedInts
import Derived.Carry
import Derived.OpenShut
import Derived.ProofKit
set_option linter.unusedSimpArgs false
set_option linter.unusedVariables false
set_option maxHeartbeats 4000000
noncomputable section
namespace Go.Proofs
open Go.Dw
def Tryz.zk1:List Ent:= []
def Tryz.znZ:List Sh:=ztA (.lit 0) [ckEl 3 4 0]
def Tryz.zeh:List (Nat×AV):=zfF (.lit 0) [(.lit 0,3)]
def Tryz.ziw:List LEnt:= []
def Tryz.zix:List AEnt:= []
def Tryz.zn0:Option AV:=some ckD
def Tryz.zty:List (SB×Bool):= []
def Tryz.zrx:List zfe:= [
 ⟨.ret,[2],(some (.tup [.func 137 [] [.ptr 1 0,.ptr 2 0],.tup []])),⟨.tup [.ptr 1 0],[(1,[.int .i64 (.lit 2)]),(2,[.int .u64 (u64v 2)])],[],0,[1,2]⟩⟩,
 ⟨.normal,[0,2,3,10,11,12],(some (.tup [.func 137 [] [.ptr 1 0,.ptr 2 0],.tup []])),⟨.tup [.sx 0 ((lnv 0)) 3 [((.lit 0),3)],.ptr 1 0,.ptr 2 0,.sx 0 ((lnv 0)) 3 [((.lit 0),3)],.int .i64 (lnv 0),.int .i64 (.lit 1)],[(1,[.int .i64 (.lit 0)]),(2,[.int .u64 (.bin .add .u64 (u64v 2) (u32v 4))])],[],0,[1,2]⟩⟩,
 ⟨(.exit 0),[2],(some (.tup [.func 137 [] [.ptr 1 0,.ptr 2 0],.tup []])),⟨.tup [.ptr 1 0],[(1,[.int .i64 (.lit 0)]),(2,[.int .u64 (u64v 2)])],[],0,[1,2]⟩⟩]
def Tryz.zrw:List (List (SB×Bool)×Nat):= [
 ([((.cmp .lss (.lit 0) (lnv 0)),true),((.cmp .lss (u32v 4) (.lit 1)),true)],0),
 ([((.cmp .lss (.lit 0) (lnv 0)),true),((.cmp .lss (u32v 4) (.lit 1)),false),((.cmp .gtr (.bin .sub .u64 (u32v 4) (.lit 1)) (.bin .sub .u64 (.lit 18446744073709551615) (u64v 3))),true)],0),
 ([((.cmp .lss (.lit 0) (lnv 0)),true),((.cmp .lss (u32v 4) (.lit 1)),false),((.cmp .gtr (.bin .sub .u64 (u32v 4) (.lit 1)) (.bin .sub .u64 (.lit 18446744073709551615) (u64v 3))),false)],1),
 ([((.cmp .lss (.lit 0) (lnv 0)),false)],2)]
theorem Tryz.ztx:(evL prog (zaY zk1) (zb8 ziw) (zbV zix) 100000 (.code (zbf prog [0,0,1,0,1,1,1,1,95]) [0,0,1,0,1,1,1,1,95] 53 (envS 53 zeh zn0) (zaV 0 znZ) (zbA zrx 0))).ways zty=some zrw:=by kernel_rfl
theorem Tryz.zv2:(zaB znZ&&zap zk1&&za1 ziw&&za3 zix&&zaR zeh&&zaQ zrx&&zbr 53 zeh&&Nat.ble 53 zaZ&&zbx zn0)=true:=by kernel_rfl
def Tryz.zk0:List Ent:= []
def Tryz.znX:List Sh:=ztA (.lit 0) [ckEl 3 4 0,ckEl 5 6 1]
def Tryz.zeg:List (Nat×AV):=zfF (lnv 1) [(lnv 1,3),(.bin .sub .i64 (lnv 1) (.lit 1),4)]
def Tryz.ziu:List LEnt:= []
def Tryz.ziv:List AEnt:= []
def Tryz.znY:Option AV:=some ckD
def Tryz.ztw:List (SB×Bool):= [(.cmp .lss (lnv 1) (lnv 0),true),(.cmp .gtr (lnv 1) (.lit 0),true)]
def Tryz.zrv:List zfe:= [
 ⟨.ret,[2],(some (.tup [.func 137 [] [.ptr 1 0,.ptr 2 0],.tup []])),⟨.tup [.ptr 1 0],[(1,[.int .i64 (.lit 2)]),(2,[.int .u64 (u64v 2)])],[],0,[1,2]⟩⟩,
 ⟨.normal,[0,2,3,10,11,12],(some (.tup [.func 137 [] [.ptr 1 0,.ptr 2 0],.tup []])),⟨.tup [.sx 0 ((lnv 0)) 3 [((lnv 1),3),((.bin .sub .i64 (lnv 1) (.lit 1)),4)],.ptr 1 0,.ptr 2 0,.sx 0 ((lnv 0)) 3 [((lnv 1),3),((.bin .sub .i64 (lnv 1) (.lit 1)),4)],.int .i64 (lnv 0),.int .i64 (.bin .add .i64 (lnv 1) (.lit 1))],[(1,[.int .i64 (.lit 0)]),(2,[.int .u64 (.bin .add .u64 (u64v 2) (u32v 4))])],[],0,[1,2]⟩⟩]
def Tryz.zru:List (List (SB×Bool)×Nat):= [
 ([((.cmp .lss (u32v 4) (.lit 1)),true)],0),
 ([((.cmp .lss (u32v 4) (.lit 1)),false),((.cmp .gtr (.bin .sub .u64 (u32v 4) (.lit 1)) (.bin .sub .u64 (.lit 18446744073709551615) (u64v 3))),true)],0),
 ([((.cmp .lss (u32v 4) (.lit 1)),false),((.cmp .gtr (.bin .sub .u64 (u32v 4) (.lit 1)) (.bin .sub .u64 (.lit 18446744073709551615) (u64v 3))),false),(.var 1,true),(.var 0,false)],0),
 ([((.cmp .lss (u32v 4) (.lit 1)),false),((.cmp .gtr (.bin .sub .u64 (u32v 4) (.lit 1)) (.bin .sub .u64 (.lit 18446744073709551615) (u64v 3))),false),(.var 1,true),(.var 0,true)],1),
 ([((.cmp .lss (u32v 4) (.lit 1)),false),((.cmp .gtr (.bin .sub .u64 (u32v 4) (.lit 1)) (.bin .sub .u64 (.lit 18446744073709551615) (u64v 3))),false),(.var 1,false)],1)]
theorem Tryz.ztv:(evL prog (zaY zk0) (zb8 ziu) (zbV ziv) 100000 (.code (zbf prog [0,0,1,0,1,1,1,1,95]) [0,0,1,0,1,1,1,1,95] 53 (envS 53 zeg znY) (zaV 0 znX) (zbA zrv 0))).ways ztw=some zru:=by kernel_rfl
theorem Tryz.zv1:(zaB znX&&zap zk0&&za1 ziu&&za3 ziv&&zaR zeg&&zaQ zrv&&zbr 53 zeg&&Nat.ble 53 zaZ&&zbx znY)=true:=by kernel_rfl
def Tryz.zkZ:List Ent:= []
def Tryz.znV:List Sh:=ztA (.lit 0) []
def Tryz.zef:List (Nat×AV):=zfF (lnv 1) []
def Tryz.zis:List LEnt:= []
def Tryz.zit:List AEnt:= []
def Tryz.znW:Option AV:=some ckD
def Tryz.ztu:List (SB×Bool):= [(.cmp .lss (lnv 1) (lnv 0),false)]
def Tryz.zrt:List zfe:= [
 ⟨(.exit 0),[2],(some (.tup [.func 137 [] [.ptr 1 0,.ptr 2 0],.tup []])),⟨.tup [.ptr 1 0],[(1,[.int .i64 (.lit 0)]),(2,[.int .u64 (u64v 2)])],[],0,[1,2]⟩⟩]
def Tryz.zrs:List (List (SB×Bool)×Nat):= [
 ([], 0)]
theorem Tryz.ztt:(evL prog (zaY zkZ) (zb8 zis) (zbV zit) 100000 (.code (zbf prog [0,0,1,0,1,1,1,1,95]) [0,0,1,0,1,1,1,1,95] 53 (envS 53 zef znW) (zaV 0 znV) (zbA zrt 0))).ways ztu=some zrs:=by kernel_rfl
theorem Tryz.zv0:(zaB znV&&zap zkZ&&za1 zis&&za3 zit&&zaR zef&&zaQ zrt&&zbr 53 zef&&Nat.ble 53 zaZ&&zbx znW)=true:=by kernel_rfl
def Tryz.znU:List Ent:= []
def Tryz.zrq:List Sh:=ztA (.lit 0) []
def Tryz.zfb:List (Nat×AV):= [(2,.ptr 1 0)]
def Tryz.zkX:List LEnt:= []
def Tryz.zkY:List AEnt:= []
def Tryz.zrr:Option AV:=some ckD
def Tryz.zvZ:List (SB×Bool):= []
def Tryz.zuc:List zfe:= [
 ⟨.ret,[2],(some (.tup [.func 137 [] [.ptr 1 0,.ptr 2 0],.tup []])),⟨.tup [.ptr 1 0],[(1,[.int .i64 (.lit 0)]),(2,[.int .u64 (u64v 2)])],[],0,[1,2]⟩⟩]
def Tryz.zub:List (List (SB×Bool)×Nat):= [
 ([], 0)]
theorem Tryz.zvY:(evL prog (zaY znU) (zb8 zkX) (zbV zkY) 100000 (.code (zbf prog [1,1,1,1,1,95]) [1,1,1,1,1,95] 53 (envS 53 zfb zrr) (zaV 0 zrq) (zbA zuc 0))).ways zvZ=some zub:=by kernel_rfl
theorem Tryz.zw7:(zaB zrq&&zap znU&&za1 zkX&&za3 zkY&&zaR zfb&&zaQ zuc&&zbr 53 zfb&&Nat.ble 53 zaZ&&zbx zrr)=true:=by kernel_rfl
open Go.RowKit
def Tryz.zaE (pw:Bool) (sum:Int):List Sg→Int
 | [] => if 4294967296≤sum then 2 else 0
 | x::r=>if x.len<1∨18446744073709551615-x.at1<x.len-1∨(pw=true∧x.wr=false) then 2 else zaE x.wr (sum+x.len) r
def Tryz.zaO (l:List Sg):Int:=if 64<l.length then 3 else zaE false 0 l
theorem Tryz.zaK {P:Program} {c c':Code} {Q:Exit→Act→World→Prop} {a:Act} {w:World} (e:c=c') (h:c'.wp P Q a w):c.wp P Q a w:=e▸h
structure Tryz.CkI (l:List Sg) (sa:Option Addr) (c E C:Nat) (w0:World) (k:Nat) (a:Act) (w:World):Prop where
 kl:k≤l.length
 size:a.tmps.size=53
 s0:a.tmps.getD 0 undef= .slice sa l.length c
 s2:a.tmps.getD 2 undef= .pointer (some ⟨E,0,none⟩)
 s3:a.tmps.getD 3 undef= .pointer (some ⟨C,0,none⟩)
 s10:a.tmps.getD 10 undef= .slice sa l.length c
 s11:a.tmps.getD 11 undef= .int .i64 l.length
 s12:a.tmps.getD 12 undef= .int .i64 k
 dfr: ∃d,a.defers= [d]∧ ∃args cap,d.target= .fn (.func 137) cap∧d.args=args∧(args++cap).toList= [.pointer (some ⟨E,0,none⟩),.pointer (some ⟨C,0,none⟩)]
 mv:Dw.Mv (fun b=>b=E∨b=C) w0 w
 sum: ∃pw s,Own w E [.int .i64 0]∧Own w C [.int .u64 s]∧0≤s∧s≤k*4294967296∧zaE pw s (l.drop k)=zaE false 0 l∧(k=0→pw=false)∧(∀i,k=i+1→ ∃h:i<l.length,pw=l[i].wr)
def Tryz.zbo (n k s:Int) (x y:Sg) (sl:Value):Val:=vof [n,k,s,x.at1,x.len,y.at1,y.len] [x.wr,y.wr] [sl]
theorem Tryz.zf1 {ρ:Val} {j:J} {E C:Nat} {ds:List Deferred} (h:DRo ρ j (some ckD) ds) (h1:j 1=some ⟨E,0,0,none⟩) (h2:j 2=some ⟨C,0,0,none⟩):
  ∃ d,ds= [d]∧ ∃args cap,d.target= .fn (.func 137) cap∧d.args=args∧(args++cap).toList= [.pointer (some ⟨E,0,none⟩),.pointer (some ⟨C,0,none⟩)]:=by
 cases ds with
 | nil=>cases h
 | cons d ds=>
  obtain ⟨g,args,rest,cap,e1,e2,e3,e4⟩:=h;unfold ckD at e1;cases e1;cases ds with
  | cons d' ds'=>obtain ⟨_,_,_,_,e,_⟩:=e4;cases e
  | nil=>
   refine ⟨d,rfl,d.args,cap,e2,rfl,?_⟩;obtain ⟨v1,m1,q1,⟨L1,r1,rfl⟩,v2,m2,rfl,⟨L2,r2,rfl⟩,q3⟩:=e3;rw [h1] at r1;cases r1;rw [h2] at r2;cases r2;have q3:m2= []:=q3;rw [q1,q3]
theorem Tryz.ck_dfr' {ρ:Val} {j:J} {E C:Nat} {ds:List Deferred} (h1:j 1=some ⟨E,0,0,none⟩) (h2:j 2=some ⟨C,0,0,none⟩)
  (h: ∃d,ds= [d]∧ ∃args cap,d.target= .fn (.func 137) cap∧d.args=args∧(args++cap).toList= [.pointer (some ⟨E,0,none⟩),.pointer (some ⟨C,0,none⟩)]):DRo ρ j (some ckD) ds:=by
 obtain ⟨d,rfl,args,cap,e1,rfl,e3⟩:=h;exact ⟨_,_,_,cap,rfl,e1,by rw [e3];exact zao (zjy h1) (zao (zjy h2) RL.nil),rfl⟩
theorem Tryz.zj0 {w:World} {R o:Nat} {vs:List Value} (h:w.rangeAt R o vs) (h0:vs≠ []): ∃(arr:Array Value) (e:TypeId) (fr:Nat×Nat),w.heap[R]? =some (.cells arr e fr)∧o+vs.length≤arr.size∧ ∀(i:Nat) (y:Value),vs[i]? =some y→arr[o+i]? =some y:=by
 have hc: ∀(i:Nat) (y:Value),vs[i]? =some y→ ∃arr e fr,w.heap[R]? =some (.cells arr e fr)∧arr[o+i]? =some y:=fun i y hy=>by
  have:=h i y hy;unfold World.cell? at this;split at this
  ·rename_i arr e fr he;exact ⟨arr,e,fr,he,this⟩
  ·cases this
 obtain ⟨y0,hy0⟩: ∃y,vs[0]? =some y:=⟨vs[0]'(List.length_pos_iff.2 h0),List.getElem?_eq_getElem (List.length_pos_iff.2 h0)⟩;obtain ⟨arr,e,fr,he,_⟩:=hc 0 y0 hy0;refine ⟨arr,e,fr,he,?_,fun i y hy=> ?_⟩
 ·have hl:vs.length-1<vs.length:=by have:=List.length_pos_iff.2 h0;omega
  obtain ⟨arr',e',fr',he',hy'⟩:=hc (vs.length-1) _ (List.getElem?_eq_getElem hl);rw [he] at he';cases he';have:=(Array.getElem?_eq_some_iff.1 hy').1;omega
 ·obtain ⟨arr',e',fr',he',hy'⟩:=hc i y hy;rw [he] at he';cases he';exact hy'
theorem Tryz.zdd {w:World} {X o:Nat} {ρ:Val} {j:J} {K:Nat→Prop} {g:Gho} {row:List AV} {vals:List Value} (h:w.rangeAt X o vals) (h0:vals≠ []) (hr:RL ρ j row vals) (hK: ¬K X):ShOk ρ j (cxOf w K g) (X,o) (.ro row):=by
 obtain ⟨arr,e,fr,h1,h2,h3⟩:=zj0 h h0;exact ⟨hK,vals,arr,e,fr,h1,hr,by rw [←RL.length hr];exact h2,h3⟩
structure Tryz.CkO (E C:Nat) (w0:World) (e s:Int) (a:Act) (w:World):Prop where
 size:a.tmps.size=53
 s2:a.tmps.getD 2 undef= .pointer (some ⟨E,0,none⟩)
 dfr: ∃d,a.defers= [d]∧ ∃args cap,d.target= .fn (.func 137) cap∧d.args=args∧(args++cap).toList= [.pointer (some ⟨E,0,none⟩),.pointer (some ⟨C,0,none⟩)]
 mv:Dw.Mv (fun b=>b=E∨b=C) w0 w
 oE:Own w E [.int .i64 e]
 oC:Own w C [.int .u64 s]
theorem Tryz.zbg {ρ:Val} {lc:Nat→Dw.Loc} {L:List Value} {vs:List AV} (h:Ending.returned (.tuple L.toArray)= .returned ((AV.tup vs).val ρ lc)):L=AV.valL ρ lc vs:=by
 injection h with h;unfold AV.val at h;injection h with h;simpa using congrArg Array.toList h
theorem Tryz.ztz {l:List Sg} {sa:Option Addr} {c E C:Nat} {w0:World} {k:Nat} {a:Act} {w:World} (h:CkI l sa c E C w0 k a w) (hl:l.length≤64) (hok: ∀x∈l,x.ok) (hne:E≠C) (hE:E<w0.heap.size) (hC:C<w0.heap.size)
    (hr:l= []∨ ∃R o,sa=some ⟨R,o,none⟩∧R≠E∧R≠C∧w0.rangeAt R o (zam l)):
    (zbf prog [0,0,1,0,1,1,1,1,95]).wp prog (fun ex a' w'=>match ex with
      | .normal=>k<l.length∧CkI l sa c E C w0 (k+1) a' w'
      | ex=>(ex= .ret∧zaE false 0 l=2∧ ∃s,CkO E C w0 2 s a' w')∨(ex= .exit 0∧ ∃s,0≤s∧s<18446744073709551616∧zaE false 0 l=(if 4294967296≤s then 2 else 0)∧CkO E C w0 0 s a' w')) a w:=by
  obtain ⟨kl,size,s0,s2,s3,s10,s11,s12,dfr,mv,pw,s,oE,oC,hs0,hs1,hsw,hp0,hp1⟩:=h;have hEw:E<w.heap.size:=zkj oE;have hCw:C<w.heap.size:=zkj oC;have hK: ∀b,(b=E∨b=C)→b<w.heap.size:=fun b hb=>by rcases hb with rfl|rfl<;>assumption
  by_cases hkl:k<l.length
  · rcases hr with h0|⟨R,o,rfl,hRE,hRC,hr⟩
    · rw [h0] at hkl;simp at hkl
    have hRw0:=zgK hr (by intro h0;rw [h0] at hkl;simp at hkl);have hrw:w.rangeAt R o (zam l):=zae hr (mv.block R hRw0 (by rintro (e|e)<;>contradiction));have hx:=zcV hrw k hkl;have hxo:=hok l[k] (List.getElem_mem hkl);rw [List.drop_eq_getElem_cons hkl] at hsw;have hKR: ¬(R=E∨R=C):=by rintro (e|e)<;>contradiction
    generalize hX:l[k]=X at hx hxo hsw;obtain ⟨xa0,xa1,xl0,xl1⟩:=hxo;rw [zaE] at hsw;have fin: ∀ {a':Act} {w':World} {ρ:Val} {j:J},a'.tmps.size=53→DRo ρ j (some ckD) a'.defers→j 1=some ⟨E,0,0,none⟩→j 2=some ⟨C,0,0,none⟩→Dw.Mv (fun b=>b=E∨b=C) w w'→
        Own w' E [.int .i64 0]→Own w' C [.int .u64 (s+X.len)]→
        ([0,2,3,10,11,12].map fun t=>a'.tmps.getD t undef)= [.slice (some ⟨R,o,none⟩) l.length c,.pointer (some ⟨E,0,none⟩),.pointer (some ⟨C,0,none⟩),.slice (some ⟨R,o,none⟩) l.length c,.int .i64 l.length,.int .i64 (k+1)]→
        zaE X.wr (s+X.len) (l.drop (k+1))=zaE false 0 l→k<l.length∧CkI l (some ⟨R,o,none⟩) c E C w0 (k+1) a' w':=fun {a' w' ρ j} q1 q2 q3 q4 q5 q6 q7 q8 q9=>by
      simp only [List.map_cons,List.map_nil,List.cons.injEq,and_true] at q8;obtain ⟨t0,t2,t3,t10,t11,t12⟩:=q8;refine ⟨hkl,⟨by omega,q1,t0,t2,t3,t10,t11,by rw [t12];norm_cast,zf1 q2 q3 q4,mv.trans q5,X.wr,s+X.len,q6,q7,by omega,by push_cast;omega,q9,by omega,fun i hi=> ?_⟩⟩;have:k=i:=by omega
      subst this;exact ⟨hkl,by rw [hX]⟩
    have hden: ∀(n k' s':Int) (x y:Sg) (sl:Value),n=l.length→0≤k'→k'<64→0≤s'→s'<18446744073709551616→x.ok→(lnv 0).den (zbo n k' s' x y sl)=l.length∧(lnv 1).den (zbo n k' s' x y sl)=k'∧(u64v 2).den (zbo n k' s' x y sl)=s'∧(u64v 3).den (zbo n k' s' x y sl)=x.at1∧(u32v 4).den (zbo n k' s' x y sl)=x.len:=fun n k' s' x y sl h1 h2 h3 h4 h5 h6=>by
      subst h1;exact ⟨zfA (by show (0:Int)≤l.length;omega) (by show ((l.length:Nat):Int)<_;omega),zfA h2 (by show k'<_;omega),zcb h4 h5,zcb h6.1 h6.2.1,zjp h6.2.2.1 h6.2.2.2⟩
    have hXok:X.ok:=⟨xa0,xa1,xl0,xl1⟩;have hwl:IntKind.wrap .u64 (X.len-1)=(X.len-1)%18446744073709551616:=zdF _;have hwa:IntKind.wrap .u64 (18446744073709551615-X.at1)=18446744073709551615-X.at1:=zai (by omega) (by omega);have hws:IntKind.wrap .u64 (s+X.len)=s+X.len:=zai (by omega) (by omega);rcases Nat.eq_zero_or_pos k with hk0|hk0
    · subst hk0;have hpw:=hp0 rfl;subst hpw;obtain ⟨d0,d1,d2,d3,d4⟩:=hden l.length 0 s X X (.slice (some ⟨R,o,none⟩) l.length c) rfl (by omega) (by omega) hs0 (by omega) hXok;have hj1:jOf [(E,0),(C,0),(R,o)] 1=some ⟨E,0,0,none⟩:=rfl;have hj2:jOf [(E,0),(C,0),(R,o)] 2=some ⟨C,0,0,none⟩:=rfl;have hj3:jOf [(E,0),(C,0),(R,o)] 3=some ⟨R,o,0,none⟩:=rfl;have hsx:Dw.R (zbo l.length 0 s X X (.slice (some ⟨R,o,none⟩) l.length c)) (jOf [(E,0),(C,0),(R,o)]) (ckL [(.lit 0,3)]) (.slice (some ⟨R,o,none⟩) l.length c):=⟨rfl,_,_,_,rfl,d0.symm,⟨R,o,_,0,rfl,hj3,rfl,rfl,hkl,rfl⟩,trivial⟩;refine wp_mono (zb0 (ρ:=zbo l.length 0 s X X (.slice (some ⟨R,o,none⟩) l.length c)) (K:=fun b=>b=E∨b=C) (g:=Gho.none) (bl:= [(E,0),(C,0),(R,o)]) mixed ztx zv2 hK
        ⟨zfR oE (zao (zax rfl) RL.nil) (.inl rfl),zfR oC (zao (zax d2) RL.nil) (.inr rfl),zdd hx (by unfold Sg.cells;simp) (zao (zax d3) (zao (zax d4) (zao (zf4 rfl) RL.nil))) hKR,trivial⟩
        ⟨fun _ i b' s' h1 h2 h3=>(by match i,h1,h2 with|0,h1,_=>cases h1;exact hne|1,_,h2=>cases h2;cases h3|i+2,h1,_=>cases h1),fun _ i b' s' h1 h2 h3=>(by match i,h1,h2 with|0,_,h2=>cases h2;cases h3|i+1,h1,_=>cases h1),fun h=>(by cases h),trivial⟩
        zaJ trivial trivial trivial size (ck_dfr' hj1 hj2 dfr) ?_ (zau.2 trivial)) fun ex a' w' hh=> ?_
      · intro t ht;simp only [zeh,zfF,List.mem_cons,List.not_mem_nil,or_false] at ht;rcases ht with rfl|rfl|rfl|rfl|rfl|rfl
        · rw [s0];exact hsx
        · rw [s2];exact zjy hj1
        · rw [s3];exact zjy hj2
        · rw [s10];exact hsx
        · rw [s11];exact zax d0
        · rw [s12];exact zax rfl
      · obtain ⟨q,hq,hto,lf,hlf,rfl,hsz,j,hdf,he⟩:=hh;have hj1':=he.sub _ _ hj1;have hj2':=he.sub _ _ hj2;unfold zrw at hq;simp only [List.mem_cons,List.not_mem_nil,or_false] at hq;rcases hq with rfl|rfl|rfl|rfl
        all_goals
          simp only [zah,zau,zhu,zdB,znO,zcO,zat,d0,d1,d2,d3,d4,hwl,hwa,decide_eq_true_eq,decide_eq_false_iff_not,and_true] at hto;cases hlf
        · exact .inl ⟨rfl,by rw [←hsw,if_pos (by omega)],_,hsz,by have:=zbg he.ret;simpa [AV.valL,AV.val,zaI hj1'] using this,zf1 hdf hj1' hj2',mv.trans he.mv,(he.rows.1 _ hj1').2 (.inr (.inl rfl)) rfl,(he.rows.2.1 _ hj2').2 (.inr (.inr rfl)) rfl⟩
        · exact .inl ⟨rfl,by rw [←hsw,if_pos (by omega)],_,hsz,by have:=zbg he.ret;simpa [AV.valL,AV.val,zaI hj1'] using this,zf1 hdf hj1' hj2',mv.trans he.mv,(he.rows.1 _ hj1').2 (.inr (.inl rfl)) rfl,(he.rows.2.1 _ hj2').2 (.inr (.inr rfl)) rfl⟩
        · refine fin hsz hdf hj1' hj2' he.mv ((he.rows.1 _ hj1').2 (.inr (.inl rfl)) rfl) ?_ ?_ ?_
          · have:=(he.rows.2.1 _ hj2').2 (.inr (.inr rfl)) rfl;simpa only [AV.valL,AV.val,den_add,d2,d4,hws] using this
          · have:=zbg he.ret;rw [this];simp only [AV.valL,AV.val,zaI hj1',zaI hj2',d0,zat];rfl
          · rw [←hsw,if_neg (by rintro (h|h|⟨h,_⟩);omega;omega;cases h)]
        · omega
    · obtain ⟨i,rfl⟩: ∃i,k=i+1:=⟨k-1,by omega⟩;obtain ⟨hil,hpw⟩:=hp1 i rfl;have hy:=zcV hrw i hil;have hyo:=hok l[i] (List.getElem_mem hil);generalize hY:l[i]=Y at hy hyo hpw;subst hpw;have hkk:IntKind.wrap .i64 (((i+1:Nat):Int)+1)=((i+1:Nat):Int)+1:=zaS (by omega) (by omega);have hk1:IntKind.wrap .i64 (((i+1:Nat):Int)-1)=(i:Int):=by rw [zaS (by omega) (by omega)];omega
      obtain ⟨d0,d1,d2,d3,d4⟩:=hden l.length (i+1:Nat) s X Y (.slice (some ⟨R,o,none⟩) l.length c) rfl (by omega) (by omega) hs0 (by omega) hXok;have hj1:jOf [(E,0),(C,0),(R,o+3*(i+1)),(R,o+3*i)] 1=some ⟨E,0,0,none⟩:=rfl;have hj2:jOf [(E,0),(C,0),(R,o+3*(i+1)),(R,o+3*i)] 2=some ⟨C,0,0,none⟩:=rfl;have hj3:jOf [(E,0),(C,0),(R,o+3*(i+1)),(R,o+3*i)] 3=some ⟨R,o+3*(i+1),0,none⟩:=rfl;have hj4:jOf [(E,0),(C,0),(R,o+3*(i+1)),(R,o+3*i)] 4=some ⟨R,o+3*i,0,none⟩:=rfl;have hsx:Dw.R (zbo l.length (i+1:Nat) s X Y (.slice (some ⟨R,o,none⟩) l.length c)) (jOf [(E,0),(C,0),(R,o+3*(i+1)),(R,o+3*i)]) (ckL [(lnv 1,3),(.bin .sub .i64 (lnv 1) (.lit 1),4)]) (.slice (some ⟨R,o,none⟩) l.length c):=⟨rfl,_,_,_,rfl,d0.symm,⟨R,o,_,i+1,rfl,hj3,rfl,d1,hkl,rfl⟩,⟨R,o,_,i,rfl,hj4,rfl,by rw [zcO,d1,zat];exact hk1,hil,rfl⟩,trivial⟩;refine wp_mono (zb0 (ρ:=zbo l.length (i+1:Nat) s X Y (.slice (some ⟨R,o,none⟩) l.length c)) (K:=fun b=>b=E∨b=C) (g:=Gho.none) (bl:= [(E,0),(C,0),(R,o+3*(i+1)),(R,o+3*i)]) mixed ztv zv1 hK
        ⟨zfR oE (zao (zax rfl) RL.nil) (.inl rfl),zfR oC (zao (zax d2) RL.nil) (.inr rfl),zdd hx (by unfold Sg.cells;simp) (zao (zax d3) (zao (zax d4) (zao (zf4 rfl) RL.nil))) hKR,zdd hy (by unfold Sg.cells;simp) (zao (zax (zcb hyo.1 hyo.2.1)) (zao (zax (zjp hyo.2.2.1 hyo.2.2.2)) (zao (zf4 rfl) RL.nil))) hKR,trivial⟩
        ⟨fun _ i b' s' h1 h2 h3=>(by match i,h1,h2 with|0,h1,_=>cases h1;exact hne|1,_,h2=>cases h2;cases h3|2,_,h2=>cases h2;cases h3|i+3,h1,_=>cases h1),fun _ i b' s' h1 h2 h3=>(by match i,h1,h2 with|0,_,h2=>cases h2;cases h3|1,_,h2=>cases h2;cases h3|i+2,h1,_=>cases h1),fun h=>(by cases h),fun h=>(by cases h),trivial⟩
        zaJ trivial trivial trivial size (ck_dfr' hj1 hj2 dfr) ?_ (zah.2 ⟨by rw [zdB,d0,d1];simp only [decide_eq_true_eq];omega,zah.2 ⟨by rw [zhu,d1,zat];simp only [decide_eq_true_eq];omega,zau.2 trivial⟩⟩)) fun ex a' w' hh=> ?_
      · intro t ht;simp only [zeg,zfF,List.mem_cons,List.not_mem_nil,or_false] at ht;rcases ht with rfl|rfl|rfl|rfl|rfl|rfl
        · rw [s0];exact hsx
        · rw [s2];exact zjy hj1
        · rw [s3];exact zjy hj2
        · rw [s10];exact hsx
        · rw [s11];exact zax d0
        · rw [s12];exact zax d1
      · obtain ⟨q,hq,hto,lf,hlf,rfl,hsz,j,hdf,he⟩:=hh;have hj1':=he.sub _ _ hj1;have hj2':=he.sub _ _ hj2;unfold zru at hq;simp only [List.mem_cons,List.not_mem_nil,or_false] at hq;rcases hq with rfl|rfl|rfl|rfl|rfl
        all_goals
          simp only [zah,zau,zhu,zdB,znO,zcO,zat,d0,d1,d2,d3,d4,hwl,hwa,decide_eq_true_eq,decide_eq_false_iff_not,and_true] at hto;cases hlf
        · exact .inl ⟨rfl,by rw [←hsw,if_pos (by omega)],_,hsz,by have:=zbg he.ret;simpa [AV.valL,AV.val,zaI hj1'] using this,zf1 hdf hj1' hj2',mv.trans he.mv,(he.rows.1 _ hj1').2 (.inr (.inl rfl)) rfl,(he.rows.2.1 _ hj2').2 (.inr (.inr rfl)) rfl⟩
        · exact .inl ⟨rfl,by rw [←hsw,if_pos (by omega)],_,hsz,by have:=zbg he.ret;simpa [AV.valL,AV.val,zaI hj1'] using this,zf1 hdf hj1' hj2',mv.trans he.mv,(he.rows.1 _ hj1').2 (.inr (.inl rfl)) rfl,(he.rows.2.1 _ hj2').2 (.inr (.inr rfl)) rfl⟩
        · exact .inl ⟨rfl,by rw [←hsw,if_pos (.inr (.inr ⟨hto.2.2.1,hto.2.2.2⟩))],_,hsz,by have:=zbg he.ret;simpa [AV.valL,AV.val,zaI hj1'] using this,zf1 hdf hj1' hj2',mv.trans he.mv,(he.rows.1 _ hj1').2 (.inr (.inl rfl)) rfl,(he.rows.2.1 _ hj2').2 (.inr (.inr rfl)) rfl⟩
        · refine fin hsz hdf hj1' hj2' he.mv ((he.rows.1 _ hj1').2 (.inr (.inl rfl)) rfl) ?_ ?_ ?_
          · have:=(he.rows.2.1 _ hj2').2 (.inr (.inr rfl)) rfl;simpa only [AV.valL,AV.val,den_add,d2,d4,hws] using this
          · have:=zbg he.ret;rw [this];simp only [AV.valL,AV.val,zaI hj1',zaI hj2',d0,d1,den_add,zat,hkk];rfl
          · rw [←hsw,if_neg (by rintro (h|h|⟨h,h'⟩);omega;omega;exact absurd (h'.symm.trans hto.2.2.2) (by decide))]
        · refine fin hsz hdf hj1' hj2' he.mv ((he.rows.1 _ hj1').2 (.inr (.inl rfl)) rfl) ?_ ?_ ?_
          · have:=(he.rows.2.1 _ hj2').2 (.inr (.inr rfl)) rfl;simpa only [AV.valL,AV.val,den_add,d2,d4,hws] using this
          · have:=zbg he.ret;rw [this];simp only [AV.valL,AV.val,zaI hj1',zaI hj2',d0,d1,den_add,zat,hkk];rfl
          · rw [←hsw,if_neg (by rintro (h|h|⟨h,h'⟩);omega;omega;exact absurd (h.symm.trans hto.2.2) (by decide))]
  · have hkk:k=l.length:=by omega
    subst hkk;rw [List.drop_length,zaE] at hsw;have d0:(lnv 0).den (zbo l.length l.length s ⟨0,0,false⟩ ⟨0,0,false⟩ (.slice sa l.length c))=l.length:=zfA (by show (0:Int)≤l.length;omega) (by show ((l.length:Nat):Int)<_;omega);have d1:(lnv 1).den (zbo l.length l.length s ⟨0,0,false⟩ ⟨0,0,false⟩ (.slice sa l.length c))=l.length:=zfA (by show (0:Int)≤l.length;omega) (by show ((l.length:Nat):Int)<_;omega);have d2:(u64v 2).den (zbo l.length l.length s ⟨0,0,false⟩ ⟨0,0,false⟩ (.slice sa l.length c))=s:=zcb hs0 (by show s<_;omega);have hj1:jOf [(E,0),(C,0)] 1=some ⟨E,0,0,none⟩:=rfl;have hj2:jOf [(E,0),(C,0)] 2=some ⟨C,0,0,none⟩:=rfl;have hsx:Dw.R (zbo l.length l.length s ⟨0,0,false⟩ ⟨0,0,false⟩ (.slice sa l.length c)) (jOf [(E,0),(C,0)]) (ckL []) (.slice sa l.length c):=⟨rfl,_,_,_,rfl,d0.symm,trivial⟩;refine wp_mono (zb0 (ρ:=zbo l.length l.length s ⟨0,0,false⟩ ⟨0,0,false⟩ (.slice sa l.length c)) (K:=fun b=>b=E∨b=C) (g:=Gho.none) (bl:= [(E,0),(C,0)]) mixed ztt zv0 hK
      ⟨zfR oE (zao (zax rfl) RL.nil) (.inl rfl),zfR oC (zao (zax d2) RL.nil) (.inr rfl),trivial⟩
      ⟨fun _ i b' s' h1 h2 h3=>(by match i,h1,h2 with|0,h1,_=>cases h1;exact hne|i+1,h1,_=>cases h1),fun _ i b' s' h1 h2 h3=>(by cases h1),trivial⟩
      zaJ trivial trivial trivial size (ck_dfr' hj1 hj2 dfr) ?_ (zah.2 ⟨by rw [zdB,d0,d1];simp,zau.2 trivial⟩)) fun ex a' w' hh=> ?_
    · intro t ht;simp only [zef,zfF,List.mem_cons,List.not_mem_nil,or_false] at ht;rcases ht with rfl|rfl|rfl|rfl|rfl|rfl
      · rw [s0];exact hsx
      · rw [s2];exact zjy hj1
      · rw [s3];exact zjy hj2
      · rw [s10];exact hsx
      · rw [s11];exact zax d0
      · rw [s12];exact zax d1
    · obtain ⟨q,hq,hto,lf,hlf,rfl,hsz,j,hdf,he⟩:=hh;have hj1':=he.sub _ _ hj1;have hj2':=he.sub _ _ hj2;unfold zrs at hq;simp only [List.mem_cons,List.not_mem_nil,or_false] at hq;subst hq;cases hlf;refine .inr ⟨rfl,s,hs0,by omega,hsw.symm,hsz,by have:=zbg he.ret;simpa [AV.valL,AV.val,zaI hj1'] using this,zf1 hdf hj1' hj2',mv.trans he.mv,(he.rows.1 _ hj1').2 (.inr (.inl rfl)) rfl,?_⟩;have:=(he.rows.2.1 _ hj2').2 (.inr (.inr rfl)) rfl;simpa only [AV.valL,AV.val,d2] using this
open Go.Maps Go.Sort
set_option maxRecDepth 100000 in
theorem Tryz.zjG (E C:Nat) (e sum:Int) (u:FrameMode) (w:World) (hE:w.cell? ⟨E,0,none⟩=some (.int .i64 e)) (fE:w.frozen? ⟨E,0,none⟩=false) (hC:w.cell? ⟨C,0,none⟩=some (.int .u64 sum)):
  CallsD prog 137 #[.pointer (some ⟨E,0,none⟩),.pointer (some ⟨C,0,none⟩)] u w fun ed u' w'=>u'=u∧ed= .returned (.tuple #[])∧w'=if e=0∧4294967296≤sum then w.setCell ⟨E,0,none⟩ (.int .i64 2) else w:=by
 refine callsD_of_wp func137 rfl ?_;simp only [ntmps137,List.size_toArray,List.length_cons,List.length_nil,Nat.reduceAdd,Nat.reduceSub,Array.replicate_succ,Array.replicate_zero,List.push_toArray,List.append_toArray,List.nil_append,List.cons_append];by_cases h0:e=0
 ·subst h0;by_cases h1:4294967296≤sum
  ·rw [if_pos ⟨rfl,h1⟩];go_wp2;go_end0;exact ⟨rfl,rfl⟩
  ·rw [if_neg (fun h=>h1 h.2)];go_wp2;go_end0;exact ⟨rfl,rfl⟩
 ·rw [if_neg (fun h=>h0 h.1)];go_wp2;go_end0;exact ⟨rfl,rfl⟩
theorem Tryz.znk {w:World} {b:Nat} {v:Value} (h:Own w b [v]):w.cell? ⟨b,0,none⟩=some v∧w.frozen? ⟨b,0,none⟩=false:=by
 obtain ⟨arr,e,h1,h2⟩:=h;exact ⟨by simp [World.cell?,h1,h2 0 v rfl],by simp [World.frozen?,h1]⟩
theorem Tryz.zqw (w:World) (cs:List Value) (t:TypeId):Own (w.alloc (.cells cs.toArray t)) w.heap.size cs:=⟨cs.toArray,t,by unfold World.alloc;exact Array.getElem?_push_size,fun i y h=>by rw [List.getElem?_toArray];exact h⟩
set_option maxRecDepth 100000 in
theorem Tryz.zdJ {A:Nat→Prop} {w:World} {v:Value} {l:List Sg} (h:SegV A w v l):
  Calls prog 95 #[v] w fun e w'=>e= .returned (.int .i64 (zaO l))∧Below w.heap.size w w':=by
 obtain ⟨sa,c,rfl,hok,hr⟩:=h;unfold zaO;by_cases hlen:64<l.length
 ·rw [if_pos hlen];have hb0:=(Below.refl w.heap.size w).alloc (Nat.le_refl _) (.cells #[.int .i64 3] 32);go_enter_defers func95,ntmps95;go_wp2;have hE:(w.alloc (.cells #[.int .i64 3] 32)).cell? ⟨w.heap.size,0,none⟩=some (.int .i64 3):=by simp
  simp only [bodyPostD,Leaves];refine ⟨.int .i64 3,?_,rfl,hb0⟩;simp [results,results95,go_sem,hE]
 ·rw [if_neg hlen];go_enter_defers func95,ntmps95;go_wp2;have o1:=zqw w [.int .i64 0] 32;have o2:=zqw (w.alloc (.cells #[.int .i64 0] 32)) [.int .u64 0] 29;have hs1:(w.alloc (.cells #[.int .i64 0] 32)).heap.size=w.heap.size+1:=World.size_alloc _ _;rw [hs1] at o2;have o1':Own ((w.alloc (.cells #[.int .i64 0] 32)).alloc (.cells #[.int .u64 0] 29)) w.heap.size [.int .i64 0]:=o1.kept (Below.heap_alloc _ _ _ (by rw [hs1];omega));have hbb:=((Below.refl w.heap.size w).alloc (Nat.le_refl _) (.cells #[.int .i64 0] 32)).alloc (by rw [hs1];omega) (.cells #[.int .u64 0] 29);have hsz:((w.alloc (.cells #[.int .i64 0] 32)).alloc (.cells #[.int .u64 0] 29)).heap.size=w.heap.size+2:=by rw [World.size_alloc,hs1]
  have hr':l= []∨ ∃R o,sa=some ⟨R,o,none⟩∧R≠w.heap.size∧R≠w.heap.size+1∧((w.alloc (.cells #[.int .i64 0] 32)).alloc (.cells #[.int .u64 0] 29)).rangeAt R o (zam l):=by
   rcases hr with h0|⟨R,o,e,_,hr⟩
   ·exact .inl h0
   ·by_cases h0:l= []
    ·exact .inl h0
    ·have hR:=zgK hr h0;exact .inr ⟨R,o,e,by omega,by omega,zae hr (hbb.block R hR)⟩
  generalize (w.alloc (.cells #[.int .i64 0] 32)).alloc (.cells #[.int .u64 0] 29)=W at*;refine zaK (c':= .loop (zbf prog [0,0,1,0,1,1,1,1,95])) (by kernel_rfl) ?_;refine zg7 (fun k a w'=>CkI l sa c w.heap.size (w.heap.size+1) W k a w') (fun k=>l.length-k) (fun k a w' hI=>wp_mono (ztz hI (by omega) hok (by omega) (by omega) (by omega) hr') fun ex a' w2 hh=> ?_) 0 _ _ ?_
  ·have leave: ∀ {e s:Int} {a':Act} {w2:World},CkO w.heap.size (w.heap.size+1) W e s a' w2→zaE false 0 l=(if e=0∧4294967296≤s then 2 else e)→
     bodyPostD prog f95 (fun e w'=>e=Ending.returned (Value.int IntKind.i64 (zaE false 0 l))∧RowKit.Below w.heap.size w w') .ret a' w2:=fun {e s a' w2} ho hV=>by
    obtain ⟨d,hd,args,cap,e1,e2,e3⟩:=ho.dfr;have hm2:RowKit.Below w.heap.size w w2:=⟨ho.mv.os.trans hbb.os,ho.mv.tape.trans hbb.tape,ho.mv.output.trans hbb.output,Nat.le_trans hbb.size ho.mv.size,fun k hk=>(ho.mv.block k (by omega) (by omega)).trans (hbb.block k hk)⟩;obtain ⟨cE,fE⟩:=znk ho.oE;obtain ⟨cC,fC⟩:=znk ho.oC;simp only [bodyPostD,hd,Leaves];have e3:args++cap= #[.pointer (some ⟨w.heap.size,0,none⟩),.pointer (some ⟨w.heap.size+1,0,none⟩)]:=by rw [←Array.toList_inj];exact e3
    refine ⟨by simp,.func 137,cap,137,#[.pointer (some ⟨w.heap.size,0,none⟩),.pointer (some ⟨w.heap.size+1,0,none⟩)],e1,by rw [e1,e2,←e3];simp [go_sem],?_⟩;refine (zjG w.heap.size (w.heap.size+1) e s .returning w2 cE fE cC).mono ?_;rintro ed u' w9 ⟨rfl,rfl,rfl⟩;simp only [Leaves,settle];have hp:a'.tmps.getD 2 undef= .pointer (some ⟨w.heap.size,0,none⟩):=ho.s2;by_cases h0:e=0∧4294967296≤s
    ·rw [if_pos h0] at hV ⊢;have dE2:(w2.setCell ⟨w.heap.size,0,none⟩ (.int .i64 2)).cell? ⟨w.heap.size,0,none⟩=some (.int .i64 2):=World.cell?_setCell_same' _ _ _ (by rw [cE];rfl);refine ⟨.int .i64 2,?_,by rw [hV],hm2.setCell (p:=⟨w.heap.size,0,none⟩) (Nat.le_refl _) _⟩;have hp':a'.tmps[2]?.getD undef= .pointer (some ⟨w.heap.size,0,none⟩):=by simpa using hp
     simp [results,results95,go_sem,hp',dE2]
    ·rw [if_neg h0] at hV ⊢;refine ⟨.int .i64 e,?_,by rw [hV],hm2⟩;have hp':a'.tmps[2]?.getD undef= .pointer (some ⟨w.heap.size,0,none⟩):=by simpa using hp
     simp [results,results95,go_sem,hp',cE]
   cases ex with
   | normal=>exact ⟨k+1,by omega,hh.2⟩
   | ret=>
    rcases hh with ⟨_,hV,s,ho⟩|⟨h,_⟩
    ·exact leave ho (by rw [hV];simp)
    ·cases h
   | exit i=>
    rcases hh with ⟨h,_⟩|⟨h,s,hq0,hq1,hV,ho⟩
    ·cases h
    ·cases h;simp only [Exit.inBlock,Exit.then,if_pos];rename_i K hK;refine hK _ _ (zaK (c':=zbf prog [1,1,1,1,1,95]) (by kernel_rfl) ?_);have hj1:jOf [(w.heap.size,0),(w.heap.size+1,0)] 1=some ⟨w.heap.size,0,0,none⟩:=rfl;have hj2:jOf [(w.heap.size,0),(w.heap.size+1,0)] 2=some ⟨w.heap.size+1,0,0,none⟩:=rfl;have d2:(u64v 2).den (zbo 0 0 s ⟨0,0,false⟩ ⟨0,0,false⟩ undef)=s:=zcb hq0 hq1;refine wp_mono (zb0 (ρ:=zbo 0 0 s ⟨0,0,false⟩ ⟨0,0,false⟩ undef) (K:=fun b=>b=w.heap.size∨b=w.heap.size+1) (g:=Gho.none) (bl:= [(w.heap.size,0),(w.heap.size+1,0)]) mixed zvY zw7 (fun b hb=>by rcases hb with rfl|rfl;exact zkj ho.oE;exact zkj ho.oC)
      ⟨zfR ho.oE (zao (zax rfl) RL.nil) (.inl rfl),zfR ho.oC (zao (zax d2) RL.nil) (.inr rfl),trivial⟩
      ⟨fun _ i b' s' h1 h2 h3=>(by match i,h1,h2 with|0,h1,_=>cases h1;show w.heap.size≠w.heap.size+1;omega|i+1,h1,_=>cases h1),fun _ i b' s' h1 h2 h3=>(by cases h1),trivial⟩
      zaJ trivial trivial trivial ho.size (ck_dfr' hj1 hj2 ho.dfr) ?_ (zau.2 trivial)) fun ex a3 w3 hh=> ?_
     ·intro t ht;simp only [zfb,List.mem_cons,List.not_mem_nil,or_false] at ht;subst ht;rw [ho.s2];exact zjy hj1
     ·obtain ⟨q,hq,hto,lf,hlf,rfl,hsz3,j,hdf,he⟩:=hh;have hj1':=he.sub _ _ hj1;have hj2':=he.sub _ _ hj2;unfold zub at hq;simp only [List.mem_cons,List.not_mem_nil,or_false] at hq;subst hq;cases hlf;have oC:=(he.rows.2.1 _ hj2').2 (.inr (.inr rfl)) rfl;simp only [AV.valL,AV.val,d2] at oC;refine leave (e:=0) ⟨hsz3,by have:=zbg he.ret;simpa [AV.valL,AV.val,zaI hj1'] using this,zf1 hdf hj1' hj2',ho.mv.trans he.mv,(he.rows.1 _ hj1').2 (.inr (.inl rfl)) rfl,oC⟩ (by rw [hV];simp)
   | _=>rcases hh with ⟨h,_⟩|⟨h,_⟩<;>cases h
  ·exact ⟨Nat.zero_le _,rfl,rfl,rfl,rfl,rfl,rfl,rfl,⟨_,rfl,_,_,rfl,rfl,rfl⟩,Dw.Mv.refl _ _,false,0,o1',o2,Int.le_refl _,by simp,rfl,fun _=>rfl,fun i hi=>by omega⟩
open Go.Deep
theorem Tryz.zmu (k:Nat) (h:k<4611686018427387904):IntKind.wrap .i64 ((k:Int)+1)=((k+1:Nat):Int):=by rw [zaS (by omega) (by omega)];omega
theorem Tryz.zos {l:List Sg} (h:zaO l=0):l.length≤64:=by
 unfold zaO at h;split at h
 ·omega
 ·omega
structure Tryz.EqT (a b:Int):Prop where
 eq:a=b
def Tryz.zgJ (N:Nat):List Sg→Bool
 | [] => true
 | x::r=>decide (1≤x.len∧x.at1+x.len≤N)&&zgJ N r
def Tryz.zbs (N:Nat) (l:List Sg):Int:=if zaO l=0 then (if zgJ N l=true then 0 else 5) else zaO l
theorem Tryz.zcU {N:Nat}: ∀ {l:List Sg},zgJ N l=true↔ ∀x∈l,1≤x.len∧x.at1+x.len≤N
 | [] => by simp [zgJ]
 | y::r=>by
  unfold zgJ;rw [Bool.and_eq_true,decide_eq_true_iff,zcU (l:=r)];constructor
  ·rintro ⟨h1,h2⟩ x hx;rcases List.mem_cons.1 hx with rfl|hx
   ·exact h1
   ·exact h2 x hx
  ·intro h;exact ⟨h y (by simp),fun x hx=>h x (by simp [hx])⟩
set_option maxRecDepth 100000 in
theorem Tryz.ztV {A:Nat→Prop} {w:World} {P L Bs B N:Nat} {g:Nat→Int} {sa:Option Addr} {c:Nat} {l:List Sg} (hm:GM w P L Bs B N g) (hN:N≤1048576) (h1:1≤N) (h:SegV A w (.slice sa l.length c) l) (hln:l.length<4611686018427387904):
    Calls prog 60 #[.pointer (some ⟨P,0,none⟩),.slice sa l.length c] w fun e w'=>e= .returned (.int .i64 (zbs N l))∧Below w.heap.size w w':=by
  have hck:=zdJ h;have hrd:=zgP P L Bs B N 0 g w hm;obtain ⟨sa',c',e',hok,hr⟩:=h;cases e';unfold zbs;by_cases he:zaO l=0
  · rw [if_pos he];rw [he] at hck;have hl:=zos he;obtain ⟨z,hz⟩: ∃z,EqT z (if zgJ N l=true then 0 else 5):=⟨_,⟨rfl⟩⟩;rw [←hz.eq];go_enter func60,ntmps60;go_wp2_with (first
      | (go_at_call 49;refine hrd.mono ?_;rintro en w2 ⟨rfl,hw2⟩;have hw2:=hw2.symm;subst hw2)
      | (go_at_call 95;refine hck.mono ?_;rintro en w3 ⟨rfl,hb3⟩)
      | go_in)
    go_loopw [9,25] (fun z i wr=>Below w.heap.size w wr∧ ∃k:Nat,k≤l.length∧i= .int .i64 k∧ ∀(j:Nat) (hj:j<l.length),j<k→1≤l[j].len∧l[j].at1+l[j].len≤N) (fun _ i _=>l.length-(RowKit.intOf i).toNat)
    case atStart=>exact ⟨hb3,0,Nat.zero_le _,rfl,fun j _ hj=>absurd hj (by omega)⟩
    case round=>
      obtain ⟨hb2,k,hk,rfl,hall⟩:=hrel;by_cases hkl:k<l.length
      · have hkl':(k:Int)<l.length:=by omega
        rcases hr with hr|⟨R,o,rfl,hRA,hr⟩
        · subst hr;simp at hkl
        obtain ⟨d0,d1,d2⟩:=zdK l k hkl;have g0:=hr _ _ d0;have g1:=hr _ _ d1;have g2:=hr _ _ d2;have hRl:R<w.heap.size:=World.block_lt_of_cell? w _ g1;replace g0:=(hb2.cell (p:=⟨R,o+3*k,none⟩) hRl).trans g0;replace g1:=(hb2.cell (p:=⟨R,o+(3*k+1),none⟩) hRl).trans g1;replace g2:=(hb2.cell (p:=⟨R,o+(3*k+2),none⟩) hRl).trans g2;rw [Nat.mul_comm 3 k] at g0;rw [show o+(3*k+1)=o+k*3+1 by omega] at g1;rw [show o+(3*k+2)=o+k*3+2 by omega] at g2;obtain ⟨q1,q2,q3,q4⟩:=hok l[k] (List.getElem_mem hkl);have u0:IntKind.wrap .u64 l[k].len=l[k].len:=zai q3 (by omega);have hhas:=fun w4 (h4:Below w.heap.size w w4)=>zl4 P L Bs B N l[k].at1 l[k].len g w4 (hm.below h4) hN h1 q1 q2 q3;have hin2:zgJ N l=true→1≤l[k].len∧l[k].at1+l[k].len≤N:=fun h=>zcU.1 h l[k] (List.getElem_mem hkl);clear hr d0 d1 d2 hck hrd;generalize hat:l[k].at1=a1 at*;generalize hln:l[k].len=n1 at*;have hA:=fun o:Obj=>hb2.alloc hb2.size o;by_cases hin:1≤n1∧a1+n1≤N
        · rw [decide_eq_true hin] at hhas;go_wp2_with (first
            | (go_at_call 51;refine (hhas _ (hA _)).mono ?_;rintro en w5 ⟨rfl,hb5⟩)
            | go_in)
          refine ⟨⟨(hA _).trans (hb5.mono (hA _).size),k+1,by omega,by push_cast;rfl,fun j hj hlt=> ?_⟩,by simp only [RowKit.intOf];omega⟩;by_cases hjk:j=k
          · subst hjk;rw [hat,hln];exact hin
          · exact hall j hj (by omega)
        · rw [decide_eq_false hin] at hhas;go_wp2_with (first
            | (go_at_call 51;refine (hhas _ (hA _)).mono ?_;rintro en w5 ⟨rfl,hb5⟩)
            | go_in)
          go_ret;exact ⟨by rw [hz.eq,if_neg fun h=>hin (hin2 h)];rfl,(hA _).trans (hb5.mono (hA _).size)⟩
      · have hkl': ¬(k:Int)<l.length:=by omega
        go_wp2;go_ret;exact ⟨by
          rw [hz.eq,if_pos (zcU.2 fun x hx=>by
            obtain ⟨j,hj,rfl⟩:=List.getElem_of_mem hx;exact hall j hj (by omega))]
          rfl,hb2⟩
  · rw [if_neg he];have he2:(zaO l==0)=false:=by simpa using he
    go_enter func60,ntmps60;go_wp2_with (first
      | (go_at_call 49;refine hrd.mono ?_;rintro en w2 ⟨rfl,hw2⟩;have hw2:=hw2.symm;subst hw2)
      | (go_at_call 95;refine hck.mono ?_;rintro en w3 ⟨rfl,hb3⟩)
      | go_in)
    all_goals
      go_ret;exact ⟨rfl,hb3⟩
end Go.Proofs
namespace Go.Proofs
open Go.Dw Go.RowKit
theorem Tryz.zeH (g:Nat→Int) (hg: ∀j,0≤g j∧g j<256) (a k:Nat):0≤zaf g a k∧zaf g a k<256^k:=zav g hg a k
def Tryz.descVal (g:Nat→Int) (a:Nat):Value:= .agg #[.int .u64 (zaf g a 8),.int .u32 (zaf g (a+8) 4),.int .u16 (zaf g (a+12) 2),.int .u16 (zaf g (a+14) 2)]
end Go.Proofs
namespace Go.Proofs
open Go.RowKit
structure Tryz.Cl (w:World) (b:Nat) (l:List Value):Prop where
 lt:b<w.heap.size
 cell: ∀(i:Nat) (v:Value),l[i]? =some v→w.cell? ⟨b,i,none⟩=some v
 free: ∀i,w.frozen? ⟨b,i,none⟩=false
theorem Tryz.Cl.below {w w':World} {b B:Nat} {l:List Value} (h:Cl w b l) (hb:Below B w w') (hB:b<B):Cl w' b l:=
 ⟨Nat.lt_of_lt_of_le h.lt hb.size,fun i v hv=>(hb.cell (p:=⟨b,i,none⟩) hB).trans (h.cell i v hv),fun i=>(hb.frozen (p:=⟨b,i,none⟩) hB).trans (h.free i)⟩
theorem Tryz.Cl.at {w:World} {b:Nat} {arr:Array Value} {t:TypeId} (h:w.heap[b]? =some (.cells arr t (0,0))):Cl w b arr.toList:=
 ⟨(Array.getElem?_eq_some_iff.1 h).1,fun i v hv=>by rw [cell_of_row _ _ i _ _ (0,0) h,←Array.getElem?_toList];exact hv,fun i=>by simp [World.frozen?,h]⟩
theorem Tryz.Cl.new (w:World) (arr:Array Value) (t:TypeId):Cl (w.alloc (.cells arr t)) w.heap.size arr.toList:=Cl.at (heap_alloc_last w _)
theorem Tryz.Cl.new2 {w:World} {b:Nat} {arr:Array Value} {t:TypeId} (h:w.heap.size=b):Cl (w.alloc (.cells arr t)) b arr.toList:=h▸Cl.new w arr t
theorem Tryz.Cl.alloc {w:World} {b:Nat} {l:List Value} (h:Cl w b l) (o:Obj):Cl (w.alloc o) b l:=h.below ((Below.refl _ w).alloc (Nat.le_refl _) o) h.lt
theorem Tryz.Cl.set {w:World} {b:Nat} {l:List Value} (h:Cl w b l) (j:Nat) (v:Value) (hj:j<l.length):Cl (w.setCell ⟨b,j,none⟩ v) b (l.set j v):=by
 refine ⟨by have:=h.lt;simpa using this,fun i u hu=> ?_,fun i=>by rw [World.frozen?_setCell];exact h.free i⟩;by_cases hij:i=j
 ·subst hij;rw [List.getElem?_set_self hj] at hu;cases hu;exact World.cell?_setCell_same' _ _ _ (by rw [h.cell i _ (List.getElem?_eq_getElem hj)];rfl)
 ·rw [List.getElem?_set_ne (fun e=>hij e.symm)] at hu;rw [World.cell?_setCell_other w ⟨b,j,none⟩ ⟨b,i,none⟩ v (fun e=>hij (congrArg Addr.off e).symm)];exact h.cell i u hu
open Go.Dw Go.Maps Go.Sort Go.Deep
def Tryz.entN (N:Nat) (at1 n:Int):Int×Int:=if n=0∨ ¬n%16=0∨64<n/16 then (0,4) else if at1+n≤N then (n/16,0) else (0,5)
def Tryz.zg8 (N:Nat) (l:List Sg):Int:=if l= []∨ ¬zaO l=0 then 4 else zbs N l
end Go.Proofs
namespace Go.Proofs
open Go.Dw Go.RowKit
structure Tryz.WS where
 segs:List Sg
 n:Int
 e:Int
def Tryz.zhJ (g:Nat→Int) (a:Nat):Sg:=⟨zaf g a 8,zaf g (a+8) 4,zaf g (a+12) 2/2%2*2 !=0⟩
def Tryz.za0 (N:Nat) (g:Nat→Int) (tab:Int→Int→Int→WS→WS):Nat→Int→Int→Int→List Int→WS→WS
 | 0,_,_,_,_,s=>s
 | f+1,at0,size,k,seen,s=>
  if k∈seen∨size≤k then { s with e:=4 }
  else if¬(at0+16*k)%18446744073709551616+16≤N then { s with e:=5 }
  else if zaf g (((at0+16*k)%18446744073709551616).toNat+12) 2/4%2=1 then
   tab (zaf g ((at0+16*k)%18446744073709551616).toNat 8) (zaf g (((at0+16*k)%18446744073709551616).toNat+8) 4) (zaf g (((at0+16*k)%18446744073709551616).toNat+12) 2) { s with n:=s.n+1 }
  else if zaf g (((at0+16*k)%18446744073709551616).toNat+12) 2%2=0 then ⟨s.segs++ [zhJ g ((at0+16*k)%18446744073709551616).toNat],s.n+1,s.e⟩
  else za0 N g tab f at0 size (zaf g (((at0+16*k)%18446744073709551616).toNat+14) 2) (k::seen) ⟨s.segs++ [zhJ g ((at0+16*k)%18446744073709551616).toNat],s.n+1,s.e⟩
def Tryz.zfg:Int→Int→Int→WS→WS:=fun _ _ _ s=> { s with e:=4 }
def Tryz.zeJ (N:Nat) (g:Nat→Int) (table:Bool):Int→Int→Int→WS→WS:=fun A Ln F s=>
 if table=false∨ ¬F%2=0 then { s with e:=4 }
 else if (entN N A Ln).2=0 then za0 N g zfg ((entN N A Ln).1.toNat+1) A (entN N A Ln).1 0 [] { s with e:=0 }
 else { s with e:=(entN N A Ln).2 }
theorem Tryz.zs9 {g:Nat→Int} (hg: ∀j,0≤g j∧g j<256) (a:Nat):(zhJ g a).ok:=
 ⟨(zeH g hg a 8).1,(zeH g hg a 8).2,(zeH g hg (a+8) 4).1,(zeH g hg (a+8) 4).2⟩
def Tryz.OwnSeg (w:World) (b2:Nat) (v:Value) (l:List Sg):Prop:=w.ownsRow b2 136 3 v l.length (zam l)
theorem Tryz.OwnSeg.kept {w w':World} {b2:Nat} {v:Value} {l:List Sg} (h:OwnSeg w b2 v l) (hb: ∀b,v.ownBlock=some b→w'.heap[b]? =w.heap[b]?):OwnSeg w' b2 v l:=by
 obtain ⟨h1,h2⟩:=h;refine ⟨h1,?_⟩;rcases h2 with h2|⟨G,cap,cur,e,h3,h4,h5⟩
 ·exact .inl h2
 ·exact .inr ⟨G,cap,cur,e,h3,by rw [hb G (by rw [e];rfl)];exact h4,h5⟩
theorem Tryz.OwnSeg.lt {w:World} {b2:Nat} {v:Value} {l:List Sg} (h:OwnSeg w b2 v l): ∀b,v.ownBlock=some b→b2≤b∧b<w.heap.size∧ ∃cur e fr,w.heap[b]? =some (.cells cur e fr):=fun b hb=>by
 obtain ⟨h1,h2⟩:=h;rcases h2 with ⟨rfl,_⟩|⟨G,cap,cur,rfl,h3,h4,h5⟩
 ·cases hb
 ·cases hb;exact ⟨h3,(Array.getElem?_eq_some_iff.1 h4).1,_,_,_,h4⟩
theorem Tryz.OwnSeg.segV {w:World} {b2:Nat} {v:Value} {l:List Sg} (h:OwnSeg w b2 v l) (hok: ∀x∈l,x.ok) {A:Nat→Prop} (hA: ∀b,b2≤b→ ¬A b):SegV A w v l:=by
 obtain ⟨h1,h2⟩:=h;rcases h2 with ⟨rfl,h2⟩|⟨G,cap,cur,rfl,h3,h4,h5,h6,h7,h8⟩
 ·have:l= []:=List.length_eq_zero_iff.1 h2;subst this;exact SegV.none
 ·refine ⟨_,cap,rfl,hok,.inr ⟨G,0,rfl,hA G h3,fun i y hy=> ?_⟩⟩;have hlt:i<(zam l).length:=(List.getElem?_eq_some_iff.1 hy).1;rw [←h8] at hy;have hi:i<l.length*3:=by rw [zbH] at hlt;omega
  rw [List.getElem?_take_of_lt hi] at hy;simp only [World.cell?,h4,Nat.zero_add];simpa using hy
structure Tryz.V6 where
 E:Nat
 Mb:Nat
 Nn:Nat
 Tb:Nat
 Fb:Nat
 Lc:Nat
section
variable {ρ:Val} {P L Bs B N:Nat} {at0 size k e n A Ln F Nx cnt x rerr e3 n3:Int} {inner table:Bool} {v:Value} {g:Nat→Int} {b2 W0:Nat} {l l3:List Tryz.Sg} {a:Nat} {w0:World} {K:Nat→Prop}
theorem Tryz.zl1:(prog.info? 136).map (fun i=>(i.zero,i.size,i.bytes))=some (some (.agg #[.int .u64 0,.int .u32 0,.bool false]),3,16):=by kernel_rfl
end
end Go.Proofs
namespace Go.Proofs
open Go.Dw Go.RowKit
section
variable {w:World} {a:Act} {P L Bs B N:Nat} {g:Nat→Int} {b2:Nat} {x:Tryz.V6} {table:Bool} {v:Value} {s:Tryz.WS} {M:Nat} {at0 size k:Int} {inner:Bool} {seen:List Int} {ρ:Val} {A Ln F Nx cnt xx rerr e3 n3:Int} {l3:List Tryz.Sg} {aa:Nat}
end
end Go.Proofs
namespace Go.Proofs
open Go.Dw Go.RowKit
section
variable {w:World} {a:Act} {P L Bs B N:Nat} {g:Nat→Int} {b2:Nat} {x:Tryz.V6} {table:Bool} {v:Value} {s:Tryz.WS} {M:Nat} {at0 size k:Int} {inner:Bool} {seen:List Int} {f:Nat} {tab:Int→Int→Int→Tryz.WS→Tryz.WS}
def Tryz.WS.good (s:WS):Prop:=(∀y∈s.segs,y.ok)∧0≤s.n
theorem Tryz.zhx {N:Nat} {g:Nat→Int} (hg: ∀j,0≤g j∧g j<256) {tab:Int→Int→Int→WS→WS} (ht: ∀A Ln F s,WS.good s→WS.good (tab A Ln F s)): ∀ {f:Nat} {at0 size k:Int} {seen:List Int} {s:WS},WS.good s→WS.good (za0 N g tab f at0 size k seen s)
 | 0,_,_,_,_,s,h=>h
 | f+1,at0,size,k,seen,s,h=>by
  have hs2:WS.good ⟨s.segs++ [zhJ g ((at0+16*k)%18446744073709551616).toNat],s.n+1,s.e⟩:=⟨fun y hy=>by
   rcases List.mem_append.1 hy with hy|hy
   ·exact h.1 y hy
   ·rw [List.mem_singleton] at hy;subst hy;exact zs9 hg _,by have:=h.2;show 0≤s.n+1;omega⟩
  rw [za0];split
  ·exact h
  ·split
   ·exact h
   ·split
    ·exact ht _ _ _ _ ⟨h.1,by have:=h.2;show 0≤s.n+1;omega⟩
    ·split
     ·exact hs2
     ·exact zhx hg ht hs2
end
end Go.Proofs
namespace Go.Proofs
open Go.Dw Go.RowKit Go.Maps Go.Sort
theorem Tryz.zi2: ∀(n:Nat) (l:List Nat),l.Nodup→(∀y∈l,y<n)→l.length≤n
 | 0,l,_,h=>by
  cases l with
  | nil=>simp
  | cons y r=>have:=h y (by simp);omega
 | n+1,l,hd,h=>by
  by_cases hn:n∈l
  ·have h1:=zi2 n (l.erase n) (hd.erase n) fun y hy=>by
    have hy':=(List.Nodup.mem_erase_iff hd).1 hy;have:=h y hy'.2;have:=hy'.1;omega
   rw [List.length_erase_of_mem hn] at h1;omega
  ·have h1:=zi2 n l hd fun y hy=>by
    have:=h y hy;have:y≠n:=fun e=>hn (e▸hy);omega
   omega
theorem Tryz.zsi {seen:List Int} {size:Int} (hd:seen.Nodup) (h: ∀y∈seen,0≤y∧y<size):seen.length≤size.toNat:=by
 have h1:=zi2 size.toNat (seen.map Int.toNat) ?_ fun y hy=>by
  obtain ⟨z,hz,rfl⟩:=List.mem_map.1 hy;have:=h z hz;omega
 ·simpa using h1
 ·unfold List.Nodup at hd ⊢;rw [List.pairwise_map];refine hd.imp_of_mem fun {a b} ha hb hab e=>hab ?_;have:=h a ha;have:=h b hb;omega
end Go.Proofs
namespace Go.Proofs
open Go.Dw Go.RowKit
theorem Tryz.znI {N:Nat} {A n:Int} (hn:0≤n):0≤(entN N A n).1∧(entN N A n).1≤64:=by
 unfold entN;split
 ·decide
 ·split
  ·show 0≤n/16∧n/16≤64;omega
  ·decide
theorem Tryz.zfH {N:Nat} {g:Nat→Int} {tab:Int→Int→Int→WS→WS} {c:Nat} (ht: ∀A Ln F s,0≤Ln→(tab A Ln F s).segs.length≤s.segs.length+c) (hg: ∀j,0≤g j∧g j<256): ∀ {f:Nat} {at0 size k:Int} {seen:List Int} {s:WS},(za0 N g tab f at0 size k seen s).segs.length≤s.segs.length+f+c
 | 0,_,_,_,_,s=>by rw [za0];omega
 | f+1,at0,size,k,seen,s=>by
  rw [za0];split
  ·show s.segs.length≤_;omega
  ·split
   ·show s.segs.length≤_;omega
   ·split
    ·refine Nat.le_trans (ht _ _ _ _ (zeH g hg _ 4).1) ?_;show s.segs.length+c≤_;omega
    ·split
     ·show (s.segs++ [_]).length≤_;simp;omega
     ·refine Nat.le_trans (zfH ht hg) ?_;show (s.segs++ [_]).length+f+c≤_;simp;omega
theorem Tryz.zof {N:Nat} {g:Nat→Int} {table:Bool} (hg: ∀j,0≤g j∧g j<256) (A Ln F:Int) (s:WS) (hL:0≤Ln):(zeJ N g table A Ln F s).segs.length≤s.segs.length+65:=by
 unfold zeJ;have:=znI (N:=N) (A:=A) hL;split
 ·show s.segs.length≤_;omega
 ·split
  ·refine Nat.le_trans (zfH (tab:=zfg) (c:=0) (fun _ _ _ _ _=>Nat.le_refl _) hg) ?_;show s.segs.length+_+0≤_;omega
  ·show s.segs.length≤_;omega
theorem Tryz.zll {N:Nat} {g:Nat→Int} {table:Bool} (hg: ∀j,0≤g j∧g j<256) (A Ln F:Int) (s:WS) (h:WS.good s):WS.good (zeJ N g table A Ln F s):=by
 unfold zeJ;split
 ·exact h
 ·split
  ·exact zhx (tab:=zfg) hg (fun _ _ _ _ h=>h) h
  ·exact h
def Tryz.zbi (N:Nat) (g:Nat→Int) (r:Rg) (head:Int) (table:Bool):WS:=za0 N g (zeJ N g table) (r.n.toNat+1) r.d r.n head [] ⟨[],0,0⟩
theorem Tryz.zol {N:Nat} {g:Nat→Int} {r:Rg} {head:Int} {table:Bool} (hg: ∀j,0≤g j∧g j<256) (hr:RgOk r):(zbi N g r head table).segs.length≤40000:=by
 have:=hr.bnd;refine Nat.le_trans (zfH (zof hg) hg) ?_;show ([]:List Sg).length+_+65≤_;simp;omega
theorem Tryz.zlq {N:Nat} {g:Nat→Int} {r:Rg} {head:Int} {table:Bool} (hg: ∀j,0≤g j∧g j<256):WS.good (zbi N g r head table):=
 zhx hg (zll hg) ⟨fun y hy=>(by cases hy),Int.le_refl _⟩
def Tryz.zda (N:Nat) (g:Nat→Int) (r:Rg) (head:Int) (table:Bool):List Sg×Int:=
 if (zbi N g r head table).e=0 then (if zg8 N (zbi N g r head table).segs=0 then ((zbi N g r head table).segs,0) else ([],zg8 N (zbi N g r head table).segs)) else ([],(zbi N g r head table).e)
theorem Tryz.OwnSeg.nil (w:World) (b2:Nat):OwnSeg w b2 (.slice none 0 0) []:=⟨rfl,.inl ⟨rfl,rfl⟩⟩
theorem Tryz.OwnSeg.mono {w:World} {b1 b2:Nat} {v:Value} {l:List Sg} (h:OwnSeg w b2 v l) (hb:b1≤b2):OwnSeg w b1 v l:=by
 obtain ⟨h1,h2⟩:=h;refine ⟨h1,?_⟩;rcases h2 with h2|⟨G,cap,cur,e,h3,h4⟩
 ·exact .inl h2
 ·exact .inr ⟨G,cap,cur,e,Nat.le_trans hb h3,h4⟩
theorem Tryz.OwnSeg.slice {w:World} {b2:Nat} {v:Value} {l:List Sg} (h:OwnSeg w b2 v l): ∃sa c,v= .slice sa l.length c∧ ∀R o,sa=some ⟨R,o,none⟩→v.ownBlock=some R:=by
 obtain ⟨h1,h2⟩:=h;rcases h2 with ⟨rfl,h2⟩|⟨G,cap,cur,rfl,_⟩
 ·exact ⟨none,0,by rw [h2],fun R o h=>by cases h⟩
 ·exact ⟨_,cap,rfl,fun R o h=>by cases h;rfl⟩
open Go.Maps Go.Sort
section
variable {A:Nat→Prop} {w:World} {S P M:Nat} {r:Tryz.Rg} {s:Tryz.SS}
end
end Go.Proofs
namespace Go.Proofs
open Go.Dw Go.RowKit
section
variable {A:Nat→Prop} {w:World} {S P L Bs B M N:Nat} {r:Tryz.Rg} {s:Tryz.SS} {g:Nat→Int}
end
end Go.Proofs
namespace Go.Dw
abbrev KE:=SE×Nat×Nat
section
variable {P:Program} {ρ:Val} {w0:Cx} {j:J} {H:Heap} {w w':World}
end
end Go.Dw
namespace Go.Proofs
open Go.Shelf Go.RowKit Go.Maps Go.Sort
def Tryz.zpL:Go.Shelf.Ren:=⟨fun|5=>84|8=>125|7=>124|19=>168|20=>169|10=>159|11=>160|12=>161|13=>162|14=>163|15=>164|16=>165|17=>166|18=>167|30=>177|31=>178|32=>179|33=>180|34=>181|35=>182|40=>185|n=>n,fun|23=>75|25=>3|3=>3|32=>27|22=>75|0=>0|44=>52|46=>29|4=>4|36=>223|35=>222|41=>228|5=>5|9=>9|53=>243|57=>247|63=>250|64=>145|n=>n,fun|n=>n⟩
theorem Tryz.zwC:Go.Proofs.SlLaysM.n5 prog zpL:= {
 mixed:=by kernel_rfl
 f5:=⟨f84.name,by decide,func84.trans (congrArg some (by kernel_rfl))⟩
 f7:=⟨f124.name,by decide,func124.trans (congrArg some (by kernel_rfl))⟩
 f8:=func125.trans (congrArg some (by kernel_rfl))
 f10:=⟨f159.name,by decide,func159.trans (congrArg some (by kernel_rfl))⟩
 f11:=⟨f160.name,by decide,func160.trans (congrArg some (by kernel_rfl))⟩
 f12:=⟨f161.name,by decide,func161.trans (congrArg some (by kernel_rfl))⟩
 f13:=⟨f162.name,by decide,func162.trans (congrArg some (by kernel_rfl))⟩
 f14:=⟨f163.name,by decide,func163.trans (congrArg some (by kernel_rfl))⟩
 f15:=⟨f164.name,by decide,func164.trans (congrArg some (by kernel_rfl))⟩
 f16:=⟨f165.name,by decide,func165.trans (congrArg some (by kernel_rfl))⟩
 f17:=⟨f166.name,by decide,func166.trans (congrArg some (by kernel_rfl))⟩
 f18:=⟨f167.name,by decide,func167.trans (congrArg some (by kernel_rfl))⟩
 f19:=func168.trans (congrArg some (by kernel_rfl))
 f20:=func169.trans (congrArg some (by kernel_rfl))
 f30:=⟨f177.name,by decide,func177.trans (congrArg some (by kernel_rfl))⟩
 f31:=func178.trans (congrArg some (by kernel_rfl))
 f32:=func179.trans (congrArg some (by kernel_rfl))
 f33:=⟨f180.name,by decide,func180.trans (congrArg some (by kernel_rfl))⟩
 f34:=⟨f181.name,by decide,func181.trans (congrArg some (by kernel_rfl))⟩
 f35:=⟨f182.name,by decide,func182.trans (congrArg some (by kernel_rfl))⟩
 f40:=⟨f185.name,by decide,func185.trans (congrArg some (by kernel_rfl))⟩
 t0:=underlying0
 a0:=isAgg0
 z0:=sizeOf0
 v0:=zeroValue0
 t3:=underlying3
 a3:=isAgg3
 z3:=sizeOf3
 v3:=zeroValue3
 t4:=underlying4
 a4:=isAgg4
 z4:=sizeOf4
 v4:=zeroValue4
 t5:=underlying5
 a5:=isAgg5
 z5:=sizeOf5
 v5:=zeroValue5
 t9:=underlying9
 a9:=isAgg9
 z9:=sizeOf9
 v9:=zeroValue9
 t22:=underlying75
 a22:=isAgg75
 z22:=sizeOf75
 v22:=zeroValue75
 t23:=underlying75
 a23:=isAgg75
 z23:=sizeOf75
 v23:=zeroValue75
 t25:=underlying3
 a25:=isAgg3
 z25:=sizeOf3
 v25:=zeroValue3
 t32:=underlying27
 a32:=isAgg27
 z32:=sizeOf27
 v32:=zeroValue27
 t35:=underlying222
 a35:=isAgg222
 z35:=sizeOf222
 v35:=zeroValue222
 t36:=underlying223
 a36:=isAgg223
 z36:=sizeOf223
 v36:=zeroValue223
 t41:=underlying228
 a41:=isAgg228
 z41:=sizeOf228
 v41:=zeroValue228
 t44:=underlying52
 a44:=isAgg52
 z44:=sizeOf52
 v44:=zeroValue52
 t46:=underlying29
 a46:=isAgg29
 z46:=sizeOf29
 v46:=zeroValue29
 t53:=underlying243
 a53:=isAgg243
 z53:=sizeOf243
 v53:=zeroValue243
 t57:=underlying247
 a57:=isAgg247
 z57:=sizeOf247
 v57:=zeroValue247
 t63:=underlying250
 a63:=isAgg250
 z63:=sizeOf250
 v63:=zeroValue250
 t64:=underlying145
 a64:=isAgg145
 z64:=sizeOf145
 v64:=zeroValue145 }
open Go.Dw
theorem Tryz.zkE: ∀ {l:List MapEntry},(∀e∈l,∃n,e.key= .int .i64 n)→ ∃ks:List Int,l.map (·.key)=ks.map encZ∧ ∀x,x∈ks↔ ∃e∈l,e.key= .int .i64 x
 | [], _=>⟨[],rfl,fun x=>by simp⟩
 | e::l,h=>by
  obtain ⟨ks,h1,h2⟩:=zkE fun e he=>h e (List.mem_cons_of_mem _ he);obtain ⟨n,hn⟩:=h e List.mem_cons_self;refine ⟨n::ks,by rw [List.map_cons,List.map_cons,h1,hn],fun x=> ?_⟩;rw [List.mem_cons,h2];constructor
  ·rintro (rfl|⟨e',h3,h4⟩)
   ·exact ⟨e,List.mem_cons_self,hn⟩
   ·exact ⟨e',List.mem_cons_of_mem _ h3,h4⟩
  ·rintro ⟨e',h3,h4⟩;rcases List.mem_cons.1 h3 with rfl|h3
   ·left;rw [hn] at h4;cases h4;rfl
   ·exact .inr ⟨e',h3,h4⟩
end Go.Proofs
namespace Go.Dw
open Go.RowKit Go.WideShapes Go.ChangeShapes
theorem trodAll_stays {H:Type} {enc:TypeId×Value→H} {P:Program} {W W':World} (hl:laidOutB P=true) (hb:Below W.heap.size W W') {sp:Nat→Bool}: ∀ {ts:List TypeId} {vs:List Value} {ds:List (DataW H)} {ps:List MemPlace},
  (∀ t∈ts,P.readableRec t=true∧t<P.types.size)→DataW.TrodAll enc P W 0 (fun _=>true) true ts vs ds ps→(∀x∈ps,x.block<W.heap.size)→(∀x∈ps,sp x.block=true)→DataW.TrodAll enc P W' 0 sp true ts vs ds ps
 | [], vs,ds,ps,_,h,_,_=>by
  obtain ⟨rfl,rfl,rfl⟩:=trodAll_nil h;exact trodAll_mk0
 | t::ts,vs,ds,ps,ht,h,hlt,hsp=>by
  obtain ⟨v,vs',d,ds',p,q,rfl,rfl,rfl,h0,h1⟩:=trodAll_cons h;have ht0:=ht t (List.mem_cons_self ..);refine trodAll_cons_mk (WideElems.Trod_stays hl ht0.1 ht0.2 h0 (fun x hx=>hb.same (hlt x (List.mem_append_left _ hx))) (fun x hx=>hsp x (List.mem_append_left _ hx))) ?_;exact trodAll_stays hl hb (fun u hu=>ht u (List.mem_cons_of_mem _ hu)) h1 (fun x hx=>hlt x (List.mem_append_right _ hx)) (fun x hx=>hsp x (List.mem_append_right _ hx))
theorem okWide_bools3 {P:Program} {w:World} {r:Reach} {base:Nat} {t b:TypeId} {fs:Array Field} {v:Value} (ht:P.underlying t=some (.struct fs)) (hn:P.cellsOf t=3) (hc:P.cellTypes P.depth t=some [b,b,b])
  (hb:P.underlying b=some .bool) (h:Value.okWide P w r base t v): ∃x y z,v= .agg #[.bool x,.bool y,.bool z]:=by
 simp only [Value.okWide,ht] at h;obtain ⟨cs,rfl,hsz,ts,hts,_,hcell⟩:=h;rw [hc] at hts;cases hts;rw [hn] at hsz;have cell: ∀i v,i<3→cs[i]? =some v→ ∃x,v= .bool x:=fun i v hi hv=>by
  obtain ⟨u,hu,hok⟩:=hcell i v hv;have e:u=b:=by
   have hi':i% [b,b,b].length=i:=Nat.mod_eq_of_lt (by simpa using hi);rw [hi'] at hu
   match i,hi with
   | 0,_=>simpa using hu.symm
   | 1,_=>simpa using hu.symm
   | 2,_=>simpa using hu.symm
  subst e;simp only [Cell.okWide,hb] at hok;cases v<;>simp_all [Cell.ok]
 obtain ⟨x,hx⟩:=cell 0 cs[0] (by omega) (Array.getElem?_eq_getElem (by omega));obtain ⟨y,hy⟩:=cell 1 cs[1] (by omega) (Array.getElem?_eq_getElem (by omega));obtain ⟨z,hz⟩:=cell 2 cs[2] (by omega) (Array.getElem?_eq_getElem (by omega));refine ⟨x,y,z,?_⟩;congr 1;apply Array.ext
 ·rw [hsz];rfl
 ·intro i h1 h2
  match i,h2 with
  | 0,_=>exact hx
  | 1,_=>exact hy
  | 2,_=>exact hz
end Go.Dw
namespace Go.Dw
open Go.RowKit
mutual
def clo:AV→Option Value
 | .bool (.lit b)=>some (.bool b)
 | .int k (.lit n)=>some (.int k n)
 | .nilp=>some (.pointer none)
 | .nils=>some (.slice none 0 0)
 | .agg l=>match cloL l with|some m=>some (.agg m.toArray)|none=>none
 | .tup l=>match cloL l with|some m=>some (.tuple m.toArray)|none=>none
 | _=>none
def cloL:List AV→Option (List Value)
 | [] => some []
 | a::l=>match clo a,cloL l with|some v,some m=>some (v::m)|_,_=>none
end
mutual
theorem clo_sound {ρ:Val} {j:J}: ∀ {a:AV} {x u:Value},clo a=some x→R ρ j a u→u=x
 | .bool (.lit b),x,u,h,r=>by cases h;exact r
 | .int k (.lit n),x,u,h,r=>by cases h;exact r
 | .nilp,x,u,h,r=>by cases h;exact r
 | .nils,x,u,h,r=>by cases h;exact r
 | .agg l,x,u,h,r=>by
  obtain ⟨m,rfl,hm⟩:=r;rw [clo] at h;cases hl:cloL l with
  | none=>rw [hl] at h;cases h
  | some m'=>rw [hl] at h;cases h;rw [cloL_sound hl hm]
 | .tup l,x,u,h,r=>by
  obtain ⟨m,rfl,hm⟩:=r;rw [clo] at h;cases hl:cloL l with
  | none=>rw [hl] at h;cases h
  | some m'=>rw [hl] at h;cases h;rw [cloL_sound hl hm]
theorem cloL_sound {ρ:Val} {j:J}: ∀ {l:List AV} {m us:List Value},cloL l=some m→RL ρ j l us→us=m
 | [], m,us,h,r=>by cases h;exact r
 | a::l,m,us,h,r=>by
  obtain ⟨v,m',rfl,hv,hm⟩:=r;rw [cloL] at h;cases ha:clo a with
  | none=>rw [ha] at h;cases h
  | some x=>
   cases hl:cloL l with
   | none=>rw [ha,hl] at h;cases h
   | some y=>rw [ha,hl] at h;cases h;rw [clo_sound ha hv,cloL_sound hl hm]
end
def eqB (a b:Bool):Bool:=match a with|true=>b|false=>match b with|true=>false|false=>true
mutual
def eqAV:AV→AV→Bool
 | .bool (.lit a),.bool (.lit b)=>eqB a b
 | .int k (.lit a),.int k' (.lit b)=>match decide (k=k') with|true=>decide (a=b)|false=>false
 | .nilp,.nilp=>true
 | .nils,.nils=>true
 | .agg l,.agg m=>eqAVL l m
 | .tup l,.tup m=>eqAVL l m
 | _,_=>false
def eqAVL:List AV→List AV→Bool
 | [], [] => true
 | a::l,b::m=>match eqAV a b with|true=>eqAVL l m|false=>false
 | _,_=>false
end
theorem zw3 {a b:Bool} (h:eqB a b=true):a=b:=by cases a<;>cases b<;>first|rfl|cases h
mutual
theorem eqAV_eq: ∀ {a b:AV},eqAV a b=true→a=b
 | .bool (.lit a),.bool (.lit b),h=>by rw [zw3 (a:=a) (b:=b) h]
 | .int k (.lit a),.int k' (.lit b),h=>by
  rw [eqAV] at h;split at h
  ·rename_i hk;rw [of_decide_eq_true hk,of_decide_eq_true h]
  ·cases h
 | .nilp,.nilp,_=>rfl
 | .nils,.nils,_=>rfl
 | .agg l,.agg m,h=>by rw [eqAVL_eq (l:=l) (m:=m) h]
 | .tup l,.tup m,h=>by rw [eqAVL_eq (l:=l) (m:=m) h]
theorem eqAVL_eq: ∀ {l m:List AV},eqAVL l m=true→l=m
 | [], [], _=>rfl
 | a::l,b::m,h=>by
  rw [eqAVL] at h;split at h
  ·rename_i ha;rw [eqAV_eq ha,eqAVL_eq h]
  ·cases h
end
def isAV (x : AV) (v : AV) (_ : Heap) : Ob := match eqAV v x with | true => .ok | false => .bad 96 "other"
theorem zu7 {P:Program} (hmo:P.follows .mixedOrders=true) {n:Nat} {f:FuncId} {args:List AV} {vals:List Value} {x:AV} {u:Value} (hx:clo x=some u) (ha:RL Val.zero (fun _=>none) args vals)
  (h:(ev P zs8 n (.call f args heap0 (isAV x))).good=true) (w:World):
  Calls P f vals.toArray w fun e w'=>e= .returned u∧Below w.heap.size w w':=by
 have hg:=zrk (P:=P) (ρ:=Val.zero) (w0:=Cx.plain w) (orc:=zs8) zs7 (fun n rec hg=>zqr hmo hg) n;refine Calls.mono ((hg.call f args heap0 (isAV x) (Ob.den_of_good h)).2 (fun _=>none) w vals (inv0 w) ha) fun e w' he=> ?_;obtain ⟨u',rfl,v,H',j',h1,h2,h3,h4⟩:=he;have hv:v=x:=by
  unfold isAV at h4;split at h4
  ·rename_i e;exact eqAV_eq e
  ·exact h4.elim
 rw [hv] at h1;rw [clo_sound hx h1];exact ⟨rfl,h2.fr.below⟩
theorem zuk {ρ:Val} {j:J} {k:IntKind} {n:Int} {l:List AV} {m:List Value} (h:RL ρ j l m):RL ρ j (.int k (.lit n)::l) (.int k n::m):=⟨_,_,rfl,rfl,h⟩
theorem zv8 {ρ:Val} {j:J} {b:Bool} {l:List AV} {m:List Value} (h:RL ρ j l m):RL ρ j (.bool (.lit b)::l) (.bool b::m):=⟨_,_,rfl,rfl,h⟩
end Go.Dw
namespace Go.Proofs
open Go.RowKit Go.Maps Go.Sort
def Tryz.drv (n:Nat):Nat:=4096+16*n
def Tryz.dvc (n:Nat):Nat:=(drv n+2*n+9)/4*4
def Tryz.rings (n:Nat):Value:= .agg #[.bool false,.int .i64 n,.int .u64 4096,.int .u64 (drv n),.int .u64 (dvc n)]
def Tryz.zvc (n:Nat):Dw.AV:= .agg [.bool (.lit false),.int .i64 (.lit n),.int .u64 (.lit 4096),.int .u64 (.lit (drv n)),.int .u64 (.lit (dvc n))]
theorem Tryz.zoq {n:Nat} (h:n=1∨n=2∨n=4∨n=8∨n=16):n∈ [1,2,4,8,16]:=by simp;omega
noncomputable def Tryz.zvq (n:Nat):Bool:=(Dw.ev prog Dw.zs8 100000 (.call 8 [.bool (.lit false),.int .i64 (.lit n),.int .u64 (.lit 4096)] Dw.heap0 (Dw.isAV (.tup [zvc n,.int .u64 (.lit (dvc n+6+8*n-4096)),.int .i64 (.lit 0)])))).good
theorem Tryz.zoE:([1,2,4,8,16].all fun n=>zvq n)=true:=by kernel_rfl
theorem Tryz.zqt (n:Nat) (hn:n=1∨n=2∨n=4∨n=8∨n=16) (w:World):
  Calls prog 8 #[.bool false,.int .i64 n,.int .u64 4096] w fun e w'=>e= .returned (.tuple #[rings n,.int .u64 ((dvc n:Int)+6+8*n-4096),.int .i64 0])∧Below w.heap.size w w':=by
 have h1:=List.all_eq_true.1 zoE n (zoq hn);exact Dw.zu7 (by kernel_rfl) rfl (Dw.zv8 (Dw.zuk (Dw.zuk Dw.RL.nil))) h1 w
end Go.Proofs
namespace Go.Proofs
open Go.Dw Go.RowKit
theorem Tryz.zsJ {fn:Func} {t t2 p u:Tmp} {ty:TypeId} (h:fn.results= #[.tmp t,.tmp t2,.cell p ty,.tmp u]) (tmps:Array Value) (w:World) (b:Nat) (cs:List Value) (d:TypeDesc)
  (hp:tmps.getD p undef= .pointer (some ⟨b,0,none⟩)) (hg:w.rangeAt b 0 cs) (hu:prog.underlying ty=some d) (hd:d.isRow=true) (hi:(prog.info? ty).map (·.size)=some cs.length):
  (results fn tmps).run prog w= .ok (.tuple #[tmps.getD t undef,tmps.getD t2 undef,.agg cs.toArray,tmps.getD u undef]) w:=by
 have hp':tmps[p]?.getD undef= .pointer (some ⟨b,0,none⟩):=by simpa using hp
 simp [results,h,hp',asAddr,run_loadVar_mid w b 0 ty cs d hg hu hd hi]
theorem Tryz.zbp (w:World) (o:Obj):(w.alloc o).heap.size=w.heap.size+1:=by simp
def Tryz.zaw (n:Nat):Rg:=⟨n,4096,drv n,dvc n⟩
theorem Tryz.zoA (n:Nat):(zaw n).val=rings n:=rfl
theorem Tryz.zp9 {n:Nat} (h:n=1∨n=2∨n=4∨n=8∨n=16):RgOk (zaw n):=by
 rcases h with rfl|rfl|rfl|rfl|rfl
 ·exact ⟨⟨0,by decide,rfl⟩,by decide,by decide,by decide,by decide,by decide,by decide,by decide,by decide,by decide,by decide,by decide,by decide⟩
 ·exact ⟨⟨1,by decide,rfl⟩,by decide,by decide,by decide,by decide,by decide,by decide,by decide,by decide,by decide,by decide,by decide,by decide⟩
 ·exact ⟨⟨2,by decide,rfl⟩,by decide,by decide,by decide,by decide,by decide,by decide,by decide,by decide,by decide,by decide,by decide,by decide⟩
 ·exact ⟨⟨3,by decide,rfl⟩,by decide,by decide,by decide,by decide,by decide,by decide,by decide,by decide,by decide,by decide,by decide,by decide⟩
 ·exact ⟨⟨4,by decide,rfl⟩,by decide,by decide,by decide,by decide,by decide,by decide,by decide,by decide,by decide,by decide,by decide,by decide⟩
end Go.Proofs
namespace Go.Proofs
open Go.Dw
def Tryz.zj9:List Ent:= []
def Tryz.zne:List Sh:= [ckEl 3 4 0]
def Tryz.zd6:List (Nat×AV):= [(0,ckL [(.lit 0,1)]),(3,.int .u64 (u64v 2)),(4,.int .i64 (.lit 0))]
def Tryz.zh3:List LEnt:= []
def Tryz.zh4:List AEnt:= []
def Tryz.znf:Option AV:=none
def Tryz.zsU:List (SB×Bool):= [(.cmp .lss (.lit 0) (lnv 0),true)]
def Tryz.zqm:List zfe:= [
 ⟨.ret,[2],none,⟨.tup [.int .i64 (.lit 2)],[],[],0,[]⟩⟩,
 ⟨.normal,[0,3,4],none,⟨.tup [.sx 0 ((lnv 0)) 3 [((.lit 0),1)],.int .u64 (.bin .add .u64 (u64v 2) (u32v 4)),.int .i64 (.lit 1)],[],[],0,[]⟩⟩]
def Tryz.zql:List (List (SB×Bool)×Nat):= [
 ([((.cmp .eql (u32v 4) (.lit 0)),true)],0),
 ([((.cmp .eql (u32v 4) (.lit 0)),false),((.cmp .lss (.bin .add .u64 (u64v 3) (.bin .sub .u64 (u32v 4) (.lit 1))) (u64v 3)),true)],0),
 ([((.cmp .eql (u32v 4) (.lit 0)),false),((.cmp .lss (.bin .add .u64 (u64v 3) (.bin .sub .u64 (u32v 4) (.lit 1))) (u64v 3)),false)],1)]
theorem Tryz.zsT:(evL prog (zaY zj9) (zb8 zh3) (zbV zh4) 100000 (.code (zbf prog [0,0,1,0,1,1,1,106]) [0,0,1,0,1,1,1,106] 71 (envS 71 zd6 znf) (zaV 0 zne) (zbA zqm 0))).ways zsU=some zql:=by kernel_rfl
theorem Tryz.zvi:(zaB zne&&zap zj9&&za1 zh3&&za3 zh4&&zaR zd6&&zaQ zqm&&zbr 71 zd6&&Nat.ble 71 zaZ&&zbx znf)=true:=by kernel_rfl
def Tryz.zj8:List Ent:= []
def Tryz.znc:List Sh:= [ckEl 3 4 0,ckEl 5 6 1]
def Tryz.zd5:List (Nat×AV):= [(0,ckL [(lnv 1,1),(.bin .sub .i64 (lnv 1) (.lit 1),2)]),(3,.int .u64 (u64v 2)),(4,.int .i64 (lnv 1))]
def Tryz.zh1:List LEnt:= []
def Tryz.zh2:List AEnt:= []
def Tryz.znd:Option AV:=none
def Tryz.zsS:List (SB×Bool):= [(.cmp .lss (lnv 1) (lnv 0),true),(.cmp .gtr (lnv 1) (.lit 0),true)]
def Tryz.zqk:List zfe:= [
 ⟨.ret,[2],none,⟨.tup [.int .i64 (.lit 2)],[],[],0,[]⟩⟩,
 ⟨.normal,[0,3,4],none,⟨.tup [.sx 0 ((lnv 0)) 3 [((lnv 1),1),((.bin .sub .i64 (lnv 1) (.lit 1)),2)],.int .u64 (.bin .add .u64 (u64v 2) (u32v 4)),.int .i64 (.bin .add .i64 (lnv 1) (.lit 1))],[],[],0,[]⟩⟩]
def Tryz.zqj:List (List (SB×Bool)×Nat):= [
 ([((.cmp .eql (u32v 4) (.lit 0)),true)],0),
 ([((.cmp .eql (u32v 4) (.lit 0)),false),((.cmp .lss (.bin .add .u64 (u64v 3) (.bin .sub .u64 (u32v 4) (.lit 1))) (u64v 3)),true)],0),
 ([((.cmp .eql (u32v 4) (.lit 0)),false),((.cmp .lss (.bin .add .u64 (u64v 3) (.bin .sub .u64 (u32v 4) (.lit 1))) (u64v 3)),false),(.var 1,true),(.var 0,false)],0),
 ([((.cmp .eql (u32v 4) (.lit 0)),false),((.cmp .lss (.bin .add .u64 (u64v 3) (.bin .sub .u64 (u32v 4) (.lit 1))) (u64v 3)),false),(.var 1,true),(.var 0,true)],1),
 ([((.cmp .eql (u32v 4) (.lit 0)),false),((.cmp .lss (.bin .add .u64 (u64v 3) (.bin .sub .u64 (u32v 4) (.lit 1))) (u64v 3)),false),(.var 1,false)],1)]
theorem Tryz.zsR:(evL prog (zaY zj8) (zb8 zh1) (zbV zh2) 100000 (.code (zbf prog [0,0,1,0,1,1,1,106]) [0,0,1,0,1,1,1,106] 71 (envS 71 zd5 znd) (zaV 0 znc) (zbA zqk 0))).ways zsS=some zqj:=by kernel_rfl
theorem Tryz.zvh:(zaB znc&&zap zj8&&za1 zh1&&za3 zh2&&zaR zd5&&zaQ zqk&&zbr 71 zd5&&Nat.ble 71 zaZ&&zbx znd)=true:=by kernel_rfl
def Tryz.zj7:List Ent:= []
def Tryz.zna:List Sh:= []
def Tryz.zd4:List (Nat×AV):= [(0,ckL []),(3,.int .u64 (u64v 2)),(4,.int .i64 (lnv 1))]
def Tryz.zhZ:List LEnt:= []
def Tryz.zh0:List AEnt:= []
def Tryz.znb:Option AV:=none
def Tryz.zsQ:List (SB×Bool):= [(.cmp .lss (lnv 1) (lnv 0),false)]
def Tryz.zqi:List zfe:= [
 ⟨(.exit 0),[3],none,⟨.tup [.int .u64 (u64v 2)],[],[],0,[]⟩⟩]
def Tryz.zqh:List (List (SB×Bool)×Nat):= [
 ([], 0)]
theorem Tryz.zsP:(evL prog (zaY zj7) (zb8 zhZ) (zbV zh0) 100000 (.code (zbf prog [0,0,1,0,1,1,1,106]) [0,0,1,0,1,1,1,106] 71 (envS 71 zd4 znb) (zaV 0 zna) (zbA zqi 0))).ways zsQ=some zqh:=by kernel_rfl
theorem Tryz.zvg:(zaB zna&&zap zj7&&za1 zhZ&&za3 zh0&&zaR zd4&&zaQ zqi&&zbr 71 zd4&&Nat.ble 71 zaZ&&zbx znb)=true:=by kernel_rfl
def Tryz.zj6:List Ent:= []
def Tryz.zm8:List Sh:= []
def Tryz.zd3:List (Nat×AV):= [(3,.int .u64 (u64v 2))]
def Tryz.zhX:List LEnt:= []
def Tryz.zhY:List AEnt:= []
def Tryz.zm9:Option AV:=none
def Tryz.zsO:List (SB×Bool):= []
def Tryz.zqg:List zfe:= [
 ⟨.ret,[2],none,⟨.tup [.int .i64 (.lit 2)],[],[],0,[]⟩⟩,
 ⟨.ret,[2],none,⟨.tup [.int .i64 (.lit 0)],[],[],0,[]⟩⟩]
def Tryz.zqf:List (List (SB×Bool)×Nat):= [
 ([((.cmp .geq (u64v 2) (.lit 4294967296)),true)],0),
 ([((.cmp .geq (u64v 2) (.lit 4294967296)),false)],1)]
theorem Tryz.zsN:(evL prog (zaY zj6) (zb8 zhX) (zbV zhY) 100000 (.code (zbf prog [1,1,1,1,106]) [1,1,1,1,106] 71 (envS 71 zd3 zm9) (zaV 0 zm8) (zbA zqg 0))).ways zsO=some zqf:=by kernel_rfl
theorem Tryz.zvf:(zaB zm8&&zap zj6&&za1 zhX&&za3 zhY&&zaR zd3&&zaQ zqg&&zbr 71 zd3&&Nat.ble 71 zaZ&&zbx zm9)=true:=by kernel_rfl
open Go.RowKit
structure Tryz.RcI (l:List Sg) (sa:Option Addr) (c:Nat) (w0:World) (k:Nat) (a:Act) (w:World):Prop where
 kl:k≤l.length
 size:a.tmps.size=71
 dfr:a.defers= []
 s0:a.tmps.getD 0 undef= .slice sa l.length c
 s4:a.tmps.getD 4 undef= .int .i64 k
 mv:Below w0.heap.size w0 w
 sum: ∃pw s,a.tmps.getD 3 undef= .int .u64 s∧0≤s∧s≤k*4294967296∧zaE pw s (l.drop k)=zaE false 0 l∧(k=0→pw=false)∧(∀i,k=i+1→ ∃h:i<l.length,pw=l[i].wr)
theorem Tryz.zxr {ρ:Val} {j:J} {sa:Option Addr} {n c:Nat} (hv:ρ.v 0= .slice sa n c) (hd:(lnv 0).den ρ=n):Dw.R ρ j (ckL []) (.slice sa n c):=by
 have:Dw.R ρ j (ckL []) (ρ.v 0):=⟨rfl,sa,n,c,hv,hd.symm,trivial⟩
 rwa [hv] at this
theorem Tryz.zsW {l:List Sg} {sa:Option Addr} {c:Nat} {w0:World} {k:Nat} {a:Act} {w:World} (h:RcI l sa c w0 k a w) (hl:l.length≤64) (hok: ∀x∈l,x.ok)
    (hr:l= []∨ ∃R o,sa=some ⟨R,o,none⟩∧w0.rangeAt R o (zam l)):
    (zbf prog [0,0,1,0,1,1,1,106]).wp prog (fun ex a' w'=>match ex with
      | .normal=>k<l.length∧RcI l sa c w0 (k+1) a' w'
      | ex=>a'.tmps.size=71∧a'.defers= []∧Below w0.heap.size w0 w'∧((ex= .ret∧zaE false 0 l=2∧a'.tmps.getD 2 undef= .int .i64 2)∨(ex= .exit 0∧ ∃s,zaE false 0 l=(if 4294967296≤s then 2 else 0)∧a'.tmps.getD 3 undef= .int .u64 s∧0≤s∧s<18446744073709551616))) a w:=by
  obtain ⟨kl,size,dfr,s0,s4,mv,pw,s,s3,hs0,hs1,hsw,hp0,hp1⟩:=h;have hden: ∀(n k' s':Int) (x y:Sg) (sl:Value),n=l.length→0≤k'→k'≤64→0≤s'→s'<18446744073709551616→x.ok→(lnv 0).den (zbo n k' s' x y sl)=l.length∧(lnv 1).den (zbo n k' s' x y sl)=k'∧(u64v 2).den (zbo n k' s' x y sl)=s'∧(u64v 3).den (zbo n k' s' x y sl)=x.at1∧(u32v 4).den (zbo n k' s' x y sl)=x.len:=by
    intro n k' s' x y sl h1 h2 h3 h4 h5 h6;subst h1;exact ⟨zfA (by show (0:Int)≤l.length;omega) (by show ((l.length:Nat):Int)<_;omega),zfA h2 (by show k'<_;omega),zcb h4 h5,zcb h6.1 h6.2.1,zjp h6.2.2.1 h6.2.2.2⟩
  by_cases hkl:k<l.length
  · rcases hr with h0|⟨R,o,rfl,hr⟩
    · rw [h0] at hkl;simp at hkl
    have hRw0:=zgK hr (by intro h0;rw [h0] at hkl;simp at hkl);have hrw:w.rangeAt R o (zam l):=zae hr (mv.block R hRw0);have hx:=zcV hrw k hkl;have hxo:=hok l[k] (List.getElem_mem hkl);rw [List.drop_eq_getElem_cons hkl] at hsw;generalize hX:l[k]=X at hx hxo hsw;have hXok:=hxo;obtain ⟨xa0,xa1,xl0,xl1⟩:=hxo;rw [zaE] at hsw;have hwl:X.len≠0→IntKind.wrap .u64 (X.len-1)=X.len-1:=fun h=>zai (by omega) (by omega);have hwa:IntKind.wrap .u64 (X.at1+(X.len-1))=(X.at1+(X.len-1))%18446744073709551616:=zdF _;have hws:IntKind.wrap .u64 (s+X.len)=s+X.len:=zai (by omega) (by omega);have hkk:IntKind.wrap .i64 ((k:Int)+1)=((k+1:Nat):Int):=by rw [zaS (by omega) (by omega)];omega
    have fin: ∀ {a':Act} {w':World},a'.tmps.size=71→a'.defers= []→Below w.heap.size w w'→([0,3,4].map fun t=>a'.tmps.getD t undef)= [.slice (some ⟨R,o,none⟩) l.length c,.int .u64 (s+X.len),.int .i64 (k+1:Nat)]→
        zaE X.wr (s+X.len) (l.drop (k+1))=zaE false 0 l→k<l.length∧RcI l (some ⟨R,o,none⟩) c w0 (k+1) a' w':=fun {a' w'} q1 q2 q5 q8 q9=>by
      simp only [List.map_cons,List.map_nil,List.cons.injEq,and_true] at q8;obtain ⟨t0,t3,t4⟩:=q8;refine ⟨hkl,⟨by omega,q1,q2,t0,t4,mv.trans (q5.mono mv.size),X.wr,s+X.len,t3,by omega,by push_cast;omega,q9,by omega,fun i hi=> ?_⟩⟩;have:k=i:=by omega
      subst this;exact ⟨hkl,by rw [hX]⟩
    rcases Nat.eq_zero_or_pos k with hk0|hk0
    · subst hk0;have hpw:=hp0 rfl;subst hpw;obtain ⟨d0,d1,d2,d3,d4⟩:=hden l.length 0 s X X (.slice (some ⟨R,o,none⟩) l.length c) rfl (by omega) (by omega) hs0 (by omega) hXok;have hv0:(zbo l.length 0 s X X (.slice (some ⟨R,o,none⟩) l.length c)).v 0= .slice (some ⟨R,o,none⟩) l.length c:=rfl;have hb0:(zbo l.length 0 s X X (.slice (some ⟨R,o,none⟩) l.length c)).b 0=X.wr:=rfl;generalize zbo l.length 0 s X X (.slice (some ⟨R,o,none⟩) l.length c)=ρ at*;have hj1:jOf [(R,o)] 1=some ⟨R,o,0,none⟩:=rfl;have hsx:Dw.R ρ (jOf [(R,o)]) (ckL [(.lit 0,1)]) (.slice (some ⟨R,o,none⟩) l.length c):=by
        have:Dw.R ρ (jOf [(R,o)]) (ckL [(.lit 0,1)]) (ρ.v 0):=⟨rfl,_,_,_,hv0,d0.symm,⟨R,o,_,0,rfl,hj1,rfl,rfl,hkl,rfl⟩,trivial⟩
        rwa [hv0] at this
      refine wp_mono (zb0 (ρ:=ρ) (K:=fun _=>False) (g:=Gho.none) (bl:= [(R,o)]) mixed zsT zvi (fun b h=>h.elim)
        ⟨zdd hx (by unfold Sg.cells;simp) (zao (zax d3) (zao (zax d4) (zao (zf4 hb0) RL.nil))) (fun h=>h),trivial⟩
        ⟨fun h=>(by cases h),trivial⟩ zaJ trivial trivial trivial size dfr ?_ (zah.2 ⟨by rw [zdB,d0,zat];simp only [decide_eq_true_eq];omega,zau.2 trivial⟩)) fun ex a' w' hh=> ?_
      · intro t ht;simp only [zd6,List.mem_cons,List.not_mem_nil,or_false] at ht;rcases ht with rfl|rfl|rfl
        · rw [s0];exact hsx
        · rw [s3];exact zax d2
        · rw [s4];exact zax rfl
      · obtain ⟨q,hq,hto,lf,hlf,rfl,hsz,j,hdf,he⟩:=hh;have hbl:=zar he (fun _ h=>h);unfold zql at hq;simp only [List.mem_cons,List.not_mem_nil,or_false] at hq;rcases hq with rfl|rfl|rfl
        all_goals
          simp only [zah,zau,znP,zdB,znO,zcO,den_add,zat,d0,d1,d2,d3,d4,decide_eq_true_eq,decide_eq_false_iff_not,beq_iff_eq,beq_eq_false_iff_ne,ne_eq,and_true] at hto;cases hlf;have hs:=zbg he.ret
        · exact ⟨hsz,hdf,mv.trans (hbl.mono mv.size),.inl ⟨rfl,by rw [←hsw,if_pos (by omega)],by simpa [AV.valL,AV.val,zat] using hs⟩⟩
        · obtain ⟨t1,t2⟩:=hto;rw [hwl t1,hwa] at t2;exact ⟨hsz,hdf,mv.trans (hbl.mono mv.size),.inl ⟨rfl,by rw [←hsw,if_pos (by omega)],by simpa [AV.valL,AV.val,zat] using hs⟩⟩
        · obtain ⟨t1,t2⟩:=hto;rw [hwl t1,hwa] at t2;refine fin hsz hdf hbl ?_ ?_
          · rw [hs];simp only [AV.valL,AV.val,d2,d4,hv0,den_add,zat,hws];rfl
          · rw [←hsw,if_neg (by rintro (h|h|⟨h,_⟩);omega;omega;cases h)]
    · obtain ⟨i,rfl⟩: ∃i,k=i+1:=⟨k-1,by omega⟩;obtain ⟨hil,hpw⟩:=hp1 i rfl;have hy:=zcV hrw i hil;have hyo:=hok l[i] (List.getElem_mem hil);generalize hY:l[i]=Y at hy hyo hpw;subst hpw;have hk1:IntKind.wrap .i64 (((i+1:Nat):Int)-1)=(i:Int):=by rw [zaS (by omega) (by omega)];omega
      obtain ⟨d0,d1,d2,d3,d4⟩:=hden l.length (i+1:Nat) s X Y (.slice (some ⟨R,o,none⟩) l.length c) rfl (by omega) (by omega) hs0 (by omega) hXok;have hv0:(zbo l.length (i+1:Nat) s X Y (.slice (some ⟨R,o,none⟩) l.length c)).v 0= .slice (some ⟨R,o,none⟩) l.length c:=rfl;have hb0:(zbo l.length (i+1:Nat) s X Y (.slice (some ⟨R,o,none⟩) l.length c)).b 0=X.wr:=rfl;have hb1:(zbo l.length (i+1:Nat) s X Y (.slice (some ⟨R,o,none⟩) l.length c)).b 1=Y.wr:=rfl;have d5:(u64v 5).den (zbo l.length (i+1:Nat) s X Y (.slice (some ⟨R,o,none⟩) l.length c))=Y.at1:=zcb hyo.1 hyo.2.1;have d6:(u32v 6).den (zbo l.length (i+1:Nat) s X Y (.slice (some ⟨R,o,none⟩) l.length c))=Y.len:=zjp hyo.2.2.1 hyo.2.2.2;generalize zbo l.length (i+1:Nat) s X Y (.slice (some ⟨R,o,none⟩) l.length c)=ρ at*;have hj1:jOf [(R,o+3*(i+1)),(R,o+3*i)] 1=some ⟨R,o+3*(i+1),0,none⟩:=rfl;have hj2:jOf [(R,o+3*(i+1)),(R,o+3*i)] 2=some ⟨R,o+3*i,0,none⟩:=rfl;have hsx:Dw.R ρ (jOf [(R,o+3*(i+1)),(R,o+3*i)]) (ckL [(lnv 1,1),(.bin .sub .i64 (lnv 1) (.lit 1),2)]) (.slice (some ⟨R,o,none⟩) l.length c):=by
        have:Dw.R ρ (jOf [(R,o+3*(i+1)),(R,o+3*i)]) (ckL [(lnv 1,1),(.bin .sub .i64 (lnv 1) (.lit 1),2)]) (ρ.v 0):=
          ⟨rfl,_,_,_,hv0,d0.symm,⟨R,o,_,i+1,rfl,hj1,rfl,d1,hkl,rfl⟩,⟨R,o,_,i,rfl,hj2,rfl,by rw [zcO,d1,zat,hk1];rfl,hil,rfl⟩,trivial⟩
        rwa [hv0] at this
      refine wp_mono (zb0 (ρ:=ρ) (K:=fun _=>False) (g:=Gho.none) (bl:= [(R,o+3*(i+1)),(R,o+3*i)]) mixed zsR zvh (fun b h=>h.elim)
        ⟨zdd hx (by unfold Sg.cells;simp) (zao (zax d3) (zao (zax d4) (zao (zf4 hb0) RL.nil))) (fun h=>h),zdd hy (by unfold Sg.cells;simp) (zao (zax d5) (zao (zax d6) (zao (zf4 hb1) RL.nil))) (fun h=>h),trivial⟩
        ⟨fun h=>(by cases h),fun h=>(by cases h),trivial⟩ zaJ trivial trivial trivial size dfr ?_ (zah.2 ⟨by rw [zdB,d0,d1];simp only [decide_eq_true_eq];omega,zah.2 ⟨by rw [zhu,d1,zat];simp only [decide_eq_true_eq];omega,zau.2 trivial⟩⟩)) fun ex a' w' hh=> ?_
      · intro t ht;simp only [zd5,List.mem_cons,List.not_mem_nil,or_false] at ht;rcases ht with rfl|rfl|rfl
        · rw [s0];exact hsx
        · rw [s3];exact zax d2
        · rw [s4];exact zax d1
      · obtain ⟨q,hq,hto,lf,hlf,rfl,hsz,j,hdf,he⟩:=hh;have hbl:=zar he (fun _ h=>h);unfold zqj at hq;simp only [List.mem_cons,List.not_mem_nil,or_false] at hq;rcases hq with rfl|rfl|rfl|rfl|rfl
        all_goals
          simp only [zah,zau,znP,zdB,znO,zcO,den_add,zat,d0,d1,d2,d3,d4,hb0,hb1,decide_eq_true_eq,decide_eq_false_iff_not,beq_iff_eq,beq_eq_false_iff_ne,ne_eq,and_true] at hto;cases hlf;have hs:=zbg he.ret
        · exact ⟨hsz,hdf,mv.trans (hbl.mono mv.size),.inl ⟨rfl,by rw [←hsw,if_pos (by omega)],by simpa [AV.valL,AV.val,zat] using hs⟩⟩
        · obtain ⟨t1,t2⟩:=hto;rw [hwl t1,hwa] at t2;exact ⟨hsz,hdf,mv.trans (hbl.mono mv.size),.inl ⟨rfl,by rw [←hsw,if_pos (by omega)],by simpa [AV.valL,AV.val,zat] using hs⟩⟩
        · exact ⟨hsz,hdf,mv.trans (hbl.mono mv.size),.inl ⟨rfl,by rw [←hsw,if_pos (.inr (.inr ⟨hto.2.2.1,hto.2.2.2⟩))],by simpa [AV.valL,AV.val,zat] using hs⟩⟩
        · obtain ⟨t1,t2,t3,t4⟩:=hto;rw [hwl t1,hwa] at t2;refine fin hsz hdf hbl ?_ ?_
          · rw [hs];simp only [AV.valL,AV.val,d1,d2,d4,hv0,den_add,zat,hws,hkk]
          · rw [←hsw,if_neg (by rintro (h|h|⟨h,h'⟩);omega;omega;rw [t4] at h';cases h')]
        · obtain ⟨t1,t2,t3⟩:=hto;rw [hwl t1,hwa] at t2;refine fin hsz hdf hbl ?_ ?_
          · rw [hs];simp only [AV.valL,AV.val,d1,d2,d4,hv0,den_add,zat,hws,hkk]
          · rw [←hsw,if_neg (by rintro (h|h|⟨h,h'⟩);omega;omega;rw [t3] at h;cases h)]
  · have hkk:k=l.length:=by omega
    subst hkk;rw [List.drop_length,zaE] at hsw;obtain ⟨d0,d1,d2,d3,d4⟩:=hden l.length l.length s ⟨0,0,false⟩ ⟨0,0,false⟩ (.slice sa l.length c) rfl (by omega) (by omega) hs0 (by omega) ⟨by decide,by decide,by decide,by decide⟩;have hv0:(zbo l.length l.length s ⟨0,0,false⟩ ⟨0,0,false⟩ (.slice sa l.length c)).v 0= .slice sa l.length c:=rfl;generalize zbo l.length l.length s ⟨0,0,false⟩ ⟨0,0,false⟩ (.slice sa l.length c)=ρ at*;refine wp_mono (zb0 (ρ:=ρ) (K:=fun _=>False) (g:=Gho.none) (bl:= []) mixed zsP zvg (fun b h=>h.elim) trivial trivial zaJ trivial trivial trivial size dfr ?_ (zah.2 ⟨by rw [zdB,d0,d1];simp,zau.2 trivial⟩)) fun ex a' w' hh=> ?_
    · intro t ht;simp only [zd4,List.mem_cons,List.not_mem_nil,or_false] at ht;rcases ht with rfl|rfl|rfl
      · rw [s0];exact zxr hv0 d0
      · rw [s3];exact zax d2
      · rw [s4];exact zax d1
    · obtain ⟨q,hq,hto,lf,hlf,rfl,hsz,j,hdf,he⟩:=hh;have hbl:=zar he (fun _ h=>h);unfold zqh at hq;simp only [List.mem_cons,List.not_mem_nil,or_false] at hq;subst hq;cases hlf;have hs:=zbg he.ret;exact ⟨hsz,hdf,mv.trans (hbl.mono mv.size),.inr ⟨rfl,s,hsw.symm,by simpa [AV.valL,AV.val,d2] using hs,hs0,by omega⟩⟩
theorem Tryz.zc2 {fn:Func} {t:Tmp} {a:Act} {w:World} {v:Value} {Post:Ending→World→Prop} (hd:a.defers= []) (h:fn.results= #[.tmp t]) (hv:a.tmps.getD t undef=v) (hp:Post (.returned v) w):bodyPost prog fn Post .ret a w:=
 bodyPost_ret (v:=v) (by
  have hv':a.tmps[t]?.getD undef=v:=by simpa using hv
  simp [results,h,hv']) hd hp
set_option maxRecDepth 100000 in
theorem Tryz.zm4 {A:Nat→Prop} {w:World} {v:Value} {l:List Sg} (h:SegV A w v l):
  Calls prog 106 #[v] w fun e w'=>e= .returned (.int .i64 (zaO l))∧Below w.heap.size w w':=by
 obtain ⟨sa,c,rfl,hok,hr⟩:=h;unfold zaO;by_cases hlen:64<l.length
 ·rw [if_pos hlen];go_enter func106,ntmps106;go_wp2;go_ret;exact ⟨rfl,Below.refl _ _⟩
 ·rw [if_neg hlen];have hr':l= []∨ ∃R o,sa=some ⟨R,o,none⟩∧w.rangeAt R o (zam l):=hr.imp_right fun ⟨R,o,e,_,hr⟩=>⟨R,o,e,hr⟩;go_enter func106,ntmps106;go_wp2;refine zaK (c':= .loop (zbf prog [0,0,1,0,1,1,1,106])) (by kernel_rfl) ?_;refine zg7 (fun k a w'=>RcI l sa c w k a w') (fun k=>l.length-k) (fun k a w' hI=>wp_mono (zsW hI (by omega) hok hr') fun ex a' w2 hh=> ?_) 0 _ _ ?_
  ·cases ex with
   | normal=>exact ⟨k+1,by omega,hh.2⟩
   | ret=>
    obtain ⟨hsz,hdf,hb,⟨_,hV,h2⟩|⟨h,_⟩⟩:=hh
    ·exact zc2 (fn:=f106) (Post:=fun e w'=>e= .returned (.int .i64 (zaE false 0 l))∧RowKit.Below w.heap.size w w') hdf rfl h2 ⟨by rw [hV],hb⟩
    ·cases h
   | exit i=>
    obtain ⟨hsz,hdf,hb,⟨h,_⟩|⟨h,s,hV,h3,hs0,hs1⟩⟩:=hh
    ·cases h
    ·cases h;simp only [Exit.inBlock,Exit.then,if_pos];rename_i K hK;refine hK _ _ (zaK (c':=zbf prog [1,1,1,1,106]) (by kernel_rfl) ?_);have d2:(u64v 2).den (zbo 0 0 s ⟨0,0,false⟩ ⟨0,0,false⟩ undef)=s:=zcb hs0 hs1;generalize zbo 0 0 s ⟨0,0,false⟩ ⟨0,0,false⟩ undef=ρ at*;refine wp_mono (zb0 (ρ:=ρ) (K:=fun _=>False) (g:=Gho.none) (bl:= []) mixed zsN zvf (fun b h=>h.elim) trivial trivial zaJ trivial trivial trivial hsz hdf ?_ (zau.2 trivial)) fun ex a3 w3 hh=> ?_
     ·intro t ht;simp only [zd3,List.mem_cons,List.not_mem_nil,or_false] at ht;subst ht;rw [h3];exact zax d2
     ·obtain ⟨q,hq,hto,lf,hlf,rfl,hsz3,j,hdf3,he⟩:=hh;have hb3:=zar he (fun _ h=>h);unfold zqf at hq;simp only [List.mem_cons,List.not_mem_nil,or_false] at hq;rcases hq with rfl|rfl
      all_goals
       simp only [zah,zau,zf0,d2,zat,decide_eq_true_eq,decide_eq_false_iff_not,and_true] at hto;cases hlf;have h2:=zbg he.ret;simp only [AV.valL,AV.val,zat,List.map_cons,List.map_nil,List.cons.injEq,and_true] at h2
      ·exact zc2 (fn:=f106) (Post:=fun e w'=>e= .returned (.int .i64 (zaE false 0 l))∧RowKit.Below w.heap.size w w') hdf3 rfl h2 ⟨by rw [hV,if_pos (by omega)],hb.trans (hb3.mono hb.size)⟩
      ·exact zc2 (fn:=f106) (Post:=fun e w'=>e= .returned (.int .i64 (zaE false 0 l))∧RowKit.Below w.heap.size w w') hdf3 rfl h2 ⟨by rw [hV,if_neg (by omega)],hb.trans (hb3.mono hb.size)⟩
   | _=>obtain ⟨hsz,hdf,hb,⟨h,_⟩|⟨h,_⟩⟩:=hh<;>cases h
  ·exact ⟨Nat.zero_le _,rfl,rfl,rfl,rfl,Below.refl _ _,false,0,rfl,by decide,by decide,rfl,fun _=>rfl,fun i hi=>(by omega)⟩
open Go.Maps Go.Sort
def Tryz.zac (ids:List Int):List Value:=ids.map fun x=> .int .i64 x
def Tryz.OwnR (t:TypeId) (sz:Nat) (w:World) (b2:Nat) (v:Value) (n:Nat) (cs:List Value):Prop:=w.ownsRow b2 t sz v n cs
theorem Tryz.OwnR.kept {t:TypeId} {sz n:Nat} {w w':World} {b2:Nat} {v:Value} {cs:List Value} (h:OwnR t sz w b2 v n cs) (hb: ∀b,v.ownBlock=some b→w'.heap[b]? =w.heap[b]?):OwnR t sz w' b2 v n cs:=by
 obtain ⟨h1,h2⟩:=h;refine ⟨h1,?_⟩;rcases h2 with h2|⟨G,cap,cur,e,h3,h4,h5⟩
 ·exact .inl h2
 ·exact .inr ⟨G,cap,cur,e,h3,by rw [hb G (by rw [e];rfl)];exact h4,h5⟩
theorem Tryz.OwnR.lt {t:TypeId} {sz n:Nat} {w:World} {b2:Nat} {v:Value} {cs:List Value} (h:OwnR t sz w b2 v n cs): ∀b,v.ownBlock=some b→b2≤b∧b<w.heap.size:=fun b hb=>by
 obtain ⟨h1,h2⟩:=h;rcases h2 with ⟨rfl,_⟩|⟨G,cap,cur,rfl,h3,h4,h5⟩
 ·cases hb
 ·cases hb;exact ⟨h3,(Array.getElem?_eq_some_iff.1 h4).1⟩
theorem Tryz.OwnR.mono {t:TypeId} {sz n:Nat} {w:World} {b1 b2:Nat} {v:Value} {cs:List Value} (h:OwnR t sz w b2 v n cs) (hb:b1≤b2):OwnR t sz w b1 v n cs:=by
 obtain ⟨h1,h2⟩:=h;refine ⟨h1,?_⟩;rcases h2 with h2|⟨G,cap,cur,e,h3,h4⟩
 ·exact .inl h2
 ·exact .inr ⟨G,cap,cur,e,Nat.le_trans hb h3,h4⟩
theorem Tryz.OwnR.nil (t:TypeId) (sz:Nat) (w:World) (b2:Nat):OwnR t sz w b2 (.slice none 0 0) 0 []:=⟨by simp,.inl ⟨rfl,rfl⟩⟩
theorem Tryz.OwnR.row {t:TypeId} {sz n:Nat} {w:World} {b2:Nat} {v:Value} {cs:List Value} (h:OwnR t sz w b2 v n cs): ∃sa c,v= .slice sa n c∧(cs= []∨ ∃G,sa=some ⟨G,0,none⟩∧v.ownBlock=some G∧w.rangeAt G 0 cs):=by
 obtain ⟨h1,h2⟩:=h;rcases h2 with ⟨rfl,h2⟩|⟨G,cap,cur,rfl,h3,h4,h5,h6,h7,h8⟩
 ·refine ⟨none,0,by rw [h2],.inl ?_⟩;rw [h2,Nat.zero_mul] at h1;exact List.length_eq_zero_iff.1 h1
 ·refine ⟨_,cap,rfl,.inr ⟨G,rfl,rfl,fun i y hy=> ?_⟩⟩;have hlt:i<cs.length:=(List.getElem?_eq_some_iff.1 hy).1;rw [←h8] at hy;rw [List.getElem?_take_of_lt (by omega)] at hy;simp only [World.cell?,h4,Nat.zero_add];simpa using hy
structure Tryz.Pt where
 at0:Int
 a:Int
 ln:Int
 f:Int
 nx:Int
def Tryz.Pt.cells (p:Pt):List Value:= [.int .i64 p.at0,.int .u64 p.a,.int .u32 p.ln,.int .u16 p.f,.int .u16 p.nx]
def Tryz.putAt (ids:List Int) (l:List Sg) (k:Nat):Pt:=
 ⟨ids.getD k 0,(l.getD k ⟨0,0,false⟩).at1,(l.getD k ⟨0,0,false⟩).len,(if (l.getD k ⟨0,0,false⟩).wr then 2 else 0)+(if k+1<l.length then 1 else 0),if k+1<l.length then ids.getD (k+1) 0%65536 else 0⟩
def Tryz.za6 (ids:List Int) (l:List Sg) (k:Nat):List Pt:=(List.range k).map (putAt ids l)
def Tryz.zbz (ps:List Pt):List Value:=ps.flatMap Pt.cells
theorem Tryz.zgQ (ids:List Int) (l:List Sg) (k:Nat):za6 ids l (k+1)=za6 ids l k++ [putAt ids l k]:=by simp [za6,List.range_succ]
theorem Tryz.zcZ (ids:List Int) (l:List Sg) (k:Nat):(za6 ids l k).length=k:=by simp [za6]
def Tryz.zwU (l:List Sg):Int:=if zaO l=0∧l.length=0 then 2 else zaO l
def Tryz.bytesOf (v:Int) (n:Nat):List Int:=(List.range n).map fun i=>v/2^(8*i)%256
theorem Tryz.zk2 (v:Int) (n:Nat):bytesOf v (n+1)=bytesOf v n++ [v/2^(8*n)%256]:=by simp [bytesOf,List.range_succ]
theorem Tryz.zbB (v:Int) (n:Nat):(bytesOf v n).length=n:=by simp [bytesOf]
theorem Tryz.zmg (v:Int) (n:Nat): ∀x∈bytesOf v n,0≤x∧x<256:=fun x hx=>by
 obtain ⟨i,_,rfl⟩:=List.mem_map.1 hx;exact ⟨Int.emod_nonneg _ (by decide),Int.emod_lt_of_pos _ (by decide)⟩
def Tryz.zaq (xs:List Int):List Value:=xs.map fun x=> .int .u8 x
theorem Tryz.zwX:(prog.info? 5).map (fun i=>(i.zero,i.size,i.bytes))=some (some (.int .u8 0),1,1):=by kernel_rfl
def Tryz.Pt.bytes (p:Pt):List Int:=bytesOf p.a 8++bytesOf p.ln 4++bytesOf p.f 2++bytesOf p.nx 2
theorem Tryz.Pt.bytes_len (p:Pt):p.bytes.length=16:=by simp [Pt.bytes,zbB]
theorem Tryz.Pt.bytes_bnd (p:Pt): ∀x∈p.bytes,0≤x∧x<256:=fun x hx=>by
 unfold Pt.bytes at hx;rw [List.mem_append,List.mem_append,List.mem_append] at hx;rcases hx with ((h|h)|h)|h<;>exact zmg _ _ x h
structure Tryz.Pt.ok (p:Pt):Prop where
 a:0≤p.a∧p.a<18446744073709551616
 ln:0≤p.ln∧p.ln<4294967296
 f:0≤p.f∧p.f<65536
 nx:0≤p.nx∧p.nx<65536
theorem Tryz.zgS: ∀(ps:List Pt) (k:Nat) (hk:k<ps.length) (j:Nat),j<5→(zbz ps)[5*k+j]? =ps[k].cells[j]?
 | p::ps,0,_,j,hj=>by
  simp only [zbz,List.flatMap_cons,Nat.mul_zero,Nat.zero_add,List.getElem_cons_zero];rw [List.getElem?_append_left (by simp [Pt.cells];omega)]
 | p::ps,k+1,hk,j,hj=>by
  have:=zgS ps k (by simpa using hk) j hj;simp only [zbz,List.flatMap_cons,List.getElem_cons_succ] at this ⊢;rw [List.getElem?_append_right (by simp [Pt.cells];omega),←this];congr 1;simp [Pt.cells];omega
theorem Tryz.znh {w:World} {G o:Nat} {ps:List Pt} (h:w.rangeAt G o (zbz ps)) (k:Nat) (hk:k<ps.length):w.rangeAt G (o+5*k) ps[k].cells:=fun j v hv=>by
 have hj:j<5:=by
  have:=(List.getElem?_eq_some_iff.1 hv).1;simpa [Pt.cells] using this
 have:=h (5*k+j) v (by rw [zgS ps k hk j hj];exact hv);rw [show o+5*k+j=o+(5*k+j) by omega];exact this
def Tryz.zdC (d:Int) (ps:List Pt) (g:Nat→Int):Nat→Int:=ps.foldl (fun g p=>putL g (d+16*p.at0).toNat p.bytes) g
theorem Tryz.zoD (d:Int) (ps:List Pt) (p:Pt) (g:Nat→Int):zdC d (ps++ [p]) g=putL (zdC d ps g) (d+16*p.at0).toNat p.bytes:=by simp [zdC]
theorem Tryz.zeW {ids:List Int} {l:List Sg} {m:Int} (hil:ids.length=l.length) (hok: ∀x∈l,x.ok) (hin: ∀x∈ids,0≤x∧x<m): ∀p∈za6 ids l l.length,p.ok∧0≤p.at0∧p.at0<m:=fun p hp=>by
 obtain ⟨k,hk,rfl⟩:=List.mem_map.1 hp;have hk:k<l.length:=List.mem_range.1 hk;have h1:=hok l[k] (List.getElem_mem hk);have h2:=hin ids[k] (List.getElem_mem (by omega));have e1:l.getD k ⟨0,0,false⟩=l[k]:=by simp [List.getD_eq_getElem?_getD,hk]
 have e2:ids.getD k 0=ids[k]:=by simp [List.getD_eq_getElem?_getD,hil,hk]
 refine ⟨⟨?_,?_,?_,?_⟩,?_⟩
 ·simp only [putAt,e1];exact ⟨h1.1,h1.2.1⟩
 ·simp only [putAt,e1];exact ⟨h1.2.2.1,h1.2.2.2⟩
 ·simp only [putAt];split<;>split<;>omega
 ·simp only [putAt];split<;>omega
 ·simp only [putAt,e2];exact h2
end Go.Proofs
namespace Go.Proofs
open Go.Dw Go.RowKit
theorem Tryz.zcj {g:Nat→Int} {a:Nat} {v:Int}: ∀ {n:Nat},0≤v→(∀i,i<n→g (a+i)=v/2^(8*i)%256)→zaf g a n=v%256^n
 | 0,_,_=>by simp [zaf,Int.emod_one]
 | n+1,h0,h=>by
  have ih:=zcj (n:=n) h0 fun i hi=>h i (by omega);unfold zaf;rw [ih,h n (by omega)];have e:(2:Int)^(8*n)=256^n:=by rw [Int.pow_mul];rfl
  rw [e];have hp:(0:Int)<256^n:=Int.pow_pos (by decide);have h1:=Int.emod_add_mul_ediv v (256^n);have h2:=Int.emod_add_mul_ediv (v/256^n) 256;have h3:=Int.emod_add_mul_ediv v (256^(n+1));have h4:v/256^(n+1)=v/256^n/256:=by
   rw [Int.pow_succ,Int.ediv_ediv_of_nonneg (by omega)]
  rw [h4] at h3;have h5:(256:Int)^(n+1)=256^n*256:=Int.pow_succ ..;rw [h5] at h3 ⊢;have h6:(256:Int)^n*256*(v/256^n/256)=256^n*(256*(v/256^n/256)):=by rw [Int.mul_assoc]
  have h7:(256:Int)^n*(v/256^n)=256^n*(v/256^n%256)+256^n*(256*(v/256^n/256)):=by rw [←Int.mul_add,h2]
  have h8:v/256^n%256*256^n=256^n*(v/256^n%256):=Int.mul_comm ..;rw [h8];omega
theorem Tryz.zeG {g g':Nat→Int} {a:Nat}: ∀ {n:Nat},(∀i,i<n→g' (a+i)=g (a+i))→zaf g' a n=zaf g a n
 | 0,_=>rfl
 | n+1,h=>by
  unfold zaf;rw [zeG (n:=n) fun i hi=>h i (by omega),h n (by omega)]
theorem Tryz.zgg {g:Nat→Int} {a n:Nat} {v:Int} (h0:0≤v):zaf (putW g a n v) a n=v%256^n:=
 zcj h0 fun i hi=>by
  unfold putW;rw [if_pos ⟨by omega,by omega⟩,Nat.add_sub_cancel_left]
theorem Tryz.zen {g:Nat→Int} {a n b m:Nat} {v:Int} (h:a+n≤b∨b+m≤a):zaf (putW g b m v) a n=zaf g a n:=
 zeG fun i hi=>by
  unfold putW;rw [if_neg (by omega)]
structure Tryz.PtAt (g:Nat→Int) (a:Nat) (p:Pt):Prop where
 w: ∀i,i<16→g (a+i)=p.bytes.getD i 0
theorem Tryz.zcE (v:Int) (n i:Nat) (h:i<n):(bytesOf v n).getD i 0=v/2^(8*i)%256:=by
 simp [bytesOf,h]
theorem Tryz.PtAt.words {g:Nat→Int} {a:Nat} {p:Pt} (h:PtAt g a p) (hp:p.ok):zaf g a 8=p.a∧zaf g (a+8) 4=p.ln∧zaf g (a+12) 2=p.f∧zaf g (a+14) 2=p.nx:=by
 have L8:=zbB p.a 8;have L4:=zbB p.ln 4;have L2:=zbB p.f 2;have M2:=zbB p.nx 2;have b: ∀i,i<16→p.bytes.getD i 0=if i<8 then p.a/2^(8*i)%256 else if i<12 then p.ln/2^(8*(i-8))%256 else if i<14 then p.f/2^(8*(i-12))%256 else p.nx/2^(8*(i-14))%256:=fun i hi=>by
  unfold Pt.bytes;simp only [List.getD_eq_getElem?_getD];by_cases h1:i<8
  ·rw [if_pos h1,List.getElem?_append_left (by simp only [List.length_append,L8,L4,L2];omega),List.getElem?_append_left (by simp only [List.length_append,L8,L4];omega),List.getElem?_append_left (by omega),←List.getD_eq_getElem?_getD,zcE _ _ _ h1]
  ·rw [if_neg h1];by_cases h2:i<12
   ·rw [if_pos h2,List.getElem?_append_left (by simp only [List.length_append,L8,L4,L2];omega),List.getElem?_append_left (by simp only [List.length_append,L8,L4];omega),List.getElem?_append_right (by omega),L8,←List.getD_eq_getElem?_getD,zcE _ _ _ (by omega)]
   ·rw [if_neg h2];by_cases h3:i<14
    ·rw [if_pos h3,List.getElem?_append_left (by simp only [List.length_append,L8,L4,L2];omega),List.getElem?_append_right (by simp only [List.length_append,L8,L4];omega),←List.getD_eq_getElem?_getD];simp only [List.length_append,L8,L4];rw [show i-(8+4)=i-12 by omega,zcE _ _ _ (by omega)]
    ·rw [if_neg h3,List.getElem?_append_right (by simp only [List.length_append,L8,L4,L2];omega),←List.getD_eq_getElem?_getD];simp only [List.length_append,L8,L4,L2];rw [show i-(8+4+2)=i-14 by omega,zcE _ _ _ (by omega)]
 refine ⟨?_,?_,?_,?_⟩
 ·rw [zcj hp.a.1 fun i hi=>by rw [h.w i (by omega),b i (by omega),if_pos hi]];exact Int.emod_eq_of_lt hp.a.1 (by have:=hp.a.2;simpa using this)
 ·rw [zcj hp.ln.1 fun i hi=>by rw [Nat.add_assoc,h.w (8+i) (by omega),b (8+i) (by omega),if_neg (by omega),if_pos (by omega),Nat.add_sub_cancel_left]];exact Int.emod_eq_of_lt hp.ln.1 (by have:=hp.ln.2;simpa using this)
 ·rw [zcj hp.f.1 fun i hi=>by rw [Nat.add_assoc,h.w (12+i) (by omega),b (12+i) (by omega),if_neg (by omega),if_neg (by omega),if_pos (by omega),Nat.add_sub_cancel_left]];exact Int.emod_eq_of_lt hp.f.1 (by have:=hp.f.2;simpa using this)
 ·rw [zcj hp.nx.1 fun i hi=>by rw [Nat.add_assoc,h.w (14+i) (by omega),b (14+i) (by omega),if_neg (by omega),if_neg (by omega),if_neg (by omega),Nat.add_sub_cancel_left]];exact Int.emod_eq_of_lt hp.nx.1 (by have:=hp.nx.2;simpa using this)
theorem Tryz.zlD {d:Int} (hd:0≤d): ∀ {ps:List Pt} {g:Nat→Int},(ps.map (·.at0)).Nodup→(∀p∈ps,0≤p.at0)→
  (∀ p∈ps,PtAt (zdC d ps g) (d+16*p.at0).toNat p)∧(∀j:Nat,(∀p∈ps,(j:Int)<d+16*p.at0∨d+16*p.at0+16≤(j:Int))→zdC d ps g j=g j)
 | [], g,_,_=>⟨fun p hp=>(by cases hp),fun j _=>rfl⟩
 | q::ps,g,hn,h0=>by
  rw [List.map_cons,List.nodup_cons] at hn;have hq:=h0 q (List.mem_cons_self ..);obtain ⟨i1,i2⟩:=zlD hd (ps:=ps) (g:=putL g (d+16*q.at0).toNat q.bytes) hn.2 fun p hp=>h0 p (List.mem_cons_of_mem _ hp);have e:zdC d (q::ps) g=zdC d ps (putL g (d+16*q.at0).toNat q.bytes):=rfl;have hql:=Pt.bytes_len q;have hap: ∀p∈ps,p.at0≠q.at0:=fun p hp hh=>hn.1 (hh▸List.mem_map_of_mem hp);rw [e];refine ⟨fun p hp=> ?_,fun j hj=> ?_⟩
  ·rcases List.mem_cons.1 hp with rfl|hp
   ·refine ⟨fun i hi=> ?_⟩;rw [i2 _ fun p' hp'=> ?_,zgR,if_pos ⟨by omega,by omega⟩,Nat.add_sub_cancel_left];have h1:=hap p' hp';have h2:=h0 p' (List.mem_cons_of_mem _ hp');omega
   ·exact i1 p hp
  ·rw [i2 j fun p hp=>hj p (List.mem_cons_of_mem _ hp),zgR,if_neg];have:=hj q (List.mem_cons_self ..);omega
theorem Tryz.zsZ {ids:List Int} {l:List Sg} {k:Nat} (hil:ids.length=l.length) (hok: ∀x∈l,x.ok) (hin: ∀x∈ids,0≤x∧x<32768) (hk:k<l.length):(putAt ids l k).ok∧0≤(putAt ids l k).at0∧(putAt ids l k).at0<32768:=
 zeW hil hok hin _ (List.mem_map.2 ⟨k,List.mem_range.2 hk,rfl⟩)
theorem Tryz.zfG {N:Nat} {g:Nat→Int} {tab:Int→Int→Int→WS→WS} {at0 size:Int} {ids:List Int} {l:List Sg} (hil:ids.length=l.length) (hnd:ids.Nodup) (hin: ∀x∈ids,0≤x∧x<size) (hsz:size≤32768) (h0:0≤at0) (hfit:at0+16*size≤N) (hN:N≤1048576) (hok: ∀x∈l,x.ok)
  (hat: ∀k,k<l.length→PtAt g (at0+16*ids.getD k 0).toNat (putAt ids l k)): ∀(m f k:Nat),k+m=l.length→1≤m→m≤f→
   za0 N g tab f at0 size (ids.getD k 0) (ids.take k).reverse ⟨l.take k,k,0⟩=⟨l,l.length,0⟩
 | m,0,k,_,h1,h2=>by omega
 | m,f+1,k,hkm,h1,h2=>by
  have hk:k<l.length:=by omega
  have hki:k<ids.length:=by omega
  have gk:ids.getD k 0=ids[k]:=by simp [List.getD_eq_getElem?_getD,hki]
  have lk:l.getD k ⟨0,0,false⟩=l[k]:=by simp [List.getD_eq_getElem?_getD,hk]
  have hb:=hin ids[k] (List.getElem_mem hki);obtain ⟨hp,_,_⟩:=zsZ hil hok (fun x hx=>⟨(hin x hx).1,by have:=(hin x hx).2;omega⟩) hk;obtain ⟨w1,w2,w3,w4⟩:=(hat k hk).words hp;have hns:ids.getD k 0∉(ids.take k).reverse:=by
   rw [gk,List.mem_reverse];intro hh;obtain ⟨i,hi,he⟩:=List.mem_iff_getElem.1 hh;rw [List.getElem_take] at he;have hi':i<k:=by simp at hi;omega
   have hne:=(List.pairwise_iff_getElem.1 hnd) i k (by omega) hki hi';exact hne he
  have hm:(at0+16*ids.getD k 0)%18446744073709551616=at0+16*ids.getD k 0:=Int.emod_eq_of_lt (by rw [gk];omega) (by rw [gk];omega);have e3:(putAt ids l k).f=(if (l.getD k ⟨0,0,false⟩).wr then 2 else 0)+(if k+1<l.length then 1 else 0):=rfl;have hf4:(putAt ids l k).f/4%2=0:=by rw [e3];split<;>split<;>decide
  have hsg:zhJ g (at0+16*ids.getD k 0).toNat=l[k]:=by
   unfold zhJ;rw [w1,w2,w3,e3];show (⟨(l.getD k ⟨0,0,false⟩).at1,(l.getD k ⟨0,0,false⟩).len,_⟩:Sg)=l[k];rw [lk];rcases l[k] with ⟨a,b,wr⟩;cases wr<;>by_cases hh:k+1<l.length<;>simp [hh]
  unfold za0;rw [if_neg (by rw [not_or];exact ⟨hns,by rw [gk];omega⟩),hm,if_neg (by rw [gk,Classical.not_not];omega),w3,if_neg (by rw [hf4];decide),hsg,w4];by_cases hlast:k+1<l.length
  ·rw [if_neg (by rw [e3,if_pos hlast];split<;>decide)];have hnx:(putAt ids l k).nx=ids.getD (k+1) 0:=by
    show (if k+1<l.length then ids.getD (k+1) 0%65536 else 0)=_;rw [if_pos hlast];have hki1:k+1<ids.length:=by omega
    have gk1:ids.getD (k+1) 0=ids[k+1]:=by simp [List.getD_eq_getElem?_getD,hki1]
    have:=hin ids[k+1] (List.getElem_mem hki1);rw [gk1];exact Int.emod_eq_of_lt this.1 (by omega)
   rw [hnx];have:=zfG hil hnd hin hsz h0 hfit hN hok hat (m-1) f (k+1) (by omega) (by omega) (by omega) (tab:=tab);rw [←this];congr 1
   ·rw [List.take_succ_eq_append_getElem hki,List.reverse_append,gk];rfl
   ·rw [List.take_succ_eq_append_getElem hk];rfl
  ·rw [if_pos (by rw [e3,if_neg hlast];split<;>decide)];have hkl:k+1=l.length:=by omega
   have:l.take k++ [l[k]]=l:=by rw [←List.take_succ_eq_append_getElem hk,hkl,List.take_length]
   rw [this];show (⟨l,(k:Int)+1,0⟩:WS)=⟨l,l.length,0⟩;rw [←hkl];rfl
structure Tryz.SO where
 ids:List Int
 tk:Int
def Tryz.SO.head (e:SO):Int:=e.ids.headD 0
structure Tryz.SD where
 ev:Bool
 tb:Bool
 F:List Int
 L:List SO
 av:Int
 sn:Int
 ph:Nat
 op:Int
 nn:Bool
 tok:Int
 wr:Int
 kk:Bool
 dn:Bool
 br:Bool
 c:SO
 sg:List Sg
def Tryz.SD.goto (s:SD) (k:Nat):SD:= { s with ph:=k,dn:=false }
def Tryz.SD.stop (s:SD):SD:= { s with ph:=0,dn:=true }
def Tryz.SD.brk (s:SD):SD:= { s with br:=true,ph:=0,dn:=false,op:=0,nn:=false,tok:=0,wr:=0,kk:=false }
def Tryz.zbb (L:List SO) (k:Int):Option SO:=L.find? fun e=>e.head==k
def Tryz.zbQ (L:List SO) (k:Int):List SO:=L.eraseP fun e=>e.head==k
def Tryz.SD.tab (s:SD) (l:List Sg):Bool:=s.tb&&decide (1<l.length)
def Tryz.zcS (id:Int):Int:=20000+1024*id
def Tryz.zaN (l:List Sg):List Int:=(za6 ((List.range l.length).map fun (i:Nat)=>(i:Int)) l l.length).flatMap Pt.bytes
def Tryz.zdI (id:Int) (n:Nat):Pt:=⟨id,zcS id,16*n,4,0⟩
def Tryz.SD.need (s:SD) (l:List Sg):Nat:=if s.tab l then 1 else l.length
def Tryz.zbG (N:Nat) (s:SD) (t:Int) (l:List Sg):Int×SD:=
 if s.br then (4,s) else if s.ph≠0 then (8,s)
 else if t<0∨s.L.any (fun e=>e.tk==t) then (2,s)
 else if zbs N l≠0 then (zbs N l,s)
 else if l.length=0 then (2,s)
 else if s.F.length<s.need l then (7,s)
 else (0,{ s with c:=⟨s.F.take (s.need l),t⟩,sg:=l,F:=s.F.drop (s.need l),L:=s.L++ [⟨s.F.take (s.need l),t⟩],ph:=1,dn:=false,op:=1,nn:=false,tok:=t,wr:=0,kk:=false })
def Tryz.za9 (s:SD):Int×SD:=
 if s.br then (4,s) else if s.ph≠0 then (8,s) else (0,{ s with ph:=11,dn:=false,op:=2,nn:=false,tok:=0,wr:=0,kk:=false })
def Tryz.SD.puts (s:SD):List Pt:=if s.tab s.sg then [zdI s.c.head s.sg.length] else za6 s.c.ids s.sg s.sg.length
def Tryz.zdg (r:Rg) (s:SD) (g:Nat→Int):Nat→Int:=
 zdC r.d s.puts (if s.tab s.sg then putL g (zcS s.c.head).toNat (zaN s.sg) else g)
def Tryz.zaG (r:Rg) (s:SD) (g:Nat→Int):Int:=(zaf g (r.c+2).toNat 2-s.sn)%65536
def Tryz.zlX (e new old:Int):Bool:=decide ((new-e-1)%65536<(new-old)%65536)
def Tryz.zcl (r:Rg) (s:SD) (g:Nat→Int) (ph:Nat):Value×Int×SD×(Nat→Int):=
 let acc:=fun (k what i:Int)=>Value.agg #[.int .i64 k,.int .i64 what,.int .i64 i]
 match ph with
 | 1=>(acc 1 0 0,0,s.goto 2,zdg r s g)
 | 2=>(acc 3 4 (s.av%r.n),0,s.goto 3,putW g (r.v+4+2*(s.av%r.n)).toNat 2 s.c.head)
 | 3=>(acc 4 0 0,0,s.goto 4,g)
 | 4=>(acc 3 3 0,0,({ s with av:=(s.av+1)%65536 }:SD).goto 5,putW g (r.v+2).toNat 2 ((s.av+1)%65536))
 | 5=>(acc 4 0 0,0,s.goto 6,g)
 | 6=>
  if s.ev then (acc 2 9 0,0,({ s with kk:=zlX (zaf g (r.c+4+8*r.n).toNat 2) s.av ((s.av-1)%65536) }:SD).stop,g)
  else (acc 2 6 0,0,({ s with kk:=decide (zaf g r.c.toNat 2%2=0) }:SD).stop,g)
 | 11=>if r.n<zaG r s g then (acc 2 7 0,4,s.brk,g) else (acc 2 7 0,0,if 0<zaG r s g then s.goto 15 else if s.ev then s.goto 12 else ({ s with nn:=true }:SD).stop,g)
 | 12=>(acc 3 5 0,0,s.goto 13,putW g (r.v+4+2*r.n).toNat 2 s.sn)
 | 13=>(acc 4 0 0,0,s.goto 14,g)
 | 14=>if r.n<zaG r s g then (acc 2 7 0,4,s.brk,g) else (acc 2 7 0,0,if 0<zaG r s g then s.goto 15 else ({ s with nn:=true }:SD).stop,g)
 | 15=>(acc 4 0 0,0,s.goto 16,g)
 | _=>
  let w:=zaf g (r.c+4+8*(s.sn%r.n)).toNat 8
  match zbb s.L (w%4294967296) with
  | none=>(acc 2 8 (s.sn%r.n),4,s.brk,g)
  | some e=>(acc 2 8 (s.sn%r.n),0,({ s with tok:=e.tk,wr:=w/4294967296,F:=e.ids++s.F,L:=zbQ s.L e.head,sn:=(s.sn+1)%65536 }:SD).stop,g)
def Tryz.zay (r:Rg) (s:SD) (g:Nat→Int):Value×Int×SD×(Nat→Int):=
 if s.br then (.agg #[.int .i64 0,.int .i64 0,.int .i64 0],4,s,g) else if s.ph=0 then (.agg #[.int .i64 0,.int .i64 0,.int .i64 0],8,s,g) else zcl r s g s.ph
def Tryz.SD.out (s:SD):Value:=if s.ph=0∧s.dn=true then .agg #[.int .i64 s.op,.bool s.nn,.int .i64 s.tok,.int .u32 s.wr,.bool s.kk] else .agg #[.int .i64 0,.bool false,.int .i64 0,.int .u32 0,.bool false]
def Tryz.SD.has (s:SD):Bool:=decide (s.ph=0)&&s.dn
def Tryz.SD.fresh (ev tb:Bool) (n:Nat):SD:=⟨ev,tb,(List.range n).map fun (i:Nat)=>(i:Int),[],0,0,0,0,false,0,0,false,false,false,⟨[],0⟩,[]⟩
def Tryz.SD.outs (s:SD):List Int:=(s.L.map (·.tk)).mergeSort leI
structure Tryz.SDB (n:Nat) (s:SD):Prop where
 av:0≤s.av∧s.av<65536
 sn:0≤s.sn∧s.sn<65536
 wr:0≤s.wr∧s.wr<4294967296
 nd:(s.F++s.L.flatMap (·.ids)).Nodup
 lo: ∀x∈s.F++s.L.flatMap (·.ids),0≤x∧x<n
 all:(s.F++s.L.flatMap (·.ids)).length=n
 ne: ∀e∈s.L,e.ids≠ []
 tk:(s.L.map (·.tk)).Nodup
 ph:s.ph≤6∨(11≤s.ph∧s.ph≤16)
 cw:1≤s.ph→s.ph≤6→s.c∈s.L∧s.c.ids.length=s.need s.sg∧(1≤s.sg.length∧s.sg.length≤64)∧(∀x∈s.sg,x.ok)∧zaO s.sg=0
theorem Tryz.zkN {α:Type} {p:α→Bool} {e:α}: ∀ {L:List α},L.find? p=some e→L.Perm (e::L.eraseP p)
 | [], h=>by cases h
 | x::r,h=>by
  rw [List.find?_cons] at h;by_cases hx:p x=true
  ·rw [hx] at h;cases h;rw [List.eraseP_cons_of_pos hx]
  ·rw [Bool.not_eq_true] at hx;rw [hx] at h;rw [List.eraseP_cons_of_neg (by rw [hx];decide)];exact ((zkN h).cons x).trans (.swap e x _)
theorem Tryz.zfi {L:List SO} {k:Int} {e:SO} (h:zbb L k=some e):e∈L∧e.head=k:=⟨List.mem_of_find?_eq_some h,by simpa using List.find?_some h⟩
theorem Tryz.zop {L:List SO} {k:Int} {e:SO} (h:zbb L k=some e):L.Perm (e::zbQ L e.head):=by
 have:=zkN h;unfold zbQ;rw [(zfi h).2];exact this
theorem Tryz.zlH (s:SD) (l:List Sg) (h:l.length≠0):1≤s.need l∧s.need l≤l.length:=by
 unfold SD.need;split<;>omega
theorem Tryz.SDB.perm {n:Nat} {s s':SD} (h:SDB n s) (hp:(s.F++s.L.flatMap (·.ids)).Perm (s'.F++s'.L.flatMap (·.ids))) (h1:0≤s'.av∧s'.av<65536) (h2:0≤s'.sn∧s'.sn<65536) (h3:0≤s'.wr∧s'.wr<4294967296) (h4: ∀e∈s'.L,e.ids≠ []) (h5:(s'.L.map (·.tk)).Nodup) (h6:s'.ph≤6∨(11≤s'.ph∧s'.ph≤16)) (h7:1≤s'.ph→s'.ph≤6→s'.c∈s'.L∧s'.c.ids.length=s'.need s'.sg∧(1≤s'.sg.length∧s'.sg.length≤64)∧(∀x∈s'.sg,x.ok)∧zaO s'.sg=0):SDB n s':=
 ⟨h1,h2,h3,hp.nodup_iff.1 h.nd,fun x hx=>h.lo x (hp.mem_iff.2 hx),by rw [←hp.length_eq];exact h.all,h4,h5,h6,h7⟩
theorem Tryz.SDB.like {n:Nat} {s s':SD} (h:SDB n s) (h1:s'.F=s.F) (h2:s'.L=s.L) (h3:0≤s'.av∧s'.av<65536) (h4:0≤s'.sn∧s'.sn<65536) (h5:0≤s'.wr∧s'.wr<4294967296) (h6:s'.ph≤6∨(11≤s'.ph∧s'.ph≤16)) (h7:1≤s'.ph→s'.ph≤6→(1≤s.ph∧s.ph≤6)∧s'.c=s.c∧s'.sg=s.sg∧s'.tb=s.tb):SDB n s':=
 h.perm (by rw [h1,h2]) h3 h4 h5 (h2▸h.ne) (h2▸h.tk) h6 fun q1 q2=>by
  obtain ⟨⟨p1,p2⟩,p3,p4,p5⟩:=h7 q1 q2;have:=h.cw p1 p2;have e:s'.need s'.sg=s.need s.sg:=by unfold SD.need SD.tab;rw [p4,p5]
  rw [e,p3,p4,h2];exact this
theorem Tryz.zpS {N:Nat} {l:List Sg} (h:zbs N l=0):l.length≤64∧zaO l=0:=by
 unfold zbs at h;by_cases he:zaO l=0
 ·refine ⟨?_,he⟩;unfold zaO at he;split at he
  ·cases he
  ·omega
 ·simp [he] at h
theorem Tryz.SDB.off {N n:Nat} {s:SD} (h:SDB n s) (t:Int) (l:List Sg) (hok: ∀x∈l,x.ok):SDB n (zbG N s t l).2:=by
 unfold zbG;split
 ·exact h
 ·split
  ·exact h
  ·split
   ·exact h
   ·rename_i ht;split
    ·exact h
    ·rename_i hsi;split
     ·exact h
     ·rename_i hl;split
      ·exact h
      ·rename_i hf;have hn:=zlH s l hl;refine h.perm ?_ h.av h.sn ⟨by show (0:Int)≤0;decide,by show (0:Int)<4294967296;decide⟩ (fun e he=> ?_) ?_ (.inl (by show 1≤6;decide)) fun _ _=> ?_
       ·show (s.F++s.L.flatMap (·.ids)).Perm (s.F.drop (s.need l)++(s.L++([⟨s.F.take (s.need l),t⟩]:List SO)).flatMap (·.ids));rw [List.flatMap_append];simp only [List.flatMap_cons,List.flatMap_nil,List.append_nil]
        conv=>lhs;rw [←List.take_append_drop (s.need l) s.F,List.append_assoc]
        exact List.perm_append_comm.trans (by rw [List.append_assoc])
       ·rcases List.mem_append.1 he with he|he
        ·exact h.ne e he
        ·rw [List.mem_singleton] at he;subst he;intro q;have:=congrArg List.length q;rw [List.length_take,List.length_nil] at this;omega
       ·show ((s.L++([⟨s.F.take (s.need l),t⟩]:List SO)).map (·.tk)).Nodup;rw [List.map_append,List.nodup_append];refine ⟨h.tk,by simp,fun a ha b hb q=>ht (.inr ?_)⟩;simp only [List.map_cons,List.map_nil,List.mem_singleton] at hb;subst hb;subst q;obtain ⟨e,he,rfl⟩:=List.mem_map.1 ha;exact List.any_eq_true.2 ⟨e,he,by simp⟩
       ·obtain ⟨z1,z2⟩:=zpS (by omega:zbs N l=0);refine ⟨List.mem_append_right _ (List.mem_singleton.2 rfl),?_,⟨by show 1≤l.length;omega,z1⟩,hok,z2⟩;show (s.F.take (s.need l)).length=s.need l;rw [List.length_take];omega
theorem Tryz.SDB.recl {n:Nat} {s:SD} (h:SDB n s):SDB n (za9 s).2:=by
 unfold za9;split
 ·exact h
 ·split
  ·exact h
  ·exact h.like rfl rfl h.av h.sn ⟨by show (0:Int)≤0;decide,by show (0:Int)<4294967296;decide⟩ (.inr (by show 11≤11∧11≤16;decide)) fun _ q=>absurd q (by show¬11≤6;decide)
theorem Tryz.SDB.brk {n:Nat} {s:SD} (h:SDB n s):SDB n s.brk:=h.like rfl rfl h.av h.sn ⟨by show (0:Int)≤0;decide,by show (0:Int)<4294967296;decide⟩ (.inl (by show 0≤6;decide)) fun q _=>absurd q (by show¬1≤0;decide)
theorem Tryz.SDB.step {n:Nat} {r:Rg} {s:SD} (h:SDB n s) (g:Nat→Int) (hg: ∀j,0≤g j∧g j<256):SDB n (zay r s g).2.2.1:=by
 unfold zay;split
 ·exact h
 ·split
  ·exact h
  ·have same: ∀k,(k≤6∨(11≤k∧k≤16))→(1≤k→k≤6→1≤s.ph∧s.ph≤6)→SDB n (s.goto k):=fun k q1 q2=>h.like rfl rfl h.av h.sn h.wr q1 fun z1 z2=>⟨q2 z1 z2,rfl,rfl,rfl⟩;have stp: ∀s':SD,s'.F=s.F→s'.L=s.L→s'.av=s.av→s'.sn=s.sn→s'.wr=s.wr→SDB n s'.stop:=fun s' q1 q2 q3 q4 q5=>h.like q1 q2 (by show 0≤s'.av∧s'.av<65536;rw [q3];exact h.av) (by show 0≤s'.sn∧s'.sn<65536;rw [q4];exact h.sn) (by show 0≤s'.wr∧s'.wr<4294967296;rw [q5];exact h.wr) (.inl (by show 0≤6;decide)) fun q _=>absurd q (by show¬1≤0;decide);unfold zcl
   dsimp only
   split
   ·rename_i hp;exact same _ (by decide) fun _ _=>by rw [hp];decide
   ·rename_i hp;exact same _ (by decide) fun _ _=>by rw [hp];decide
   ·rename_i hp;exact same _ (by decide) fun _ _=>by rw [hp];decide
   ·rename_i hp;exact h.like rfl rfl ⟨by show 0≤(s.av+1)%65536;omega,by show (s.av+1)%65536<65536;omega⟩ h.sn h.wr (.inl (by show 5≤6;decide)) fun _ _=>⟨by rw [hp];decide,rfl,rfl,rfl⟩
   ·rename_i hp;exact same _ (by decide) fun _ _=>by rw [hp];decide
   ·split<;>exact stp _ rfl rfl rfl rfl rfl
   ·split
    ·exact h.brk
    ·dsimp only
     split
     ·exact same _ (by decide) fun _ q=>absurd q (by decide)
     ·split
      ·exact same _ (by decide) fun _ q=>absurd q (by decide)
      ·exact stp _ rfl rfl rfl rfl rfl
   ·exact same _ (by decide) fun _ q=>absurd q (by decide)
   ·exact same _ (by decide) fun _ q=>absurd q (by decide)
   ·split
    ·exact h.brk
    ·dsimp only
     split
     ·exact same _ (by decide) fun _ q=>absurd q (by decide)
     ·exact stp _ rfl rfl rfl rfl rfl
   ·exact same _ (by decide) fun _ q=>absurd q (by decide)
   ·split
    ·exact h.brk
    ·rename_i e he;have hb:=zav g hg (r.c+4+8*(s.sn%r.n)).toNat 8;have hp:=zop he;refine h.perm ?_ h.av ⟨by show 0≤(s.sn+1)%65536;omega,by show (s.sn+1)%65536<65536;omega⟩ ⟨?_,?_⟩ (fun x hx=>h.ne x (hp.mem_iff.2 (.tail _ hx))) ?_ (.inl (by show 0≤6;decide)) fun q _=>absurd q (by show¬1≤0;decide)
     ·show (s.F++s.L.flatMap (·.ids)).Perm ((e.ids++s.F)++(zbQ s.L e.head).flatMap (·.ids));refine (List.Perm.append_left s.F (hp.flatMap_right _)).trans ?_;simp only [List.flatMap_cons];rw [←List.append_assoc];exact List.Perm.append_right _ List.perm_append_comm
     ·show 0≤zaf g (r.c+4+8*(s.sn%r.n)).toNat 8/4294967296;have:=hb.1;omega
     ·show zaf g (r.c+4+8*(s.sn%r.n)).toNat 8/4294967296<4294967296;have:=hb.2;simp at this;omega
     ·have:=(hp.map (·.tk)).nodup_iff.1 h.tk;exact (List.nodup_cons.1 this).2
theorem Tryz.SDB.fresh (ev tb:Bool) (n:Nat):SDB n (SD.fresh ev tb n):=by
 refine ⟨⟨Int.le_refl _,by show (0:Int)<65536;decide⟩,⟨Int.le_refl _,by show (0:Int)<65536;decide⟩,⟨Int.le_refl _,by show (0:Int)<4294967296;decide⟩,?_,fun x hx=> ?_,?_,fun e he=>(by cases he),by simp [SD.fresh],.inl (Nat.zero_le _),fun q=>absurd q (by show¬1≤0;decide)⟩
 ·show (((List.range n).map fun (i:Nat)=>(i:Int))++ []).Nodup;rw [List.append_nil];exact List.Pairwise.map _ (fun a b (h:a≠b)=>by show (a:Int)≠(b:Int);omega) List.nodup_range
 ·have hx:x∈((List.range n).map fun (i:Nat)=>(i:Int))++ []:=hx;rw [List.append_nil] at hx;obtain ⟨i,hi,rfl⟩:=List.mem_map.1 hx;have:=List.mem_range.1 hi;omega
 ·show (((List.range n).map fun (i:Nat)=>(i:Int))++ []).length=n;simp
theorem Tryz.zhw {N:Nat} {g:Nat→Int} (d:Int): ∀(f:Nat) (at0 size k:Int) (seen:List Int) (s:WS),
  za0 N g zfg f at0 size k seen ⟨s.segs,s.n+d,s.e⟩=⟨(za0 N g zfg f at0 size k seen s).segs,(za0 N g zfg f at0 size k seen s).n+d,(za0 N g zfg f at0 size k seen s).e⟩
 | 0,_,_,_,_,_=>rfl
 | f+1,at0,size,k,seen,s=>by
  unfold za0;split
  ·rfl
  ·split
   ·rfl
   ·split
    ·show (⟨s.segs,s.n+d+1,4⟩:WS)=⟨s.segs,s.n+1+d,4⟩;congr 1;omega
    ·split
     ·show (⟨_,s.n+d+1,_⟩:WS)=⟨_,s.n+1+d,_⟩;congr 1;omega
     ·rw [show s.n+d+1=s.n+1+d by omega];exact zhw d f at0 size _ (k::seen) ⟨s.segs++ [zhJ g ((at0+16*k)%18446744073709551616).toNat],s.n+1,s.e⟩
theorem Tryz.zmW {N:Nat} {l:List Sg} (hne:l≠ []) (hin:zbs N l=0):zg8 N l=0:=by
 have hse:zaO l=0:=by
  unfold zbs at hin;split at hin
  ·assumption
  ·exact hin
 unfold zg8;rw [if_neg (by rw [not_or];exact ⟨hne,by rw [Classical.not_not];exact hse⟩)];exact hin
theorem Tryz.zok {N:Nat} {g:Nat→Int} {r:Rg} {ids:List Int} {l:List Sg} (hb:1≤r.n∧r.n≤32768) (hd0:0≤r.d) (hfit:r.d+16*r.n≤N) (hN:N≤1048576) (hil:ids.length=l.length) (hln:(l.length:Int)≤r.n) (hnd:ids.Nodup) (hin: ∀x∈ids,0≤x∧x<r.n) (hok: ∀x∈l,x.ok) (hne:l≠ []) (hsi:zbs N l=0) (tb:Bool)
  (hat: ∀k,k<l.length→PtAt g (r.d+16*ids.getD k 0).toNat (putAt ids l k)):zda N g r (ids.getD 0 0) tb=(l,0):=by
 have hlp:0<l.length:=List.length_pos_iff.2 hne;have hsR:zbi N g r (ids.getD 0 0) tb=⟨l,l.length,0⟩:=by
  unfold zbi;exact zfG hil hnd hin hb.2 hd0 hfit hN hok hat l.length (r.n.toNat+1) 0 (by omega) (by omega) (by omega)
 unfold zda;rw [hsR];simp only [if_true,zmW hne hsi]
def Tryz.upto (n:Nat):List Int:=(List.range n).map fun (i:Nat)=>(i:Int)
theorem Tryz.ziG (n:Nat):(upto n).length=n:=by simp [upto]
theorem Tryz.ziH {n k:Nat} (h:k<n):(upto n).getD k 0=k:=by simp [upto,List.getD_eq_getElem?_getD,h]
theorem Tryz.zuI (n:Nat):(upto n).Nodup:=List.Pairwise.map _ (fun a b (h:a≠b)=>by show (a:Int)≠(b:Int);omega) List.nodup_range
theorem Tryz.zpu {n:Nat}: ∀x∈upto n,0≤x∧x<n:=fun x hx=>by
 obtain ⟨i,hi,rfl⟩:=List.mem_map.1 hx;have:=List.mem_range.1 hi;omega
theorem Tryz.zpI {N:Nat} {g:Nat→Int} {r:Rg} {id A:Int} {l:List Sg} (hb:1≤r.n∧r.n≤32768) (hd0:0≤r.d) (hfit:r.d+16*r.n≤N) (hN:N≤1048576) (hid:0≤id∧id<r.n) (hA:0≤A∧A+16*l.length≤N) (hl64:l.length≤64) (hok: ∀x∈l,x.ok) (hne:l≠ []) (hsi:zbs N l=0)
  (hone:PtAt g (r.d+16*id).toNat ⟨id,A,16*l.length,4,0⟩) (hat: ∀k,k<l.length→PtAt g (A+16*(k:Int)).toNat (putAt (upto l.length) l k)):zda N g r id true=(l,0):=by
 have hlp:0<l.length:=List.length_pos_iff.2 hne;obtain ⟨w1,w2,w3,w4⟩:=hone.words ⟨⟨hA.1,by show A<18446744073709551616;omega⟩,⟨by show (0:Int)≤16*l.length;omega,by show (16*l.length:Int)<4294967296;omega⟩,⟨by show (0:Int)≤4;decide,by show (4:Int)<65536;decide⟩,⟨by show (0:Int)≤0;decide,by show (0:Int)<65536;decide⟩⟩;have hent:entN N A (16*l.length)=((l.length:Int),0):=by
  unfold entN;rw [if_neg (by rw [not_or,not_or];exact ⟨by omega,by omega,by omega⟩),if_pos (by omega),show (16*(l.length:Int))/16=l.length by omega]
 have hin:za0 N g zfg (l.length+1) A l.length 0 [] ⟨[],1,0⟩=⟨l,l.length+1,0⟩:=by
  have h1:=zfG (tab:=zfg) (ziG l.length) (zuI l.length) (size:=l.length) (zpu) (by omega) hA.1 hA.2 hN hok (fun k hk=>by rw [ziH hk];exact hat k hk) l.length (l.length+1) 0 (by omega) (by omega) (by omega);rw [ziH hlp] at h1;have h2:=zhw (N:=N) (g:=g) 1 (l.length+1) A l.length 0 [] ⟨[],0,0⟩;have h1:za0 N g zfg (l.length+1) A l.length 0 [] ⟨[],0,0⟩=⟨l,l.length,0⟩:=h1;rw [h1] at h2;exact h2
 have hm:(r.d+16*id)%18446744073709551616=r.d+16*id:=Int.emod_eq_of_lt (by omega) (by omega);have hsR:zbi N g r id true=⟨l,l.length+1,0⟩:=by
  unfold zbi za0;rw [if_neg (by rw [not_or];exact ⟨List.not_mem_nil,by omega⟩),hm,if_neg (by rw [Classical.not_not];omega),w3,if_pos (by show (4:Int)/4%2=1;decide),w1,w2];unfold zeJ;rw [if_neg (by show¬(true=false∨ ¬(4:Int)%2=0);decide),hent,if_pos rfl];exact hin
 unfold zda;rw [hsR];simp only [if_true,zmW hne hsi]
end Go.Proofs
end
