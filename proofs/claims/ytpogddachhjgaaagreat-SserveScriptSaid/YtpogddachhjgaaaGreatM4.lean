/-
  Proved: laws on the way to 'SserveScriptProof' (texts WkO WkP WkQ WkR WkS0 WkS1 WkS WkT DwOrc Orc WkU XaB DwArgs DwVal SvJ SvK XaC XaD XaE XaF0 XaF XaG XaH XaI XaJ XaK XaL XaM0 XaM XaN XaO XaP XaR XaS0); no condition.
-/
import Derived.Test.YtpogddachhjgaaaGreatM3
import Derived.Shelf.SlIterI.Nil
import Derived.Shelf.SlIterI.Sorted
import Derived.Lib.SlKeysI
import Derived.Test.YtpogddachhjgaaaGreatProg
import Derived.Shelf.SortM.Plain
import Derived.Shelf.SortM.SortNone
import Derived.KernelRfl
import Derived.Carry
import Derived.OpenShut
import Derived.ProofKit
set_option linter.unusedSimpArgs false
set_option linter.unusedVariables false
set_option maxHeartbeats 4000000
noncomputable section
namespace Go.Proofs
open Go.Dw Go.RowKit
def Tryz.J8 (P L Bs B N:Nat) (g:Nat→Int) (b2:Nat) (table:Bool):Prop:=
 ∀ (x:V6) (v:Value) (s:WS) (w:World) (A cnt:Int),WW w P L Bs B N g b2 x table v s→(s.aQ.length:Int)≤s.n→0≤A→A<18446744073709551616→1≤cnt→cnt≤64→s.n≤150000→
  Calls prog 159 (([.int .u64 A,.int .i64 cnt,.int .i64 0,.bool true]:List Value)++x.caps).toArray w fun e w'=>e= .returned (.tuple #[])∧
   ∃ v',WW w' P L Bs B N g b2 x table v' (fH N g qM (cnt.toNat+1) A cnt 0 [] s)∧(∀b,v'.ownBlock=some b→v.ownBlock=some b∨w.heap.size≤b)∧Dw.Mv (wK x v) w w'
def Tryz.SK (w:World) (P L Bs B N:Nat) (g:Nat→Int) (b2:Nat) (x:V6) (table:Bool) (v:Value) (M:Nat) (aR size k:Int) (inner:Bool) (seen:List Int) (f:Nat) (tab:Int→Int→Int→WS→WS) (s:WS):Exit→Act→World→Prop:=fun ex a' w'=>
 match ex with
 | .normal=> ∃v' s' k',nO w' a' P L Bs B N g b2 x table v' s' M aR size k' inner (k::seen)∧(∀b,v'.ownBlock=some b→v.ownBlock=some b∨w.heap.size≤b)∧Dw.Mv (lY x v M) w w'∧
   fH N g tab (f+1) aR size k seen s=fH N g tab f aR size k' (k::seen) s'∧0≤k'∧k'<65536∧s'.n=s.n+1∧k∉seen∧k<size
 | ex=>ex= .ret∧a'.defers= []∧ ∃v',WW w' P L Bs B N g b2 x table v' (fH N g tab (f+1) aR size k seen s)∧(∀b,v'.ownBlock=some b→v.ownBlock=some b∨w.heap.size≤b)∧Dw.Mv (lY x v M) w w'
section
variable {w:World} {a:Act} {P L Bs B N:Nat} {g:Nat→Int} {b2:Nat} {x:Tryz.V6} {table:Bool} {v:Value} {s:Tryz.WS} {M:Nat} {aR size k:Int} {inner:Bool} {seen:List Int} {f:Nat} {tab:Int→Int→Int→Tryz.WS→Tryz.WS}
theorem Tryz.sD {a':Act} {w':World} {v':Value} {s':WS} (hdf:a'.defers= []) (hs:fH N g tab (f+1) aR size k seen s=s') (h1:WW w' P L Bs B N g b2 x table v' s') (h2: ∀b,v'.ownBlock=some b→v.ownBlock=some b∨w.heap.size≤b) (h3:Dw.Mv (lY x v M) w w'):
  SK w P L Bs B N g b2 x table v M aR size k inner seen f tab s .ret a' w':=⟨rfl,hdf,v',hs▸h1,h2,h3⟩
set_option maxRecDepth 10000 in
theorem Tryz.zym {ρ:Val} {aa:Nat} {Nx jw:Int} {R3:WS} (h:nO w a P L Bs B N g b2 x table v s M aR size k false seen)
  (hd:sM ρ P aR size k s.e s.n (aC g aa 8) (aC g (aa+8) 4) (aC g (aa+12) 2) Nx (dA N (aC g aa 8) (aC g (aa+8) 4)).1 (dA N (aC g aa 8) (aC g (aa+8) 4)).2 jw R3.e R3.n false table v)
  (Dq:fH N g qM ((dA N (aC g aa 8) (aC g (aa+8) 4)).1.toNat+1) (aC g aa 8) (dA N (aC g aa 8) (aC g (aa+8) 4)).1 0 [] ⟨s.aQ,s.n+1,0⟩=R3)
  (hx:(dA N (aC g aa 8) (aC g (aa+8) 4)).2=0) (bA:0≤aC g aa 8∧aC g aa 8<18446744073709551616) (hn:s.n≤100000) (hwn:IntKind.wrap .i64 (s.n+1)=s.n+1) (Ns:J8 P L Bs B N g b2 table):
  Ww prog ρ w (lY x v M) (nR P L Bs B N g b2 w.heap.size v s.aQ aa R3.aQ) jo:=by
 refine ⟨Dw.enters_of (by kernel_rfl),fun j w1 vals F n hv hnone hb hF hsz hrows hne hf=> ?_⟩;have hb:n=10:=hb (by decide);subst hb;obtain ⟨⟨f1,f2,f3,f4,hm⟩,⟨f5,f6⟩,_⟩:=hf;have hcnt:1≤(dA N (aC g aa 8) (aC g (aa+8) 4)).1∧(dA N (aC g aa 8) (aC g (aa+8) 4)).1≤64:=by
  unfold dA at hx ⊢;by_cases h1:aC g (aa+8) 4=0∨ ¬aC g (aa+8) 4%16=0∨64<aC g (aa+8) 4/16
  ·rw [yak h1] at hx;cases hx
  ·rw [yai h1] at hx ⊢;by_cases h2:aC g aa 8+aC g (aa+8) 4≤N
   ·rw [yak h2];have:=(qA g h.ww.mem.byte (aa+8) 4).1;show 1≤aC g (aa+8) 4/16∧aC g (aa+8) 4/16≤64;omega
   ·rw [yai h2] at hx;cases hx
 obtain ⟨L1,vs1,j1,o1,K1,F1,r1,w1'⟩:=hrows (1,[.int .i64 (.var 15)],[.int .i64 (.var 20)]) (by simp [jo]);obtain ⟨L2,vs2,j2,o2,K2,F2,r2,w2'⟩:=hrows (2,[.cst 0 none],[.cst 0 none]) (by simp [jo]);obtain ⟨L3,vs3,j3,o3,K3,F3,r3,w3'⟩:=hrows (3,[.int .i64 (.bin .add .i64 (au 4) (.lit 1))],[.int .i64 (.var 21)]) (by simp [jo]);obtain ⟨L4,vs4,j4,o4,K4,F4,r4,ve⟩:=hrows (4,[.bool (.var 1)],[.bool (.var 1)]) (by simp [jo]);obtain ⟨L5,vs5,j5,o5,K5,F5,r5,vg⟩:=hrows (5,[qb],[qb]) (by simp [jo]);obtain ⟨L6,vs6,j6,o6,K6,F6,r6,vo⟩:=hrows (6,[.cst 1 none],[.opq 10 none]) (by simp [jo]);have j1:j 1=some L1:=j1;have j2:j 2=some L2:=j2;have j3:j 3=some L3:=j3;have j4:j 4=some L4:=j4;have j5:j 5=some L5:=j5;have j6:j 6=some L6:=j6;have dO:=bB j1;have dS:=bB j2;have zw:=bB j3;have zA:=bB j4;have zB:=bB j5;have zC:=bB j6;have w1':=qD w1' (by decide) r1;have w2':=qD w2' (by decide) r2;have w3':=qD w3' (by decide) r3;have ve:=qD ve (by decide) r4;have vg:=qD vg (by decide) r5;have vo:=qD vo (by decide) r6;simp only [AV.aP,AV.val,qb,Cy,dO,dS,zw,zA,zB,zC,o1,o2,o3,o4,o5,o6,ya7,hd.yN,hd.pX,dJ,hd.AP,dW,hd.yP,hx,den_add,hd.pW,zag,hwn] at w1' w2' w3' ve vg vo;have gP: ∀ {p q:Nat} {Lp Lq:Dw.Loc},p∈ [1,2,3,4,5,6]→q∈ [1,2,3,4,5,6]→p≠q→j p=some Lp→j q=some Lq→Lp.blk≠Lq.blk:=fun {p q Lp Lq} hp hq hpq h1 h2=>by
  have hin: ∀t∈ [1,2,3,4,5,6],∃r∈jo.rows,r.1=t:=fun t ht=>by
   simp only [yac,yae,yav] at ht;rcases ht with rfl|rfl|rfl|rfl|rfl|rfl
   ·exact ⟨(1,[.int .i64 (.var 15)],[.int .i64 (.var 20)]),by simp [jo],rfl⟩
   ·exact ⟨(2,[.cst 0 none],[.cst 0 none]),by simp [jo],rfl⟩
   ·exact ⟨(3,[.int .i64 (.bin .add .i64 (au 4) (.lit 1))],[.int .i64 (.var 21)]),by simp [jo],rfl⟩
   ·exact ⟨(4,[.bool (.var 1)],[.bool (.var 1)]),by simp [jo],rfl⟩
   ·exact ⟨(5,[qb],[qb]),by simp [jo],rfl⟩
   ·exact ⟨(6,[.cst 1 none],[.opq 10 none]),by simp [jo],rfl⟩
  obtain ⟨r,hr,rfl⟩:=hin p hp;obtain ⟨r',hr',rfl⟩:=hin q hq;exact hne r hr r' hr' hpq Lp Lq h1 h2
 let x1:V6:=⟨L1.blk,L2.blk,L3.blk,L4.blk,L5.blk,L6.blk⟩
 have tL: ∀b∈x1.l,¬F b:=fun b hb=>by
  simp only [V6.l,x1,yac,yae,yav] at hb;rcases hb with rfl|rfl|rfl|rfl|rfl|rfl<;>assumption
 have hnd:x1.l.Nodup:=by
  simp only [V6.l,x1,ycc,yac,yae,yav,not_or,ycB,yaU,yc0];exact ⟨⟨gP (by simp) (by simp) (by decide) j1 j2,gP (by simp) (by simp) (by decide) j1 j3,gP (by simp) (by simp) (by decide) j1 j4,gP (by simp) (by simp) (by decide) j1 j5,gP (by simp) (by simp) (by decide) j1 j6⟩,
   ⟨gP (by simp) (by simp) (by decide) j2 j3,gP (by simp) (by simp) (by decide) j2 j4,gP (by simp) (by simp) (by decide) j2 j5,gP (by simp) (by simp) (by decide) j2 j6⟩,
   ⟨gP (by simp) (by simp) (by decide) j3 j4,gP (by simp) (by simp) (by decide) j3 j5,gP (by simp) (by simp) (by decide) j3 j6⟩,
   ⟨gP (by simp) (by simp) (by decide) j4 j5,gP (by simp) (by simp) (by decide) j4 j6⟩,gP (by simp) (by simp) (by decide) j5 j6⟩
 have D9:WW w1 P L Bs B N g b2 x1 table v ⟨s.aQ,s.n+1,0⟩:=
  ⟨hm,h.ww.lo,hnd,fun b hb=>⟨fun e=>tL b hb (e▸f1),fun e=>tL b hb (e▸f2),fun e=>tL b hb (e▸f3),fun e=>tL b hb (e▸f4)⟩,w1',w2',w3',ve,vg,vo,f5,fun b hb hbx=>tL b hbx (f6 b hb),h.ww.ok,yau h.ww.hb hsz,by have:=h.ww.n0;show 0≤s.n+1;omega⟩
 have D8:vals=([.int .u64 (aC g aa 8),.int .i64 (dA N (aC g aa 8) (aC g (aa+8) 4)).1,.int .i64 0,.bool true]:List Value)++x1.caps:=by
  have hv:=qU (by decide) hv;rw [hv];simp only [jo,Cy,yb3,ycd,AV.aP,AV.val,hd.GJ,dW,hd.Sr,zag,jO,dO,dS,zw,zA,zB,zC,o1,o2,o3,o4,o5,o6,ya7];rfl
 subst D8;refine yas (Ns x1 v ⟨s.aQ,s.n+1,0⟩ w1 _ _ D9 (by have:=h.nl;show (s.aQ.length:Int)≤s.n+1;omega) bA.1 bA.2 hcnt.1 hcnt.2 (by show s.n+1≤150000;omega)) fun en w' hh=> ?_;obtain ⟨rfl,v',hw',hvb,hmv⟩:=hh;rw [Dq] at hw';have rF:=hw'.row.lt;have hsub: ∀k' L',j k'=some L'→jq j 10 [v'] k'=some L':=fun k' L' e=>by
  unfold jq;by_cases hk':10≤k'∧k'<10+1
  ·have:=hnone k' hk'.1;rw [this] at e;cases e
  ·rw [yai (by simpa using hk')];exact e
 refine ⟨_,[v'],fun b=>F b∨v'.ownBlock=some b,rfl,rfl,oD RL.nil,⟨⟨.inl f1,.inl f2,.inl f3,.inl f4,hw'.mem⟩,v',rW,⟨hw'.row,fun b hb=> .inr hb⟩,fun b hb=> ?_⟩,?_,fun r hr Lr oO=> ?_,hmv.mono fun b hb=> ?_⟩
 ·rcases hvb b hb with h'|h'
  ·exact .inl h'
  ·exact .inr (yau hsz h')
 ·rintro b (hb|hb)
  ·exact ⟨yad (hF b hb) hmv.size,.inl hb⟩
  ·refine ⟨(rF b hb).2.1,?_⟩;rcases hvb b hb with h'|h'
   ·exact .inl (f6 b h')
   ·exact .inr h'
 ·simp only [jo,yac,yae,yav] at hr;rcases hr with rfl|rfl|rfl|rfl|rfl|rfl
  ·have:=j1.symm.trans oO;cases this;exact ⟨_,ai (aA hd.Sw) RL.nil,hw'.oE⟩
  ·have:=j2.symm.trans oO;cases this;exact ⟨_,ai (iB hd.yN rfl) RL.nil,hw'.oM⟩
  ·have:=j3.symm.trans oO;cases this;exact ⟨_,ai (aA hd.Sy) RL.nil,hw'.oN⟩
  ·have:=j4.symm.trans oO;cases this;exact ⟨_,ai (fA hd.AP) RL.nil,hw'.oT⟩
  ·have:=j5.symm.trans oO;cases this;refine ⟨_,ai (jP RL.nil ?_) RL.nil,hw'.oF⟩;have e: ∀(Lx:Dw.Loc),Lx.off=0→(Value.pointer (some ⟨Lx.blk,Lx.off+0,none⟩))=vp Lx.blk:=fun Lx hx=>by rw [hx];rfl
   exact ai ⟨L1,hsub _ _ j1,(e L1 o1).symm⟩ (ai ⟨L2,hsub _ _ j2,(e L2 o2).symm⟩ (ai ⟨L3,hsub _ _ j3,(e L3 o3).symm⟩ (ai ⟨L4,hsub _ _ j4,(e L4 o4).symm⟩ (ai ⟨L5,hsub _ _ j5,(e L5 o5).symm⟩ (ai ⟨L6,hsub _ _ j6,(e L6 o6).symm⟩ RL.nil)))))
  ·have:=j6.symm.trans oO;cases this;refine ⟨_,ai ⟨⟨⟨0,0,0,some v'⟩,?_,rfl⟩,hw'.row.one,fun _ h=>by cases h⟩ RL.nil,hw'.oL⟩;show jq j 10 _ 10=_;unfold jq;rw [yak ⟨yab _,by simp⟩];simp
 ·rcases hb with hb|hb
  ·right;simp only [V6.l,x1,yac,yae,yav] at hb;rcases hb with rfl|rfl|rfl|rfl|rfl|rfl
   ·exact ⟨(1,[.int .i64 (.var 15)],[.int .i64 (.var 20)]),by simp [jo],L1,j1,rfl⟩
   ·exact ⟨(2,[.cst 0 none],[.cst 0 none]),by simp [jo],L2,j2,rfl⟩
   ·exact ⟨(3,[.int .i64 (.bin .add .i64 (au 4) (.lit 1))],[.int .i64 (.var 21)]),by simp [jo],L3,j3,rfl⟩
   ·exact ⟨(4,[.bool (.var 1)],[.bool (.var 1)]),by simp [jo],L4,j4,rfl⟩
   ·exact ⟨(5,[qb],[qb]),by simp [jo],L5,j5,rfl⟩
   ·exact ⟨(6,[.cst 1 none],[.opq 10 none]),by simp [jo],L6,j6,rfl⟩
  ·exact .inl ⟨f6 b hb,.inr (.inl (.inr hb))⟩
theorem Tryz.vK {ρ:Val} {j:J} {n:Nat} {u:Value} (hu:gQ j n=some u):(AV.opq n none).val ρ (dH j)=u:=by
 unfold gQ at hu;show (dH j n).q.getD undef=u;unfold dH;cases hj:j n with
 | none=>rw [hj] at hu;cases hu
 | some Lq=>
  rw [hj] at hu;have hu:Lq.q=some u:=hu;show Lq.q.getD undef=u;rw [hu];rfl
def Tryz.WS.good (s:WS):Prop:=(∀y∈s.aQ,y.ok)∧0≤s.n
theorem Tryz.J7 {N:Nat} {g:Nat→Int} (hg: ∀j,0≤g j∧g j<256) {tab:Int→Int→Int→WS→WS} (ht: ∀A Ln F s,WS.good s→WS.good (tab A Ln F s)): ∀ {f:Nat} {aR size k:Int} {seen:List Int} {s:WS},WS.good s→WS.good (fH N g tab f aR size k seen s)
 | 0,_,_,_,_,s,h=>h
 | f+1,aR,size,k,seen,s,h=>by
  have hs2:WS.good ⟨s.aQ++ [lq g ((aR+16*k)%18446744073709551616).toNat],s.n+1,s.e⟩:=⟨fun y hy=>by
   rcases yaT.1 hy with hy|hy
   ·exact h.1 y hy
   ·rw [yaF] at hy;subst hy;exact ztr hg _,by have:=h.2;show 0≤s.n+1;omega⟩
  rw [fH];split
  ·exact h
  ·split
   ·exact h
   ·split
    ·exact ht _ _ _ _ ⟨h.1,by have:=h.2;show 0≤s.n+1;omega⟩
    ·split
     ·exact hs2
     ·exact J7 hg ht hs2
set_option maxRecDepth 10000 in
theorem Tryz.zBr (h:nO w a P L Bs B N g b2 x table v s M aR size k inner seen) (hN:N≤1048576) (hN1:1≤N) (hat:0≤aR∧aR<18446744073709551616) (hsize:1≤size∧size≤32768) (hk:0≤k∧k<65536) (hn:s.n≤200000)
  (htab:(inner=true∧tab=qM)∨(inner=false∧tab=lQ N g table∧s.n≤100000∧J8 P L Bs B N g b2 table)):
  (bf prog [0,0,1,159]).wp prog (SK w P L Bs B N g b2 x table v M aR size k inner seen f tab s) a w:=by
 have hg:=h.ww.mem.byte;have hn0:=h.ww.n0;have lD: ∀b,v.ownBlock=some b→v.ownBlock=some b∨w.heap.size≤b:=fun b hb=> .inl hb;by_cases hs:k∈seen
 ·obtain ⟨ρ,hd⟩:=zV (P:=P) (e:=s.e) (A:=0) (Ln:=0) (F:=0) (Nx:=0) (cnt:=0) (x:=0) (jw:=0) (e3:=0) (n3:=0) (inner:=inner) (table:=table) (v:=v) hat hsize hk ⟨hn0,by omega⟩ (by omega) (by omega) (by omega) (by omega);refine ya3 (iM (ρ:=ρ) (K:=lY x v M) (g:=nR P L Bs B N g b2 w.heap.size v s.aQ 0 []) (bl:=kP x M) mixed zvF zyG h.iA
   (Ae h hd (o:=some (.bool (.lit true))) (ov:=some (.bool true)) ⟨_,rfl,fA rfl⟩ (by rw [yak hs])) (xJ h.nd) (yR h) trivial trivial trivial h.zI h.dF (zU h hd) (aT.2 trivial)) fun ex a' w' hh=> ?_
  obtain ⟨q,hq,hto,lf,hlf,rfl,hsz,j,hdf,he⟩:=hh;have hmv:=he.mv;unfold zpO at hq;simp only [yac,yae,yav] at hq;subst hq;cases hlf;obtain ⟨Fs,_,⟨_,_,_,_,hm'⟩,hf'⟩:=he.fO;exact sD hdf (s':= { s with e:=4 }) (by rw [fH,yak (.inl hs)]) (sj h hd he (e':= .lit 4) (n':=au 4) (lv:= .cst 1 none) rfl hd.pX rfl hd.pW hm' hf'.1 lD h.ww.ok hn0) lD hmv
 by_cases hout:size≤k
 ·obtain ⟨ρ,hd⟩:=zV (P:=P) (e:=s.e) (A:=0) (Ln:=0) (F:=0) (Nx:=0) (cnt:=0) (x:=0) (jw:=0) (e3:=0) (n3:=0) (inner:=inner) (table:=table) (v:=v) hat hsize hk ⟨hn0,by omega⟩ (by omega) (by omega) (by omega) (by omega);refine ya3 (iM (ρ:=ρ) (K:=lY x v M) (g:=nR P L Bs B N g b2 w.heap.size v s.aQ 0 []) (bl:=kP x M) mixed zyH zBu h.iA
   (Ae h hd (o:=none) (ov:=none) rfl (by rw [yai hs])) (xJ h.nd) (yR h) trivial trivial trivial h.zI h.dF (zU h hd) (aZ.2 ⟨by rw [nL,hd.sU,hd.wL];simpa using hout,aT.2 trivial⟩)) fun ex a' w' hh=> ?_
  obtain ⟨q,hq,hto,lf,hlf,rfl,hsz,j,hdf,he⟩:=hh;have hmv:=he.mv;unfold ztL at hq;simp only [yac,yae,yav] at hq;subst hq;cases hlf;obtain ⟨Fs,_,⟨_,_,_,_,hm'⟩,hf'⟩:=he.fO;exact sD hdf (s':= { s with e:=4 }) (by rw [fH,yak (.inr hout)]) (sj h hd he (e':= .lit 4) (n':=au 4) (lv:= .cst 1 none) rfl hd.pX rfl hd.pW hm' hf'.1 lD h.ww.ok hn0) lD hmv
 have hno: ¬(k∈seen∨size≤k):=fun hh=>hh.elim hs hout;by_cases hin:(aR+16*k)%18446744073709551616+16≤N
 case neg=>
  obtain ⟨ρ,hd⟩:=zV (P:=P) (e:=s.e) (A:=0) (Ln:=0) (F:=0) (Nx:=0) (cnt:=0) (x:=0) (jw:=5) (e3:=0) (n3:=0) (inner:=inner) (table:=table) (v:=v) hat hsize hk ⟨hn0,by omega⟩ (by omega) (by omega) (by omega) (by omega);refine ya3 (iM (ρ:=ρ) (K:=lY x v M) (g:=nR P L Bs B N g b2 w.heap.size v s.aQ 0 []) (bl:=kP x M) mixed zyL zBw h.iA
   (Ae h hd (o:=none) (ov:=none) rfl (by rw [yai hs])) (xJ h.nd) (yR h) ⟨zvh hd hk hN hN1 hin,trivial⟩ trivial trivial h.zI h.dF (zU h hd) (aZ.2 ⟨by rw [nL,hd.sU,hd.wL];simpa using hout,aZ.2 ⟨by rw [lU,dW,hd.yO];rfl,aT.2 trivial⟩⟩)) fun ex a' w' hh=> ?_
  obtain ⟨q,hq,hto,lf,hlf,rfl,hsz,j,hdf,he⟩:=hh;have hmv:=he.mv;unfold ztP at hq;simp only [yac,yae,yav] at hq;subst hq;cases hlf;obtain ⟨Fs,_,⟨_,_,_,_,hm'⟩,hf'⟩:=he.fO;exact sD hdf (s':= { s with e:=5 }) (by rw [fH,yai hno,yak hin]) (sj h hd he (e':= .lit 5) (n':=au 4) (lv:= .cst 1 none) rfl hd.pX rfl hd.pW hm' hf'.1 lD h.ww.ok hn0) lD hmv
 case pos=>
 obtain ⟨aa,oP⟩: ∃aa:Nat,(aR+16*k)%18446744073709551616=aa:=⟨((aR+16*k)%18446744073709551616).toNat,by omega⟩;have Ho:aa+16≤N:=by omega
 have ht:((aR+16*k)%18446744073709551616).toNat=aa:=by omega
 have hch:fH N g tab (f+1) aR size k seen s=if aC g (aa+12) 2/4%2=1 then tab (aC g aa 8) (aC g (aa+8) 4) (aC g (aa+12) 2) { s with n:=s.n+1 }
   else if aC g (aa+12) 2%2=0 then ⟨s.aQ++ [lq g aa],s.n+1,s.e⟩ else fH N g tab f aR size (aC g (aa+14) 2) (k::seen) ⟨s.aQ++ [lq g aa],s.n+1,s.e⟩:=by
  rw [fH,yai hno,yai (by rw [oP] at hin ⊢;exact fun hh=>hh (by omega)),ht]
 have bA:=qA g hg aa 8;have bL:=qA g hg (aa+8) 4;have bF:=qA g hg (aa+12) 2;have bN:=qA g hg (aa+14) 2;have hwn:IntKind.wrap .i64 (s.n+1)=s.n+1:=gV (by omega) (by omega);have yL:0≤aC g aa 8∧aC g aa 8<18446744073709551616:=⟨bA.1,bA.2⟩;have AJ:0≤aC g (aa+8) 4∧aC g (aa+8) 4<4294967296:=⟨bL.1,bL.2⟩;have GH:0≤aC g (aa+12) 2∧aC g (aa+12) 2<65536:=⟨bF.1,bF.2⟩;have AL:0≤aC g (aa+14) 2∧aC g (aa+14) 2<65536:=⟨bN.1,bN.2⟩;clear bA bL bF bN;by_cases hT:aC g (aa+12) 2/4%2=1
 ·rw [yak hT] at hch;rcases htab with ⟨rfl,rfl⟩|⟨rfl,rfl,hn',Ns⟩
  ·obtain ⟨ρ,hd⟩:=zV (P:=P) (e:=s.e) (A:=aC g aa 8) (Ln:=aC g (aa+8) 4) (F:=aC g (aa+12) 2) (Nx:=aC g (aa+14) 2) (cnt:=0) (x:=0) (jw:=0) (e3:=0) (n3:=0) (inner:=true) (table:=table) (v:=v) hat hsize hk ⟨hn0,by omega⟩ yL AJ GH AL;refine ya3 (iM (ρ:=ρ) (K:=lY x v M) (g:=nR P L Bs B N g b2 w.heap.size v s.aQ aa []) (bl:=kP x M) mixed zyJ zBv h.iA
    (Ae h hd (o:=none) (ov:=none) rfl (by rw [yai hs])) (xJ h.nd) (yR h) ⟨Jv hd hk oP hN Ho,KF hd hg,trivial⟩ trivial trivial h.zI h.dF (zU h hd) (aZ.2 ⟨by rw [nL,hd.sU,hd.wL];simpa using hout,aZ.2 ⟨by rw [lU,dW,hd.yO];rfl,aZ.2 ⟨by rw [lU,hd.GK,hT];rfl,aZ.2 ⟨by rw [dJ,hd.Da],aT.2 trivial⟩⟩⟩⟩)) fun ex a' w' hh=> ?_
   obtain ⟨q,hq,hto,lf,hlf,rfl,hsz,j,hdf,he⟩:=hh;have hmv:=he.mv;unfold ztN at hq;simp only [yac,yae,yav] at hq;subst hq;cases hlf;obtain ⟨Fs,_,⟨_,_,_,_,hm'⟩,hf',_⟩:=he.fO;exact sD hdf (s':=⟨s.aQ,s.n+1,4⟩) (by rw [hch];rfl) (sj h hd he (e':= .lit 4) (n':= .bin .add .i64 (au 4) (.lit 1)) (lv:= .cst 1 none) rfl hd.pX rfl (by rw [den_add,hd.pW,zag,hwn]) hm' hf'.1 lD h.ww.ok (by show 0≤s.n+1;omega)) lD hmv
  ·by_cases hx:(dA N (aC g aa 8) (aC g (aa+8) 4)).2=0
   ·obtain ⟨R3,Dq⟩: ∃R3,fH N g qM ((dA N (aC g aa 8) (aC g (aa+8) 4)).1.toNat+1) (aC g aa 8) (dA N (aC g aa 8) (aC g (aa+8) 4)).1 0 [] ⟨s.aQ,s.n+1,0⟩=R3:=⟨_,rfl⟩;obtain ⟨ρ,hd⟩:=zV (P:=P) (e:=s.e) (A:=aC g aa 8) (Ln:=aC g (aa+8) 4) (F:=aC g (aa+12) 2) (Nx:=aC g (aa+14) 2) (cnt:=(dA N (aC g aa 8) (aC g (aa+8) 4)).1) (x:=(dA N (aC g aa 8) (aC g (aa+8) 4)).2) (jw:=0) (e3:=R3.e) (n3:=R3.n) (inner:=false) (table:=table) (v:=v) hat hsize hk ⟨hn0,by omega⟩ yL AJ GH AL;refine ya3 (zvm (ρ:=ρ) (K:=lY x v M) (g:=nR P L Bs B N g b2 w.heap.size v s.aQ aa R3.aQ) (bl:=kP x M) mixed zyB zBs h.iA
     (Ae h hd (o:=none) (ov:=none) rfl (by rw [yai hs])) (xJ h.nd) (yR h) ⟨Jv hd hk oP hN Ho,KF hd hg,Zp hd hN hN1 yL AJ,trivial⟩ ⟨zym h hd Dq hx yL hn' hwn Ns,trivial⟩ trivial trivial h.zI h.dF (zU h hd) (aZ.2 ⟨by rw [nL,hd.sU,hd.wL];simpa using hout,aZ.2 ⟨by rw [lU,dW,hd.yO];rfl,aZ.2 ⟨by rw [lU,hd.GK,hT];rfl,aZ.2 ⟨by rw [dJ,hd.Da],aZ.2 ⟨by rw [qK,dW,hd.yP,hx];rfl,aT.2 trivial⟩⟩⟩⟩⟩)) fun ex a' w' hh=> ?_
    obtain ⟨q,hq,hto,lf,hlf,rfl,hsz,j,hdf,he⟩:=hh;have hmv:=he.mv;unfold ztH at hq;simp only [yac,yae,yav] at hq;rcases hq with rfl|rfl|rfl
    all_goals
     simp only [aZ,aT,qK,lU,dJ,hd.AP,hd.Mk,dW,hd.yP,zag,yaU,ycz,ydY,ybD,ydf,ne_eq] at hto;cases hlf;obtain ⟨Fs,_,⟨_,_,_,_,hm'⟩,hf'⟩:=he.fO
    ·exact sD hdf (s':=⟨s.aQ,s.n+1,4⟩) (by rw [hch,lQ,yak (.inl hto)]) (sj h hd he (e':= .lit 4) (n':= .bin .add .i64 (au 4) (.lit 1)) (lv:= .cst 1 none) rfl hd.pX rfl (by rw [den_add,hd.pW,zag,hwn]) hm' hf'.1.1 lD h.ww.ok (by show 0≤s.n+1;omega)) lD hmv
    ·exact sD hdf (s':=⟨s.aQ,s.n+1,4⟩) (by rw [hch,lQ,yak (.inr hto.2)]) (sj h hd he (e':= .lit 4) (n':= .bin .add .i64 (au 4) (.lit 1)) (lv:= .cst 1 none) rfl hd.pX rfl (by rw [den_add,hd.pW,zag,hwn]) hm' hf'.1.1 lD h.ww.ok (by show 0≤s.n+1;omega)) lD hmv
    ·obtain ⟨u,hu,hf',hub⟩:=hf';have hval:(AV.opq 10 none).val ρ (dH j)=u:=vK hu;have hs3:fH N g (lQ N g table) (f+1) aR size k seen s=R3:=by
      rw [hch,lQ,yai (by rintro (h1|h1);exact absurd (h1.symm.trans hto.1) (by decide);exact h1 hto.2),yak hx];exact Dq
     have NN:=J7 hg (f:=(dA N (aC g aa 8) (aC g (aa+8) 4)).1.toNat+1) (aR:=aC g aa 8) (size:=(dA N (aC g aa 8) (aC g (aa+8) 4)).1) (k:=0) (seen:= []) (N:=N) (tab:=qM) (s:=⟨s.aQ,s.n+1,0⟩) (fun _ _ _ s h=>h) ⟨h.ww.ok,by show 0≤s.n+1;omega⟩;rw [Dq] at NN;exact sD hdf hs3 (sj h hd he (e':= .var 20) (n':= .var 21) (lv:= .opq 10 none) rfl hval hd.Sw hd.Sy hm' hf'.1 hub NN.1 NN.2) hub hmv
   ·obtain ⟨ρ,hd⟩:=zV (P:=P) (e:=s.e) (A:=aC g aa 8) (Ln:=aC g (aa+8) 4) (F:=aC g (aa+12) 2) (Nx:=aC g (aa+14) 2) (cnt:=(dA N (aC g aa 8) (aC g (aa+8) 4)).1) (x:=(dA N (aC g aa 8) (aC g (aa+8) 4)).2) (jw:=0) (e3:=0) (n3:=0) (inner:=false) (table:=table) (v:=v) hat hsize hk ⟨hn0,by omega⟩ yL AJ GH AL;refine ya3 (iM (ρ:=ρ) (K:=lY x v M) (g:=nR P L Bs B N g b2 w.heap.size v s.aQ aa []) (bl:=kP x M) mixed zvD zyD h.iA
     (Ae h hd (o:=none) (ov:=none) rfl (by rw [yai hs])) (xJ h.nd) (yR h) ⟨Jv hd hk oP hN Ho,KF hd hg,Zp hd hN hN1 yL AJ,trivial⟩ trivial trivial h.zI h.dF (zU h hd) (aZ.2 ⟨by rw [nL,hd.sU,hd.wL];simpa using hout,aZ.2 ⟨by rw [lU,dW,hd.yO];rfl,aZ.2 ⟨by rw [lU,hd.GK,hT];rfl,aZ.2 ⟨by rw [dJ,hd.Da],aZ.2 ⟨by rw [qK,dW,hd.yP,zag];simpa using hx,aT.2 trivial⟩⟩⟩⟩⟩)) fun ex a' w' hh=> ?_
    obtain ⟨q,hq,hto,lf,hlf,rfl,hsz,j,hdf,he⟩:=hh;have hmv:=he.mv;unfold zpJ at hq;simp only [yac,yae,yav] at hq;rcases hq with rfl|rfl|rfl
    all_goals
     simp only [aZ,aT,qK,lU,dJ,hd.AP,hd.Mk,dW,hd.yP,zag,yaU,ycz,ydY,ybD,ydf,ne_eq] at hto;cases hlf;obtain ⟨Fs,_,⟨_,_,_,_,hm'⟩,hf'⟩:=he.fO
    ·exact sD hdf (s':=⟨s.aQ,s.n+1,4⟩) (by rw [hch,lQ,yak (.inl hto)]) (sj h hd he (e':= .lit 4) (n':= .bin .add .i64 (au 4) (.lit 1)) (lv:= .cst 1 none) rfl hd.pX rfl (by rw [den_add,hd.pW,zag,hwn]) hm' hf'.1.1 lD h.ww.ok (by show 0≤s.n+1;omega)) lD hmv
    ·exact sD hdf (s':=⟨s.aQ,s.n+1,4⟩) (by rw [hch,lQ,yak (.inr hto.2)]) (sj h hd he (e':= .lit 4) (n':= .bin .add .i64 (au 4) (.lit 1)) (lv:= .cst 1 none) rfl hd.pX rfl (by rw [den_add,hd.pW,zag,hwn]) hm' hf'.1.1 lD h.ww.ok (by show 0≤s.n+1;omega)) lD hmv
    ·exact sD hdf (s':=⟨s.aQ,s.n+1,(dA N (aC g aa 8) (aC g (aa+8) 4)).2⟩) (by rw [hch,lQ,yai (by rintro (h1|h1);exact absurd (h1.symm.trans hto.1) (by decide);exact h1 hto.2),yai hx]) (sj h hd he (e':= .var 15) (n':= .bin .add .i64 (au 4) (.lit 1)) (lv:= .cst 1 none) rfl hd.pX hd.yP (by rw [den_add,hd.pW,zag,hwn]) hm' hf'.1.1 lD h.ww.ok (by show 0≤s.n+1;omega)) lD hmv
 ·rw [yai hT] at hch;have hT0:aC g (aa+12) 2/4%2=0:=by omega
  obtain ⟨ρ,hd⟩:=zV (P:=P) (e:=s.e) (A:=aC g aa 8) (Ln:=aC g (aa+8) 4) (F:=aC g (aa+12) 2) (Nx:=aC g (aa+14) 2) (cnt:=0) (x:=0) (jw:=0) (e3:=0) (n3:=0) (inner:=inner) (table:=table) (v:=v) hat hsize hk ⟨hn0,by omega⟩ yL AJ GH AL;refine ya3 (iM (ρ:=ρ) (K:=lY x v M) (g:=nR P L Bs B N g b2 w.heap.size v s.aQ aa []) (bl:=kP x M) mixed zyE zBt h.iA
   (Ae h hd (o:=none) (ov:=none) rfl (by rw [yai hs])) (xJ h.nd) (yR h) ⟨Jv hd hk oP hN Ho,KF hd hg,trivial⟩ trivial ⟨zDk hd h.ww.lo rfl h.ww.hb (fun b hb=> .inl (.inr hb)) (by have:=h.nl;omega),trivial⟩ h.zI h.dF (zU h hd) (aZ.2 ⟨by rw [nL,hd.sU,hd.wL];simpa using hout,aZ.2 ⟨by rw [lU,dW,hd.yO];rfl,aZ.2 ⟨by rw [lU,hd.GK,hT0];rfl,aT.2 trivial⟩⟩⟩)) fun ex a' w' hh=> ?_
  obtain ⟨q,hq,hto,lf,hlf,rfl,hsz,j,hdf,he⟩:=hh;have hmv:=he.mv;unfold ztJ at hq;simp only [yac,yae,yav] at hq;rcases hq with rfl|rfl
  all_goals
   simp only [aZ,aT,qK,hd.Mk,zag,yaU,ycz,ybD,ne_eq] at hto;cases hlf;obtain ⟨Fs,_,⟨_,_,_,_,hm'⟩,u,hu,hf',hub⟩:=he.fO;have hval:(AV.opq 12 none).val ρ (dH j)=u:=vK hu;have hokS: ∀y∈s.aQ++ [lq g aa],y.ok:=fun y hy=>by
    rcases yaT.1 hy with hy|hy
    ·exact h.ww.ok y hy
    ·rw [yaF] at hy;subst hy;exact ztr hg aa
   have hpost:=sj (s':=⟨s.aQ++ [lq g aa],s.n+1,s.e⟩) h hd he (e':= .var 3) (n':= .bin .add .i64 (au 4) (.lit 1)) (lv:= .opq 12 none) rfl hval hd.Sv (by rw [den_add,hd.pW,zag,hwn]) hm' hf'.1 hub hokS (by show 0≤s.n+1;omega)
  ·rw [yak hto] at hch;exact sD hdf hch hpost hub hmv
  ·rw [yai hto] at hch;have hsl:=iH he.ret;have hj: ∀i L,aJ (kP x M) i=some L→j i=some L:=fun i L=>he.sub i L;simp only [AV.aP,AV.val,bB (hj 1 _ rfl),bB (hj 2 _ rfl),bB (hj 3 _ rfl),bB (hj 4 _ rfl),bB (hj 5 _ rfl),bB (hj 6 _ rfl),bB (hj 7 _ rfl),hd.Mq,hd.wL,hd.Sq,dJ,hd.Da,yaK,ya0,yaR,yaU] at hsl;obtain ⟨q0,q1,q2,q3,q4,q5,q6,q7,q8,q9,Oo⟩:=hsl;refine ⟨u,⟨s.aQ++ [lq g aa],s.n+1,s.e⟩,aC g (aa+14) 2,⟨hpost,by have:=h.nl;simp only [yaQ,List.length_singleton];push_cast;omega,⟨h.mM.1,yad h.mM.2.1 hmv.size,h.mM.2.2⟩,?_,hsz,hdf,q0,q1,q2,q3,q4,q5,q6,q7,q8,q9,Oo⟩,hub,hmv,hch,AL.1,AL.2,rfl,hs,by omega⟩;obtain ⟨arr,clock,dz,eZ,m1,m2,m3,m4⟩:=Qh he.maps (.head _) _ (hj 7 _ rfl);obtain ⟨arr',clock',n1,n2,n3⟩:=h.map;have m2:w.heap[M]? =some (.map dz eZ):=m2;rw [n1] at m2;cases m2;refine ⟨arr,clock,m1,m3,fun n=> ?_⟩;rw [m4 n];simp only [vU,AV.val,hd.sU,Dw.intOf,yaJ,jO,nV];by_cases hnk:n=k
   ·subst hnk;simp
   ·rw [yai hnk,n3 n];simp [hnk]
end
end Go.Proofs
namespace Go.Proofs
open Go.Dw Go.RowKit Go.Maps Go.Sort
theorem Tryz.QW: ∀(n:Nat) (l:List Nat),l.Nodup→(∀y∈l,y<n)→l.length≤n
 | 0,l,_,h=>by
  cases l with
  | nil=>simp
  | cons y r=>have:=h y (by simp);omega
 | n+1,l,hd,h=>by
  by_cases hn:n∈l
  ·have h1:=QW n (l.erase n) (hd.erase n) fun y hy=>by
    have hy':=(List.Nodup.mem_erase_iff hd).1 hy;have:=h y hy'.2;have:=hy'.1;omega
   rw [List.length_erase_of_mem hn] at h1;omega
  ·have h1:=QW n l hd fun y hy=>by
    have:=h y hy;have:y≠n:=fun e=>hn (e▸hy);omega
   omega
theorem Tryz.zsB {seen:List Int} {size:Int} (hd:seen.Nodup) (h: ∀y∈seen,0≤y∧y<size):seen.length≤size.toNat:=by
 have h1:=QW size.toNat (seen.map Int.toNat) ?_ fun y hy=>by
  obtain ⟨z,hz,rfl⟩:=ya6.1 hy;have:=h z hz;omega
 ·simpa using h1
 ·unfold List.Nodup at hd ⊢;rw [ycj];refine hd.imp_of_mem fun {a b} ha hb hab e=>hab ?_;have:=h a ha;have:=h b hb;omega
set_option maxRecDepth 100000 in
theorem Tryz.zma {w:World} {P L Bs B N:Nat} {g:Nat→Int} {b2:Nat} {x:V6} {table:Bool} {v:Value} {s:WS} {aR size k:Int} {inner:Bool} {tab:Int→Int→Int→WS→WS}
  (h:WW w P L Bs B N g b2 x table v s) (hnl:(s.aQ.length:Int)≤s.n) (hN:N≤1048576) (hN1:1≤N) (hat:0≤aR∧aR<18446744073709551616) (hsize:1≤size∧size≤32768) (hk:0≤k∧k<65536)
  (hn:s.n+size+1≤(if inner=true then 200000 else 90000))
  (htab:(inner=true∧tab=qM)∨(inner=false∧tab=lQ N g table∧J8 P L Bs B N g b2 table)):
  Calls prog 159 (([.int .u64 aR,.int .i64 size,.int .i64 k,.bool inner]:List Value)++x.caps).toArray w fun e w'=>e= .returned (.tuple #[])∧
   ∃ v',WW w' P L Bs B N g b2 x table v' (fH N g tab (size.toNat+1) aR size k [] s)∧(∀b,v'.ownBlock=some b→v.ownBlock=some b∨w.heap.size≤b)∧Dw.Mv (wK x v) w w':=by
 obtain ⟨RES,yU⟩: ∃RES,fH N g tab (size.toNat+1) aR size k [] s=RES:=⟨_,rfl⟩;rw [yU];simp only [V6.caps,yb3,ycd];have hmk: ∀(t:TypeId) (w:World),(Instr.makeMap t none).run prog w= .ok (.map (some w.heap.size)) (w.alloc (.map #[] 0)):=fun _ _=>rfl;have hW1:(w.alloc (.map #[] 0)).heap.size=w.heap.size+1:=ydL _ _;have hW2:(w.alloc (.map #[] 0)).heap[w.heap.size]? =some (.map #[] 0):=by unfold World.alloc;exact yd0
 have hW3:RowKit.Below w.heap.size w (w.alloc (.map #[] 0)):=(yag w.heap.size w).alloc (yab _) _;have hkk: ∀b,b<w.heap.size→(w.alloc (.map #[] 0)).heap[b]? =w.heap[b]? :=fun b hb=>hW3.block b hb;have TL:=h.Oa;have k6: ∀b∈x.l,(w.alloc (.map #[] 0)).heap[b]? =w.heap[b]? :=fun b hb=>hkk b (TL b hb);have hM:w.heap.size∉x.l:=fun hm=>by have:=TL _ hm;omega
 have D9:WW (w.alloc (.map #[] 0)) P L Bs B N g b2 x table v s:=
  ⟨h.mem.below hW3,h.lo,h.nd,h.sep,h.oE.kept (k6 _ (by simp [V6.l])),h.oM.kept (k6 _ (by simp [V6.l])),h.oN.kept (k6 _ (by simp [V6.l])),h.oT.kept (k6 _ (by simp [V6.l])),h.oF.kept (k6 _ (by simp [V6.l])),h.oL.kept (k6 _ (by simp [V6.l])),
   h.row.kept fun b hb=>hkk b (h.row.lt b hb).2.1,h.OG,h.ok,yau h.hb (by omega),h.n0⟩
 go_enter func159,ntmps159;go_wp2;generalize w.alloc (.map #[] 0)=W at*;refine kF (c':= .loop (bf prog [0,0,1,159])) (by kernel_rfl) ?_;refine xQ (α:=Nat×Int×List Int×WS×Value) (fun st a w'=>nO w' a P L Bs B N g b2 x table st.2.2.2.2 st.2.2.2.1 w.heap.size aR size st.2.1 inner st.2.2.1∧st.1+st.2.2.1.length=size.toNat+1∧st.2.2.1.Nodup∧(∀y∈st.2.2.1,0≤y∧y<size)∧0≤st.2.1∧st.2.1<65536∧
   fH N g tab st.1 aR size st.2.1 st.2.2.1 st.2.2.2.1=RES∧(∀b,st.2.2.2.2.ownBlock=some b→v.ownBlock=some b∨w.heap.size≤b)∧Dw.Mv (wK x v) w w'∧st.2.2.2.1.n+st.1≤s.n+size+1)
  (fun st=>st.1) (fun st a w' hI=> ?_) (size.toNat+1,k,[],s,v) _ _ ?_
 ·obtain ⟨f,k',seen,s',v'⟩:=st;obtain ⟨hI,hf,hnd,hsn,hk0,hk1,hres,hvb,hmv,hnb⟩:=hI;simp only at hI hf hnd hsn hk0 hk1 hres hvb hmv hnb;have hsl:=zsB hnd hsn;obtain ⟨f',rfl⟩: ∃f',f=f'+1:=⟨f-1,by omega⟩;refine ya3 (zBr (f:=f') (tab:=tab) hI hN hN1 hat hsize ⟨hk0,hk1⟩ (by split at hn<;>omega) ?_) fun ex a2 w2 hh=> ?_
  ·rcases htab with ⟨h1,h2⟩|⟨h1,h2,h3⟩
   ·exact .inl ⟨h1,h2⟩
   ·refine .inr ⟨h1,h2,?_,h3⟩;rw [h1] at hn;simp only [yaP,ybm] at hn;omega
  ·have step: ∀ {v2:Value} {w2:World},(∀b,v2.ownBlock=some b→v'.ownBlock=some b∨w'.heap.size≤b)→Dw.Mv (lY x v' w.heap.size) w' w2→(∀b,v2.ownBlock=some b→v.ownBlock=some b∨w.heap.size≤b)∧Dw.Mv (wK x v) w w2:=fun {v2 w2} h1 h2=>by
    refine ⟨fun b hb=> ?_,⟨h2.os.trans hmv.os,h2.tape.trans hmv.tape,h2.output.trans hmv.output,yau hmv.size h2.size,fun b hb hnb=> ?_⟩⟩
    ·rcases h1 b hb with h'|h'
     ·exact hvb b h'
     ·exact .inr (yau hmv.size h')
    ·refine (h2.block b (yad hb hmv.size) ?_).trans (hmv.block b hb hnb);rintro ((hb'|hb')|rfl)
     ·exact hnb (.inl hb')
     ·rcases hvb b hb' with h'|h'
      ·exact hnb (.inr h')
      ·omega
     ·omega
   cases ex with
   | normal=>
    obtain ⟨v2,s2,k2,hI2,hv2,NI,hch,aaI,aaJ,aa3,hks,aaM⟩:=hh;obtain ⟨q1,q2⟩:=step hv2 NI;refine ⟨(f',k2,k'::seen,s2,v2),ycF _,hI2,?_,ycc.2 ⟨hks,hnd⟩,fun y hy=> ?_,aaI,aaJ,hch.symm.trans hres,q1,q2,?_⟩
    ·simp only [yaW];omega
    ·rcases yac.1 hy with rfl|hy
     ·exact ⟨hk0,aaM⟩
     ·exact hsn y hy
    ·show s2.n+f'≤_;rw [aa3];push_cast at hnb;omega
   | ret=>
    obtain ⟨_,iD,v2,hw2,hv2,NI⟩:=hh;obtain ⟨q1,q2⟩:=step hv2 NI;rw [hres] at hw2;simp only [Exit.inBlock,Exit.then];refine ⟨iD,.tuple #[],?_,rfl,v2,hw2,q1,q2⟩;simp [results,results159,go_sem]
   | _=>exact absurd hh.1 (by simp)
 ·refine ⟨⟨D9,hnl,⟨h.hb,by omega,hM⟩,⟨#[],0,hW2,⟨⟨fun e he=>(by simp at he),List.Pairwise.nil⟩,⟨fun e he=>(by simp at he),by simp⟩⟩,fun n=>rfl⟩,rfl,rfl,rfl,rfl,rfl,rfl,rfl,rfl,rfl,rfl,rfl,rfl,rfl⟩,by simp,ycB,fun y hy=>(by cases hy),hk.1,hk.2,yU,fun b hb=> .inl hb,Dw.Mv.of_below hW3,?_⟩;show s.n+((size.toNat+1:Nat):Int)≤_;omega
end Go.Proofs
namespace Go.Proofs
open Go.Dw Go.RowKit
theorem Tryz.zvB (P L Bs B N:Nat) (g:Nat→Int) (b2:Nat) (table:Bool) (hN:N≤1048576) (hN1:1≤N):J8 P L Bs B N g b2 table:=fun x v s w A cnt h hnl a0 a1 c0 c1 hn=>
 zma h hnl hN hN1 ⟨a0,a1⟩ ⟨c0,by omega⟩ ⟨ybC _,by decide⟩ (by simp;omega) (.inl ⟨rfl,rfl⟩)
theorem Tryz.ztV {N:Nat} {A n:Int} (hn:0≤n):0≤(dA N A n).1∧(dA N A n).1≤64:=by
 unfold dA;split
 ·decide
 ·split
  ·show 0≤n/16∧n/16≤64;omega
  ·decide
theorem Tryz.Qq {N:Nat} {g:Nat→Int} {tab:Int→Int→Int→WS→WS} {c:Nat} (ht: ∀A Ln F s,0≤Ln→(tab A Ln F s).aQ.length≤s.aQ.length+c) (hg: ∀j,0≤g j∧g j<256): ∀ {f:Nat} {aR size k:Int} {seen:List Int} {s:WS},(fH N g tab f aR size k seen s).aQ.length≤s.aQ.length+f+c
 | 0,_,_,_,_,s=>by rw [fH];omega
 | f+1,aR,size,k,seen,s=>by
  rw [fH];split
  ·show s.aQ.length≤_;omega
  ·split
   ·show s.aQ.length≤_;omega
   ·split
    ·refine yau (ht _ _ _ _ (qA g hg _ 4).1) ?_;show s.aQ.length+c≤_;omega
    ·split
     ·show (s.aQ++ [_]).length≤_;simp;omega
     ·refine yau (Qq ht hg) ?_;show (s.aQ++ [_]).length+f+c≤_;simp;omega
theorem Tryz.zuy {N:Nat} {g:Nat→Int} {table:Bool} (hg: ∀j,0≤g j∧g j<256) (A Ln F:Int) (s:WS) (hL:0≤Ln):(lQ N g table A Ln F s).aQ.length≤s.aQ.length+65:=by
 unfold lQ;have:=ztV (N:=N) (A:=A) hL;split
 ·show s.aQ.length≤_;omega
 ·split
  ·refine yau (Qq (tab:=qM) (c:=0) (fun _ _ _ _ _=>yab _) hg) ?_;show s.aQ.length+_+0≤_;omega
  ·show s.aQ.length≤_;omega
theorem Tryz.zqB {N:Nat} {g:Nat→Int} {table:Bool} (hg: ∀j,0≤g j∧g j<256) (A Ln F:Int) (s:WS) (h:WS.good s):WS.good (lQ N g table A Ln F s):=by
 unfold lQ;split
 ·exact h
 ·split
  ·exact J7 (tab:=qM) hg (fun _ _ _ _ h=>h) h
  ·exact h
def Tryz.je (N:Nat) (g:Nat→Int) (r:Rg) (head:Int) (table:Bool):WS:=fH N g (lQ N g table) (r.n.toNat+1) r.d r.n head [] ⟨[],0,0⟩
theorem Tryz.Ql {N:Nat} {g:Nat→Int} {r:Rg} {head:Int} {table:Bool} (hg: ∀j,0≤g j∧g j<256) (hr:RgOk r):(je N g r head table).aQ.length≤40000:=by
 have:=hr.bnd;refine yau (Qq (zuy hg) hg) ?_;show ([]:List Sg).length+_+65≤_;simp;omega
theorem Tryz.PL {N:Nat} {g:Nat→Int} {r:Rg} {head:Int} {table:Bool} (hg: ∀j,0≤g j∧g j<256):WS.good (je N g r head table):=
 J7 hg (zqB hg) ⟨fun y hy=>(by cases hy),ybC _⟩
def Tryz.eX (N:Nat) (g:Nat→Int) (r:Rg) (head:Int) (table:Bool):List Sg×Int:=
 if (je N g r head table).e=0 then (if lV N (je N g r head table).aQ=0 then ((je N g r head table).aQ,0) else ([],lV N (je N g r head table).aQ)) else ([],(je N g r head table).e)
def Tryz.spG (P L Bs B N:Nat) (g:Nat→Int) (b2:Nat) (l:List Sg):aU where
 fact k q F w:=(F P∧F L∧F Bs∧F B∧GM w P L Bs B N g)∧(match k with|0=>True|_=> ∃u,q 8=some u∧jl b2 u l F w)
 loc:=fun k q q' F w w' h hq hb hs=>by
  obtain ⟨⟨h1,h2,h3,h4,h5⟩,h6⟩:=h;refine ⟨⟨h1,h2,h3,h4,h5.kept (fun b _ hb'=>by rcases hb' with rfl|rfl|rfl|rfl<;>exact hb _ (by assumption)) hs⟩,?_⟩
  match k,h6 with
  | 0,_=>trivial
  | k+1,⟨u,h7,h8⟩=>exact ⟨u,hq _ _ h7,jl.kept h8 hb⟩
def Tryz.mF (r:Rg) (head n e e2:Int) (table:Bool) (p:Value):Val:=fu r [0,0,0,head,0,0,0,0,0,0,0,0,0,0,0,0,e,n,e2] [false,table] [p]
set_option maxRecDepth 10000 in
theorem Tryz.zwx {w:World} {P L Bs B N:Nat} {g:Nat→Int} {r:Rg} {head:Int} {table:Bool} (hm:GM w P L Bs B N g) (hN:N≤1048576) (hN1:1≤N) (hr:RgOk r) (hh:0≤head∧head<65536):
  Calls prog 148 #[vp P,r.val,.int .i64 head,.bool table] w fun e w'=> ∃u,e= .returned (.tuple #[u,.int .i64 (je N g r head table).n,.int .i64 (je N g r head table).e])∧
   cO w' w.heap.size u (je N g r head table).aQ∧Below w.heap.size w w':=by
 obtain ⟨RES,yU⟩: ∃RES,je N g r head table=RES:=⟨_,rfl⟩;rw [yU];have hbd:=hr.bnd;have hR: ∀j,Dw.R (mF r head RES.n RES.e 0 table (vp P)) j rg r.val:=fun j=>dY hr;have dn:(ah 0).den (mF r head RES.n RES.e 0 table (vp P))=r.n:=jH hr;have dd:(af 1).den (mF r head RES.n RES.e 0 table (vp P))=r.d:=jR hr;have dh:(aF 7).den (mF r head RES.n RES.e 0 table (vp P))=head:=jC hh.1 hh.2;have dN:(mF r head RES.n RES.e 0 table (vp P)).i 21=RES.n:=rfl;have dE:(mF r head RES.n RES.e 0 table (vp P)).i 20=RES.e:=rfl;have db:(mF r head RES.n RES.e 0 table (vp P)).b 1=table:=rfl;have dp:(mF r head RES.n RES.e 0 table (vp P)).v 0=vp P:=rfl;generalize mF r head RES.n RES.e 0 table (vp P)=ρ at*;have abN:=hr.dE;refine yas (zvk (ρ:=ρ) (K:=fun _=>False) (g:=spG P L Bs B N g w.heap.size RES.aQ) (bl:= []) (vals:= [vp P,r.val,.int .i64 head,.bool table]) mixed zur zvZ (fun b h=>h.elim) trivial trivial
  ⟨fun b=>b=P∨b=L∨b=Bs∨b=B,fun b hb=>⟨by rcases hb with rfl|rfl|rfl|rfl;exact hm.pl;exact hm.ll;exact hm.sl;exact hm.bl,fun h=>by obtain ⟨k,_,h1,_⟩:=h;cases k<;>cases h1⟩,⟨.inl rfl,.inr (.inl rfl),.inr (.inr (.inl rfl)),.inr (.inr (.inr rfl)),hm⟩,trivial⟩
  trivial ⟨?_,trivial⟩ trivial trivial (ai (iB dp rfl) (ai (hR _) (ai (aA dh) (ai (fA db) RL.nil)))) (aT.2 trivial)) fun e w' hh'=> ?_
 ·refine ⟨Dw.enters_of (by kernel_rfl),fun j w1 vals F n hv hnone hb hF hsz hrows hne hf=> ?_⟩;have hb:n=8:=hb (by decide);subst hb;obtain ⟨⟨f1,f2,f3,f4,hm1⟩,_⟩:=hf;obtain ⟨L1,vs1,j1,o1,K1,F1,r1,w1'⟩:=hrows (6,[.int .i64 (.lit 0)],[.int .i64 (.var 20)]) (by simp [jL]);obtain ⟨L2,vs2,j2,o2,K2,F2,r2,w2'⟩:=hrows (1,[.cst 0 none],[.cst 0 none]) (by simp [jL]);obtain ⟨L3,vs3,j3,o3,K3,F3,r3,w3'⟩:=hrows (5,[.int .i64 (.lit 0)],[.int .i64 (.var 21)]) (by simp [jL]);obtain ⟨L4,vs4,j4,o4,K4,F4,r4,ve⟩:=hrows (3,[.bool (.var 1)],[.bool (.var 1)]) (by simp [jL]);obtain ⟨L5,vs5,j5,o5,K5,F5,r5,vg⟩:=hrows (7,[u6],[u6]) (by simp [jL]);obtain ⟨L6,vs6,j6,o6,K6,F6,r6,vo⟩:=hrows (4,[.bZ],[.opq 8 none]) (by simp [jL]);have j1:j 6=some L1:=j1;have j2:j 1=some L2:=j2;have j3:j 5=some L3:=j3;have j4:j 3=some L4:=j4;have j5:j 7=some L5:=j5;have j6:j 4=some L6:=j6;have dO:=bB j1;have dS:=bB j2;have zw:=bB j3;have zA:=bB j4;have zB:=bB j5;have zC:=bB j6;have w1':=qD w1' (by decide) r1;have w2':=qD w2' (by decide) r2;have w3':=qD w3' (by decide) r3;have ve:=qD ve (by decide) r4;have vg:=qD vg (by decide) r5;have vo:=qD vo (by decide) r6;simp only [AV.aP,AV.val,u6,Lf,dO,dS,zw,zA,zB,zC,o1,o2,o3,o4,o5,o6,ya7,dp,dJ,db,zag] at w1' w2' w3' ve vg vo;have gP: ∀ {p q:Nat} {Lp Lq:Dw.Loc},p∈ [1,3,4,5,6,7]→q∈ [1,3,4,5,6,7]→p≠q→j p=some Lp→j q=some Lq→Lp.blk≠Lq.blk:=fun {p q Lp Lq} hp hq hpq h1 h2=>by
   have hin: ∀t∈ [1,3,4,5,6,7],∃r∈jL.rows,r.1=t:=fun t ht=>by
    simp only [yac,yae,yav] at ht;rcases ht with rfl|rfl|rfl|rfl|rfl|rfl
    ·exact ⟨(1,[.cst 0 none],[.cst 0 none]),by simp [jL],rfl⟩
    ·exact ⟨(3,[.bool (.var 1)],[.bool (.var 1)]),by simp [jL],rfl⟩
    ·exact ⟨(4,[.bZ],[.opq 8 none]),by simp [jL],rfl⟩
    ·exact ⟨(5,[.int .i64 (.lit 0)],[.int .i64 (.var 21)]),by simp [jL],rfl⟩
    ·exact ⟨(6,[.int .i64 (.lit 0)],[.int .i64 (.var 20)]),by simp [jL],rfl⟩
    ·exact ⟨(7,[u6],[u6]),by simp [jL],rfl⟩
   obtain ⟨r,hr,rfl⟩:=hin p hp;obtain ⟨r',hr',rfl⟩:=hin q hq;exact hne r hr r' hr' hpq Lp Lq h1 h2
  let x1:V6:=⟨L1.blk,L2.blk,L3.blk,L4.blk,L5.blk,L6.blk⟩
  have tL: ∀b∈x1.l,¬F b:=fun b hb=>by
   simp only [V6.l,x1,yac,yae,yav] at hb;rcases hb with rfl|rfl|rfl|rfl|rfl|rfl<;>assumption
  have hnd:x1.l.Nodup:=by
   simp only [V6.l,x1,ycc,yac,yae,yav,not_or,ycB,yaU,yc0];exact ⟨⟨gP (by simp) (by simp) (by decide) j1 j2,gP (by simp) (by simp) (by decide) j1 j3,gP (by simp) (by simp) (by decide) j1 j4,gP (by simp) (by simp) (by decide) j1 j5,gP (by simp) (by simp) (by decide) j1 j6⟩,
    ⟨gP (by simp) (by simp) (by decide) j2 j3,gP (by simp) (by simp) (by decide) j2 j4,gP (by simp) (by simp) (by decide) j2 j5,gP (by simp) (by simp) (by decide) j2 j6⟩,
    ⟨gP (by simp) (by simp) (by decide) j3 j4,gP (by simp) (by simp) (by decide) j3 j5,gP (by simp) (by simp) (by decide) j3 j6⟩,
    ⟨gP (by simp) (by simp) (by decide) j4 j5,gP (by simp) (by simp) (by decide) j4 j6⟩,gP (by simp) (by simp) (by decide) j5 j6⟩
  have D9:WW w1 P L Bs B N g w.heap.size x1 table (.slice none 0 0) ⟨[],0,0⟩:=
   ⟨hm1,⟨hm.pl,hm.ll,hm.sl,hm.bl⟩,hnd,fun b hb=>⟨fun e=>tL b hb (e▸f1),fun e=>tL b hb (e▸f2),fun e=>tL b hb (e▸f3),fun e=>tL b hb (e▸f4)⟩,w1',w2',w3',ve,vg,vo,⟨rfl,.inl ⟨rfl,rfl⟩⟩,fun b hb=>(by cases hb),fun y hy=>(by cases hy),hsz,ybC _⟩
  have D8:vals=([.int .u64 r.d,.int .i64 r.n,.int .i64 head,.bool false]:List Value)++x1.caps:=by
   have hv:=qU (by decide) hv;rw [hv];simp only [jL,Lf,yb3,ycd,AV.aP,AV.val,dd,dn,dh,jO,dO,dS,zw,zA,zB,zC,o1,o2,o3,o4,o5,o6,ya7];rfl
  subst D8;refine yas (zma D9 (ybC _) hN hN1 ⟨hr.d0,by omega⟩ hbd hh (by simp;omega) (.inr ⟨rfl,rfl,zvB P L Bs B N g w.heap.size table hN hN1⟩)) fun en w' hh=> ?_;obtain ⟨rfl,v',hw',hvb,hmv⟩:=hh;have yU:fH N g (lQ N g table) (r.n.toNat+1) r.d r.n head [] ⟨[],0,0⟩=RES:=yU;rw [yU] at hw';have rF:=hw'.row.lt;have hsub: ∀k' L',j k'=some L'→jq j 8 [v'] k'=some L':=fun k' L' e=>by
   unfold jq;by_cases hk':8≤k'∧k'<8+1
   ·have:=hnone k' hk'.1;rw [this] at e;cases e
   ·rw [yai (by simpa using hk')];exact e
  refine ⟨_,[v'],fun b=>F b∨v'.ownBlock=some b,rfl,rfl,oD RL.nil,⟨⟨.inl f1,.inl f2,.inl f3,.inl f4,hw'.mem⟩,v',rW,⟨hw'.row,fun b hb=> .inr hb⟩⟩,?_,fun rr hr Lr oO=> ?_,hmv.mono fun b hb=> ?_⟩
  ·rintro b (hb|hb)
   ·exact ⟨yad (hF b hb) hmv.size,.inl hb⟩
   ·refine ⟨(rF b hb).2.1,?_⟩;rcases hvb b hb with h'|h'
    ·cases h'
    ·exact .inr h'
  ·simp only [jL,yac,yae,yav] at hr;rcases hr with rfl|rfl|rfl|rfl|rfl|rfl
   ·have:=j1.symm.trans oO;cases this;exact ⟨_,ai (aA dE) RL.nil,hw'.oE⟩
   ·have:=j2.symm.trans oO;cases this;exact ⟨_,ai (iB dp rfl) RL.nil,hw'.oM⟩
   ·have:=j3.symm.trans oO;cases this;exact ⟨_,ai (aA dN) RL.nil,hw'.oN⟩
   ·have:=j4.symm.trans oO;cases this;exact ⟨_,ai (fA db) RL.nil,hw'.oT⟩
   ·have:=j5.symm.trans oO;cases this;refine ⟨_,ai (jP RL.nil ?_) RL.nil,hw'.oF⟩;have e: ∀(Lx:Dw.Loc),Lx.off=0→(Value.pointer (some ⟨Lx.blk,Lx.off+0,none⟩))=vp Lx.blk:=fun Lx hx=>by rw [hx];rfl
    exact ai ⟨L1,hsub _ _ j1,(e L1 o1).symm⟩ (ai ⟨L2,hsub _ _ j2,(e L2 o2).symm⟩ (ai ⟨L3,hsub _ _ j3,(e L3 o3).symm⟩ (ai ⟨L4,hsub _ _ j4,(e L4 o4).symm⟩ (ai ⟨L5,hsub _ _ j5,(e L5 o5).symm⟩ (ai ⟨L6,hsub _ _ j6,(e L6 o6).symm⟩ RL.nil)))))
   ·have:=j6.symm.trans oO;cases this;refine ⟨_,ai ⟨⟨⟨0,0,0,some v'⟩,?_,rfl⟩,hw'.row.one,fun _ h=>by cases h⟩ RL.nil,hw'.oL⟩;show jq j 8 _ 8=_;unfold jq;rw [yak ⟨yab _,by simp⟩];simp
  ·rcases hb with hb|hb
   ·right;simp only [V6.l,x1,yac,yae,yav] at hb;rcases hb with rfl|rfl|rfl|rfl|rfl|rfl
    ·exact ⟨(6,[.int .i64 (.lit 0)],[.int .i64 (.var 20)]),by simp [jL],L1,j1,rfl⟩
    ·exact ⟨(1,[.cst 0 none],[.cst 0 none]),by simp [jL],L2,j2,rfl⟩
    ·exact ⟨(5,[.int .i64 (.lit 0)],[.int .i64 (.var 21)]),by simp [jL],L3,j3,rfl⟩
    ·exact ⟨(3,[.bool (.var 1)],[.bool (.var 1)]),by simp [jL],L4,j4,rfl⟩
    ·exact ⟨(7,[u6],[u6]),by simp [jL],L5,j5,rfl⟩
    ·exact ⟨(4,[.bZ],[.opq 8 none]),by simp [jL],L6,j6,rfl⟩
   ·cases hb
 ·obtain ⟨_,j,he⟩:=iN hh';obtain ⟨Fs,_,_,u,hu,hf',_⟩:=he.fO;refine ⟨u,he.ret.trans ?_,hf',fG he (fun _ h=>h)⟩;simp only [AV.val,AV.aP,dW,dN,dE];have hu':(dH j 8).q.getD undef=u:=vK (ρ:=ρ) hu;rw [hu']
def Tryz.SpG (P L Bs B N:Nat) (g:Nat→Int) (b2:Nat) (l l':List Sg):aU where
 fact k q F w:=(F P∧F L∧F Bs∧F B∧GM w P L Bs B N g)∧(match k with|0=>True|1=> ∃u,q 2=some u∧jl b2 u l F w|_=> ∃u,q 3=some u∧jl b2 u l' F w)
 loc:=fun k q q' F w w' h hq hb hs=>by
  obtain ⟨⟨h1,h2,h3,h4,h5⟩,h6⟩:=h;refine ⟨⟨h1,h2,h3,h4,h5.kept (fun b _ hb'=>by rcases hb' with rfl|rfl|rfl|rfl<;>exact hb _ (by assumption)) hs⟩,?_⟩
  match k,h6 with
  | 0,_=>trivial
  | 1,⟨u,h7,h8⟩=>exact ⟨u,hq _ _ h7,jl.kept h8 hb⟩
  | k+2,⟨u,h7,h8⟩=>exact ⟨u,hq _ _ h7,jl.kept h8 hb⟩
theorem Tryz.cO.nil (w:World) (b2:Nat):cO w b2 (.slice none 0 0) []:=⟨rfl,.inl ⟨rfl,rfl⟩⟩
theorem Tryz.cO.mono {w:World} {b1 b2:Nat} {v:Value} {l:List Sg} (h:cO w b2 v l) (hb:b1≤b2):cO w b1 v l:=by
 obtain ⟨h1,h2⟩:=h;refine ⟨h1,?_⟩;rcases h2 with h2|⟨G,cap,cur,e,h3,h4⟩
 ·exact .inl h2
 ·exact .inr ⟨G,cap,cur,e,yau hb h3,h4⟩
theorem Tryz.cO.slice {w:World} {b2:Nat} {v:Value} {l:List Sg} (h:cO w b2 v l): ∃sa c,v= .slice sa l.length c∧ ∀R o,sa=some ⟨R,o,none⟩→v.ownBlock=some R:=by
 obtain ⟨h1,h2⟩:=h;rcases h2 with ⟨rfl,h2⟩|⟨G,cap,cur,rfl,_⟩
 ·exact ⟨none,0,by rw [h2],fun R o h=>by cases h⟩
 ·exact ⟨_,cap,rfl,fun R o h=>by cases h;rfl⟩
set_option maxRecDepth 10000 in
theorem Tryz.zzy {w:World} {P L Bs B N:Nat} {g:Nat→Int} {r:Rg} {head:Int} {table:Bool} (hm:GM w P L Bs B N g) (hN:N≤1048576) (hN1:1≤N) (hr:RgOk r) (hh:0≤head∧head<65536):
  Calls prog 128 #[vp P,r.val,.int .i64 head,.bool table] w fun e w'=> ∃u,e= .returned (.tuple #[u,.int .i64 (eX N g r head table).2])∧
   cO w' w.heap.size u (eX N g r head table).1∧Below w.heap.size w w':=by
 have hg:=hm.byte;have hlen:=Ql (N:=N) (head:=head) (table:=table) hg hr;have hgood:=PL (N:=N) (r:=r) (head:=head) (table:=table) hg;unfold eX;have hsp:=fun w (hm:GM w P L Bs B N g)=>zwx (table:=table) hm hN hN1 hr hh;generalize je N g r head table=RES at*;obtain ⟨LE,S9⟩: ∃LE,lV N RES.aQ=LE:=⟨_,rfl⟩;have hR: ∀j,Dw.R (mF r head RES.n RES.e LE table (vp P)) j rg r.val:=fun j=>dY hr;have dh:(aF 7).den (mF r head RES.n RES.e LE table (vp P))=head:=jC hh.1 hh.2;have dN:(mF r head RES.n RES.e LE table (vp P)).i 21=RES.n:=rfl;have dE:(mF r head RES.n RES.e LE table (vp P)).i 20=RES.e:=rfl;have dL:(mF r head RES.n RES.e LE table (vp P)).i 22=LE:=rfl;have db:(mF r head RES.n RES.e LE table (vp P)).b 1=table:=rfl;have dp:(mF r head RES.n RES.e LE table (vp P)).v 0=vp P:=rfl;generalize mF r head RES.n RES.e LE table (vp P)=ρ at*;rw [S9];obtain ⟨l',hl'⟩: ∃l',(if LE=0 then RES.aQ else [])=l':=⟨_,rfl⟩;refine yas (eD (ρ:=ρ) (K:=fun _=>False) (g:=SpG P L Bs B N g w.heap.size RES.aQ l') (bl:= []) (vals:= [vp P,r.val,.int .i64 head,.bool table]) mixed zuv zwa (fun b h=>h.elim) trivial trivial
  ⟨fun b=>b=P∨b=L∨b=Bs∨b=B,fun b hb=>⟨by rcases hb with rfl|rfl|rfl|rfl;exact hm.pl;exact hm.ll;exact hm.sl;exact hm.bl,fun h=>by obtain ⟨k,_,h1,_⟩:=h;cases k<;>cases h1⟩,⟨.inl rfl,.inr (.inl rfl),.inr (.inr (.inl rfl)),.inr (.inr (.inr rfl)),hm⟩,trivial⟩
  ⟨?_,?_,?_,trivial⟩ (ai (iB dp rfl) (ai (hR _) (ai (aA dh) (ai (fA db) RL.nil)))) (aT.2 trivial)) fun e w' hh'=> ?_
 ·exact iU (Dw.enters_of (by kernel_rfl)) (by decide) [vp P,r.val,.bool false] (.int .i64 0) (fun j=>ai (iB dp rfl) (ai (hR j) (ai (fA rfl) RL.nil))) (fun j=>aA rfl) fun w F q hf=>zvg hf.1.2.2.2.2 hr
 ·refine ⟨Dw.enters_of (by kernel_rfl),fun j w1 vals F n hv hnone hb hF hsz hf _=> ?_⟩;have hb:n=2:=hb (by decide);subst hb;have hv:=Cu (by decide) hv (ai (iB dp rfl) (ai (hR j) (ai (aA dh) (ai (fA db) RL.nil))));subst hv;obtain ⟨⟨f1,f2,f3,f4,hm1⟩,_⟩:=hf;refine yas (hsp w1 hm1) fun en w' hh=> ?_;obtain ⟨u,rfl,hu,hbl⟩:=hh;have hlt:=hu.lt;refine ⟨_,[u],fun b=>F b∨u.ownBlock=some b,rfl,rfl,oD (ai ⟨⟨⟨0,0,0,some u⟩,?_,rfl⟩,hu.one,fun _ h=>(by cases h)⟩ (ai (aA dN) (ai (aA dE) RL.nil))),⟨⟨.inl f1,.inl f2,.inl f3,.inl f4,hm1.below hbl⟩,u,rW,hu.mono hsz,fun b hb=> .inr hb⟩,?_,Dw.Mv.of_below hbl⟩
  ·show jq j 2 _ 2=_;unfold jq;rw [yak ⟨yab _,by simp⟩];simp
  ·rintro b (hb|hb)
   ·exact ⟨yad (hF b hb) hbl.size,.inl hb⟩
   ·exact ⟨(hlt b hb).2.1,.inr (hlt b hb).1⟩
 ·refine ⟨Dw.enters_of (by kernel_rfl),fun j w1 vals F n hv hnone hb hF hsz hf _=> ?_⟩;have hb:n=3:=hb (by decide);subst hb;obtain ⟨⟨f1,f2,f3,f4,hm1⟩,u,hq,hu,NV⟩:=hf;obtain ⟨v1,m1,rfl,hv1,v2,m2,rfl,⟨⟨Lq,hj,tu⟩,_⟩,hm2⟩:=hv;have hm2:m2= []:=hm2;subst hm2;have hv1:=zGm (by decide) hv1 (iB (ρ:=ρ) (j:=j) dp rfl);subst hv1;have hv2:v2=u:=by
   unfold gQ at hq;rw [hj] at hq;simp only [ybF] at hq;rw [tu] at hq;exact yaC hq
  subst hv2;obtain ⟨sa,c,he2,hsa⟩:=hu.slice;have hlt:=hu.lt;have hseg:=hu.rV hgood.1 (A:=fun _=>False) fun _ _ h=>h;rw [he2] at hseg;have hlk:=zvt hm1 hN hN1 hseg (by omega) fun R o e=>by
   have h1:=(hlt R (hsa R o e)).1;have:=hm.pl;have:=hm.ll;have:=hm.sl;have:=hm.bl;omega
  rw [S9] at hlk;rw [he2];refine yas hlk fun en w' hh=> ?_;obtain ⟨rfl,hbl⟩:=hh;have hu':cO w' w.heap.size (if LE=0 then .slice sa RES.aQ.length c else .slice none 0 0) l':=by
   rw [←hl'];by_cases h0:LE=0
   ·rw [yak h0,yak h0,←he2];exact hu.kept fun b hb=>hbl.block b (hlt b hb).2.1
   ·rw [yai h0,yai h0];exact cO.nil _ _
  have hub: ∀b,(if LE=0 then Value.slice sa RES.aQ.length c else .slice none 0 0).ownBlock=some b→v2.ownBlock=some b:=fun b hb=>by
   by_cases h0:LE=0
   ·rw [yak h0,←he2] at hb;exact hb
   ·rw [yai h0] at hb;cases hb
  refine ⟨_,[if LE=0 then .slice sa RES.aQ.length c else .slice none 0 0],F,rfl,rfl,oD (ai ⟨⟨⟨0,0,0,some _⟩,?_,rfl⟩,hu'.one,fun _ h=>(by cases h)⟩ (ai (aA dL) RL.nil)),⟨⟨f1,f2,f3,f4,hm1.below hbl⟩,_,rW,hu',fun b hb=>NV b (hub b hb)⟩,fun b hb=>⟨yad (hF b hb) hbl.size,.inl hb⟩,Dw.Mv.of_below hbl⟩;show jq j 3 _ 3=_;unfold jq;rw [yak ⟨yab _,by simp⟩];simp
 ·obtain ⟨p,hpm,hto,lf,hlf,j,he⟩:=hh';have hb:=fG he (fun _ h=>h);unfold znr at hpm;simp only [yac,yae,yav] at hpm;rcases hpm with rfl|rfl
  all_goals
   simp only [aZ,aT,lU,dW,zag,dE,yaU,ydY,ne_eq,ydf] at hto;cases hlf
  ·rw [yai hto];refine ⟨.slice none 0 0,he.ret.trans ?_,cO.nil _ _,hb⟩;simp only [AV.val,AV.aP,dW,dE]
  ·rw [yak hto];obtain ⟨Fs,_,_,u,hu,hf',_⟩:=he.fO;have hu':(dH j 3).q.getD undef=u:=vK (ρ:=ρ) hu;have e1:(if LE=0 then (RES.aQ,(0:Int)) else ([],LE))=(l',LE):=by
    rw [←hl'];by_cases h0:LE=0
    ·rw [yak h0,yak h0,h0]
    ·rw [yai h0,yai h0]
   rw [e1];refine ⟨u,he.ret.trans ?_,hf',hb⟩;simp only [AV.val,AV.aP,dW,dL];rw [hu']
open Go.Maps Go.Sort
set_option maxRecDepth 100000 in
theorem Tryz.JW {A:Nat→Prop} {w:World} {v:Value} {l:List Sg} (h:aL A w v l) (hl:l.length≤1000000):
    Calls prog 57 #[v] w fun e w'=> ∃u,e= .returned u∧cO w' w.heap.size u l∧Below w.heap.size w w':=by
  obtain ⟨sa,c,rfl,hok,hr⟩:=h;have hinfo:=FR;cases hi:prog.info? 48 with
  | none=>rw [hi] at hinfo;cases hinfo
  | some i=>
  rw [hi] at hinfo;simp only [yaJ,ybP,ych] at hinfo;obtain ⟨i1,i2,i3⟩:=hinfo;have zm:=PI l;cases sa with
  | none=>
    have h0:l= []:=by
      rcases hr with h|⟨R,o,h,_⟩
      · exact h
      · cases h
    subst h0;go_enter func57,ntmps57;go_wp2;go_ret;exact ⟨_,rfl,cO.nil _ _,yag _ _⟩
  | some ad=>
    have hnews: ∀j u,(dX l)[j]? =some u→w.cell? (ad.add j)=some u:=fun j u hj=>by
      rcases hr with h|⟨R,o,h,_,hr⟩
      · subst h;cases hj
      · cases h;rw [Dw.addr_add];exact hr j u hj
    have hlen:=EA l;go_enter func57,ntmps57;go_wp2_with (first
      | (at_builtin;go_loud (refine ya4 _ rfl _ _ 36 rfl w.heap.size 48 i _ 3 16 (by kernel_rfl) hi i1 i2 i3 rfl (by decide) (.slice none 0 0) 0 [] rfl ⟨rfl,.inl ⟨rfl,rfl⟩⟩ ad l.length c (dX l) rfl (by omega) hnews zm (by unfold maxLen;omega) (by omega) (yab _) ?_);intro u w' h2 h3 h4 h5;go_frame)
      | go_in)
    go_ret;refine ⟨_,rfl,?_,⟨h3.os,h3.tape,h3.output,h3.size,fun b hb=>h3.block b hb (by simp [Value.ownBlock])⟩⟩;unfold cO;simpa using h2
def Tryz.yM (P L Bs B N:Nat) (g:Nat→Int) (b2:Nat) (l:List Sg):aU where
 fact k q F w:=(F P∧F L∧F Bs∧F B∧GM w P L Bs B N g)∧(match k with|0=>True|1=> ∃u,q 6=some u∧jl b2 u l F w|_=> ∃u u2,q 6=some u∧q 7=some u2∧jl b2 u l F w∧jl b2 u2 l F w)
 loc:=fun k q q' F w w' h hq hb hs=>by
  obtain ⟨⟨h1,h2,h3,h4,h5⟩,h6⟩:=h;refine ⟨⟨h1,h2,h3,h4,h5.kept (fun b _ hb'=>by rcases hb' with rfl|rfl|rfl|rfl<;>exact hb _ (by assumption)) hs⟩,?_⟩
  match k,h6 with
  | 0,_=>trivial
  | 1,⟨u,h7,h8⟩=>exact ⟨u,hq _ _ h7,jl.kept h8 hb⟩
  | k+2,⟨u,u2,h7,h8,h9,h10⟩=>exact ⟨u,u2,hq _ _ h7,hq _ _ h8,jl.kept h9 hb,jl.kept h10 hb⟩
def Tryz.iK (N:Nat) (r:Rg) (g:Nat→Int) (s:SS):Int×SS:=
 if dP s.hd s.tk=none∧(eX N g r s.hd s.tb).2=0 then (0,({ s with tk:=s.tk++ [(s.hd,(eX N g r s.hd s.tb).1)],sg:=(eX N g r s.hd s.tb).1,nx:=(s.nx+1)%65536 }:SS).stop) else (4,s.brk)
theorem Tryz.Qb {N:Nat} {g:Nat→Int} {r:Rg} {head:Int} {table:Bool} (hg: ∀j,0≤g j∧g j<256) (hr:RgOk r):(∀y∈(eX N g r head table).1,y.ok)∧(eX N g r head table).1.length≤40000:=by
 have h1:=PL (N:=N) (r:=r) (head:=head) (table:=table) hg;have h2:=Ql (N:=N) (head:=head) (table:=table) hg hr;unfold eX;split
 ·split
  ·exact ⟨h1.1,h2⟩
  ·exact ⟨fun y hy=>(by cases hy),by simp⟩
 ·exact ⟨fun y hy=>(by cases hy),by simp⟩
theorem Tryz.Qv {ρ:Val} {w0:World} {K:Nat→Prop} {P L Bs B N:Nat} {g:Nat→Int} {r:Rg} {head:Int} {table:Bool} {e:SE} (hN:N≤1048576) (hN1:1≤N) (hr:RgOk r) (hR: ∀j,Dw.R ρ j rg r.val) (hp:ρ.v 0=vp P) (hh:0≤head∧head<65536) (dh:(aF 7).den ρ=head) (db:ρ.b 1=table) (de:e.den ρ=(eX N g r head table).2):
  mq prog ρ w0 K (yM P L Bs B N g w0.heap.size (eX N g r head table).1) (Le e):=by
 refine ⟨Dw.enters_of (by kernel_rfl),fun j w1 vals F n hv hnone hb hF hsz hf _=> ?_⟩;have hb:n=6:=hb (by show (1:Nat)≠0;decide);subst hb;have hv:RL ρ j [.cst 0 none,rg,.int .i64 (aF 7),.bool (.var 1)] vals:=hv;have hv:=Cu (by decide) hv (ai (iB hp rfl) (ai (hR j) (ai (aA dh) (ai (fA db) RL.nil))));subst hv;obtain ⟨⟨f1,f2,f3,f4,hm1⟩,_⟩:=hf;refine yas (zzy hm1 hN hN1 hr hh) fun en w' hh=> ?_;obtain ⟨u,rfl,hu,hbl⟩:=hh;have hlt:=hu.lt;refine ⟨_,[u],fun b=>F b∨u.ownBlock=some b,rfl,rfl,oD (ai ⟨⟨⟨0,0,0,some u⟩,?_,rfl⟩,hu.one,fun _ h=>(by cases h)⟩ (ai (aA de) RL.nil)),⟨⟨.inl f1,.inl f2,.inl f3,.inl f4,hm1.below hbl⟩,u,rW,hu.mono hsz,fun b hb=> .inr hb⟩,?_,Dw.Mv.of_below hbl⟩
 ·show jq j 6 _ 6=_;unfold jq;rw [yak ⟨yab _,by simp⟩];simp
 ·rintro b (hb|hb)
  ·exact ⟨yad (hF b hb) hbl.size,.inl hb⟩
  ·exact ⟨(hlt b hb).2.1,.inr (hlt b hb).1⟩
theorem Tryz.zvN {ρ:Val} {w0:World} {K:Nat→Prop} {P L Bs B N:Nat} {g:Nat→Int} {l:List Sg} (hok: ∀y∈l,y.ok) (hl:l.length≤1000000):mq prog ρ w0 K (yM P L Bs B N g w0.heap.size l) zzb:=by
 refine ⟨Dw.enters_of (by kernel_rfl),fun j w1 vals F n hv hnone hb hF hsz hf _=> ?_⟩;have hb:n=7:=hb (by decide);subst hb;obtain ⟨⟨f1,f2,f3,f4,hm1⟩,u,hq,hu,NV⟩:=hf;obtain ⟨v2,m2,rfl,⟨⟨Lq,hj,tu⟩,_⟩,hm2⟩:=hv;have hm2:m2= []:=hm2;subst hm2;have hv2:v2=u:=by
  unfold gQ at hq;rw [hj] at hq;simp only [ybF] at hq;rw [tu] at hq;exact yaC hq
 subst hv2;refine yas (JW (hu.rV hok (A:=fun _=>False) fun _ _ h=>h) hl) fun en w' hh=> ?_;obtain ⟨u2,rfl,hu2,hbl⟩:=hh;have hlt:=hu2.lt;have NR:gQ (jq j 7 [u2]) 6=some v2:=by
  unfold gQ at hq ⊢;have e:jq j 7 [u2] 6=j 6:=by unfold jq;rw [yai (by simp)]
  rw [e];exact hq
 refine ⟨_,[u2],fun b=>F b∨u2.ownBlock=some b,rfl,rfl,⟨⟨⟨0,0,0,some u2⟩,?_,rfl⟩,hu2.one,fun _ h=>(by cases h)⟩,⟨⟨.inl f1,.inl f2,.inl f3,.inl f4,hm1.below hbl⟩,v2,u2,NR,rW,⟨hu.kept fun b hb=>hbl.block b (hu.lt b hb).2.1,fun b hb=> .inl (NV b hb)⟩,hu2.mono hsz,fun b hb=> .inr hb⟩,?_,Dw.Mv.of_below hbl⟩
 ·show jq j 7 _ 7=_;unfold jq;rw [yak ⟨yab _,by simp⟩];simp
 ·rintro b (hb|hb)
  ·exact ⟨yad (hF b hb) hbl.size,.inl hb⟩
  ·exact ⟨(hlt b hb).2.1,.inr (hlt b hb).1⟩
theorem Tryz.Rc {A:Nat→Prop} {w:World} {S P M:Nat} {r:Rg} {s:SS} {ρ:Val} {j:J} {K:Nat→Prop} {g:aU} (h:iq A w S P M r s) (hK:K M) {k:Int} {o:Option AV} {ov:Option Value} (hk:(aF 7).den ρ=k) (ho:RO ρ j o ov) (hv: ∀arr clock,w.heap[M]? =some (.map arr clock)→dB arr k=ov):wo ρ j (gW w K g) (M,0) (.dm [(.int .i64 (aF 7),o)]):=by
 obtain ⟨arr,clock,h1,h2,_⟩:=h.tk.map;refine ⟨hK,rfl,arr,clock,[(k,ov)],h1,h2,⟨k,ov,[],rfl,aA hk,ho,rfl⟩,fun k' o' hm=> ?_⟩;simp only [yac,ych,yae,yav] at hm;obtain ⟨rfl,rfl⟩:=hm;exact hv arr clock h1
theorem Tryz.QE {P L Bs B N:Nat} {g:Nat→Int} {b2:Nat} {l:List Sg} {bl:List (Nat×Nat)} {w:World} (h:GM w P L Bs B N g) (hn: ∀b,b=P∨b=L∨b=Bs∨b=B→ ¬Mine (aJ bl) b):(yM P L Bs B N g b2 l).G 0 (aJ bl) w:=
 ⟨fun b=>b=P∨b=L∨b=Bs∨b=B,fun b hb=>⟨by rcases hb with rfl|rfl|rfl|rfl;exact h.pl;exact h.ll;exact h.sl;exact h.bl,hn b hb⟩,⟨.inl rfl,.inr (.inl rfl),.inr (.inr (.inl rfl)),.inr (.inr (.inr rfl)),h⟩,trivial⟩
set_option maxRecDepth 10000 in
theorem Tryz.zzo {A:Nat→Prop} {w:World} {S P L Bs B M N:Nat} {r:Rg} {s:SS} {g:Nat→Int} (h:SW A w S P L Bs B M N r s g) (hb:s.br=false) (hp:s.ph=7):
  Calls prog 28 #[.pointer (some ⟨S,0,none⟩)] w fun e w'=>e= .returned (.tuple #[dM 1 0 0,.int .i64 (iK N r g s).1])∧SW A w' S P L Bs B M N r (iK N r g s).2 g∧Dw.Mv (sK S M B) w w':=by
 obtain ⟨nv,sv,ho,hn,hsv⟩:=h.aj.obj;have hrg:=h.aj.rg;have hg:=h.mem.byte;have hN1:1≤N:=by have:=h.fit;have:=hrg.bnd;have:=hrg.d0;omega
 obtain ⟨hgs,hgl⟩:=Qb (N:=N) (head:=s.hd) (table:=s.tb) hg hrg;have gY:nv=qO S 113:=by
  rw [hp] at hn;cases hn with
  | idle h _=>cases h
  | gZ f h hv=>cases h;exact hv
  | fence f _ _ h=>cases h
 subst gY;have hj2:aJ [(S,0),(M,0)] 2=some ⟨M,0,0,none⟩:=rfl;have hj1:aJ [(S,0),(M,0)] 1=some ⟨S,0,0,none⟩:=rfl;have SV: ∀b,w.heap.size≤b→ ¬A b:=fun b hb ha=>by have:=h.lt b ha;omega
 have aa9: ∀(arr:Array MapEntry) (clock:Nat),w.heap[M]? =some (.map arr clock)→(dP s.hd s.tk=none→dB arr s.hd=none)∧ ∀l,dP s.hd s.tk=some l→ ∃v,dB arr s.hd=some v∧aL A w v l:=fun arr clock hm=>by
  obtain ⟨wF,clock1,g1,g2,g3⟩:=h.aj.tk.map;rw [g1] at hm;cases hm;exact g3 s.hd
 have fail: ∀ {ρ:Val} {e:Ending} {w':World} {j:J} {ls:Leaf},AA ρ r s (vp P) sv→oG ρ w (sK S M B) (yM P L Bs B N g w.heap.size (eX N g r s.hd s.tb).1) [(S,0),(M,0)] ls e w' j→
   ls=⟨.aH [.agg [.int .i64 (.lit 1),.int .i64 (.lit 0),.int .i64 (.lit 0)],.int .i64 (.lit 4)],[(1,[.cst 0 none,.bool (.lit false),.int .i64 (ah 0),.int .u64 (af 1),.int .u64 (af 2),.int .u64 (af 3),.bool (.var 0),.bool (.var 1),.bool (.var 2),.int .u16 (aF 4),.int .u16 (aF 5),.map 2,.fT,.int .i64 (.lit 0),.bool (.lit false),.int .i64 (.lit 0),.bZ,.int .u32 (.lit 0),.bool (.lit false),.bool (.var 5),.bool (.lit true)])],[(2,[])],1,[1]⟩→
   iK N r g s=(4,s.brk)→e= .returned (.tuple #[dM 1 0 0,.int .i64 (iK N r g s).1])∧SW A w' S P L Bs B M N r (iK N r g s).2 g∧Dw.Mv (sK S M B) w w':=fun {ρ e w' j ls} hd he hls hch=>by
  subst hls;have aW:=he.sub _ _ hj1;have bC:=he.sub _ _ hj2;have dO:=bB aW;have dS:=bB bC;have hmv:=he.mv;have bU:=h.kA hmv;obtain ⟨Fs,_,⟨_,_,_,_,hgm⟩,_⟩:=he.fO;have hO:=(he.rows.1 _ aW).2 (.inr (.inl rfl)) rfl;have hM:=he.maps.1 _ bC;simp only [AV.val,AV.aP,dO,dS,hd.n,hd.d,hd.v,hd.c,hd.nx,hd.us,hd.hd,hd.wr,hd.p,hd.sv,dW,zag,dJ,jO,hd.op,hd.b0,hd.b1,hd.b2,hd.b3,hd.b4,hd.b5] at hO;rw [hch];exact ⟨he.ret,h.next hmv hgm ⟨_,_,hO,.idle rfl rfl,aL.none⟩ (h.aj.tk.same bU hM) h.aj.nx h.aj.us o8 z32,hmv⟩
 cases htk:dP s.hd s.tk with
 | some l0=>
  obtain ⟨v0,_,aa8⟩: ∃v0,(∀arr clock,w.heap[M]? =some (.map arr clock)→dB arr s.hd=some v0)∧v0.oneCell'=true:=by
   obtain ⟨wF,clock1,g1,g2,g3⟩:=h.aj.tk.map;obtain ⟨v0,h1,h2⟩:=(g3 s.hd).2 l0 htk;exact ⟨v0,fun arr clock hm=>by rw [g1] at hm;cases hm;exact h1,h2.one⟩
  have hv0: ∀arr clock,w.heap[M]? =some (.map arr clock)→dB arr s.hd=some v0:=by assumption
  have hd:=mU h.aj 0 (eX N g r s.hd s.tb).2 (vp P) sv v0;have hR: ∀j,Dw.R (fw r s 0 (eX N g r s.hd s.tb).2 (vp P) sv v0) j rg r.val:=fun j=>dY hrg;have d11:SE.den (fw r s 0 (eX N g r s.hd s.tb).2 (vp P) sv v0) (.var 11)=(eX N g r s.hd s.tb).2:=rfl;have dv2:(fw r s 0 (eX N g r s.hd s.tb).2 (vp P) sv v0).v 2=v0:=rfl;generalize fw r s 0 (eX N g r s.hd s.tb).2 (vp P) sv v0=ρ at*;refine yas (eD (ρ:=ρ) (K:=sK S M B) (g:=yM P L Bs B N g w.heap.size (eX N g r s.hd s.tb).1) (bl:= [(S,0),(M,0)]) (vals:= [.pointer (some ⟨S,0,none⟩)]) mixed zqS zuW h.iA
   ⟨gy ho (kW hd hb hsv.one hj2 (jP (ai (bT hj1) RL.nil) RL.nil)) (.inl rfl),Rc h.aj (.inr (.inl rfl)) hd.hd ⟨v0,rfl,iB dv2 aa8⟩ hv0,trivial⟩ h.apart (QE h.mem h.mine)
   ⟨Qv h.hN hN1 hrg hR hd.p h.aj.hd hd.hd hd.b1 d11,trivial⟩ (ai (bT hj1) RL.nil) (aT.2 trivial)) fun e w' hh=> ?_
  obtain ⟨p,hpm,hto,l,hl,j,he⟩:=hh;unfold zlh at hpm;simp only [yac,yae,yav] at hpm;have hch:iK N r g s=(4,s.brk):=by unfold iK;rw [yai (by rw [htk];rintro ⟨h1,_⟩;cases h1)]
  rcases hpm with rfl|rfl<;>cases hl<;>exact fail hd he rfl hch
 | none=>
  have hv0: ∀arr clock,w.heap[M]? =some (.map arr clock)→dB arr s.hd=none:=fun arr clock hm=>(aa9 arr clock hm).1 htk;have hd:=mU h.aj 0 (eX N g r s.hd s.tb).2 (vp P) sv undef;have hR: ∀j,Dw.R (fw r s 0 (eX N g r s.hd s.tb).2 (vp P) sv undef) j rg r.val:=fun j=>dY hrg;have d11:SE.den (fw r s 0 (eX N g r s.hd s.tb).2 (vp P) sv undef) (.var 11)=(eX N g r s.hd s.tb).2:=rfl;generalize fw r s 0 (eX N g r s.hd s.tb).2 (vp P) sv undef=ρ at*;by_cases hE:(eX N g r s.hd s.tb).2=0
  ·refine yas (eD (ρ:=ρ) (K:=sK S M B) (g:=yM P L Bs B N g w.heap.size (eX N g r s.hd s.tb).1) (bl:= [(S,0),(M,0)]) (vals:= [.pointer (some ⟨S,0,none⟩)]) mixed zuU zwL h.iA
    ⟨gy ho (kW hd hb hsv.one hj2 (jP (ai (bT hj1) RL.nil) RL.nil)) (.inl rfl),Rc h.aj (.inr (.inl rfl)) hd.hd (o:=none) (ov:=none) rfl hv0,trivial⟩ h.apart (QE h.mem h.mine)
    ⟨Qv h.hN hN1 hrg hR hd.p h.aj.hd hd.hd hd.b1 (by rw [hE];rfl),zvN hgs (by omega),trivial⟩ (ai (bT hj1) RL.nil) (aT.2 trivial)) fun e w' hh=> ?_
   obtain ⟨_,j,he⟩:=iN hh;have aW:=he.sub _ _ hj1;have bC:=he.sub _ _ hj2;have dO:=bB aW;have dS:=bB bC;have hmv:=he.mv;have bU:=h.kA hmv;obtain ⟨Fs,_,⟨_,_,_,_,hgm⟩,u,u2,NR,hq7,⟨hu,_⟩,hu2,_⟩:=he.fO;have e6:(dH j 6).q.getD undef=u:=vK (ρ:=ρ) NR;have e7:(dH j 7).q.getD undef=u2:=vK (ρ:=ρ) hq7;have hO:=(he.rows.1 _ aW).2 (.inr (.inl rfl)) rfl;have hM:=he.maps.1 _ bC;simp only [AV.val,AV.aP,dO,dS,hd.n,hd.d,hd.v,hd.c,hd.nx,hd.us,hd.hd,hd.wr,hd.p,hd.sv,den_add,dW,zag,dJ,jO,hd.op,hd.b0,hd.b1,hd.b2,hd.b3,hd.b4,hd.b5,e7,iF] at hO;have hch:iK N r g s=(0,({ s with tk:=s.tk++ [(s.hd,(eX N g r s.hd s.tb).1)],sg:=(eX N g r s.hd s.tb).1,nx:=(s.nx+1)%65536 }:SS).stop):=by unfold iK;rw [yak ⟨htk,hE⟩]
   rw [hch];refine ⟨he.ret,h.next hmv hgm ⟨_,_,hO,.idle rfl rfl,hu2.rV hgs SV⟩ (h.aj.tk.put bU htk h.aj.hd (hu.rV hgs SV) ?_) ⟨by show 0≤(s.nx+1)%65536;omega,by show (s.nx+1)%65536<65536;omega⟩ h.aj.us h.aj.hd h.aj.wr,hmv⟩;obtain ⟨arr,clock,dz,eZ,m1,m2,m3,m4⟩:=hM;refine ⟨arr,clock,dz,eZ,m1,m2,m3,fun k=> ?_⟩;rw [m4 k];simp only [vU,AV.val,hd.hd,Dw.intOf,yaJ,nV,e6];by_cases hk:k=s.hd
   ·rw [yak hk,yak hk]
   ·rw [yai hk,yai hk,yai hk]
  ·refine yas (eD (ρ:=ρ) (K:=sK S M B) (g:=yM P L Bs B N g w.heap.size (eX N g r s.hd s.tb).1) (bl:= [(S,0),(M,0)]) (vals:= [.pointer (some ⟨S,0,none⟩)]) mixed zqU zuY h.iA
    ⟨gy ho (kW hd hb hsv.one hj2 (jP (ai (bT hj1) RL.nil) RL.nil)) (.inl rfl),Rc h.aj (.inr (.inl rfl)) hd.hd (o:=none) (ov:=none) rfl hv0,trivial⟩ h.apart (QE h.mem h.mine)
    ⟨Qv h.hN hN1 hrg hR hd.p h.aj.hd hd.hd hd.b1 d11,trivial⟩ (ai (bT hj1) RL.nil) (aZ.2 ⟨by rw [lU,d11,zag];simpa using hE,aT.2 trivial⟩)) fun e w' hh=> ?_
   obtain ⟨_,j,he⟩:=iN hh;have hch:iK N r g s=(4,s.brk):=by unfold iK;rw [yai (by rintro ⟨_,h2⟩;exact hE h2)]
   exact fail hd he rfl hch
end Go.Proofs
namespace Go.Proofs
open Go.Dw Go.RowKit
def Tryz.abC:aK:=⟨60,[.cst 2 none],0,0,0,.aH [.int .u64 (af 22),.int .u64 (af 23)],0⟩
def Tryz.U3 (o:Option AV):List Sh:= [.own (qy .fT (.var 5) (.lit false)),.dm [(.int .i64 (.var 20),o)]]
end Go.Proofs
namespace Go.Proofs
open Go.Dw
def Tryz.YW:List aK:= []
def Tryz.znI:List Sh:=U3 none
def Tryz.YX:List AV:= [.ptr 1 0,.int .i64 (.var 20),.int .u32 (bM 21)]
def Tryz.zwu:List (SB×Bool):= []
def Tryz.zsv:List Leaf:= [
 ⟨.int .i64 (.lit 6),[(1,[.cst 0 none,.bool (.lit false),.int .i64 (ah 0),.int .u64 (af 1),.int .u64 (af 2),.int .u64 (af 3),.bool (.var 0),.bool (.var 1),.bool (.var 2),.int .u16 (aF 4),.int .u16 (aF 5),.map 2,.fT,.int .i64 (.var 6),.bool (.var 3),.int .i64 (aF 7),.cst 1 none,.int .u32 (bM 8),.bool (.var 4),.bool (.var 5),.bool (.lit false)])],[(2,[])],0,[1]⟩]
def Tryz.zzT:List (List (SB×Bool)×Nat):= [
 ([], 0)]
theorem Tryz.zwt:(ev prog (bG YW) 100000 (.call 19 YX (bn 0 znI) (cK zsv 0))).ways zwu=some zzT:=by kernel_rfl
theorem Tryz.zzU:(bJ znI&&bI YW&&AV.bQ YX&&dx zsv)=true:=by kernel_rfl
def Tryz.Zh:List aK:= [abC]
def Tryz.znH:List Sh:=U3 (some (.cst 2 none))
def Tryz.Zi:List AV:= [.ptr 1 0,.int .i64 (.var 20),.int .u32 (bM 21)]
def Tryz.zws:List (SB×Bool):= []
def Tryz.zsu:List Leaf:= [
 ⟨.int .i64 (.lit 2),[(1,[.cst 0 none,.bool (.lit false),.int .i64 (ah 0),.int .u64 (af 1),.int .u64 (af 2),.int .u64 (af 3),.bool (.var 0),.bool (.var 1),.bool (.var 2),.int .u16 (aF 4),.int .u16 (aF 5),.map 2,.fT,.int .i64 (.var 6),.bool (.var 3),.int .i64 (aF 7),.cst 1 none,.int .u32 (bM 8),.bool (.var 4),.bool (.var 5),.bool (.lit false)])],[(2,[])],0,[1]⟩,
 ⟨.int .i64 (.lit 0),[(1,[.cst 0 none,.bool (.lit false),.int .i64 (ah 0),.int .u64 (af 1),.int .u64 (af 2),.int .u64 (af 3),.bool (.var 0),.bool (.var 1),.bool (.var 2),.int .u16 (aF 4),.int .u16 (aF 5),.map 2,.func 61 [.ptr 1 0] [],.int .i64 (.lit 4),.bool (.lit false),.int .i64 (.var 20),.bZ,.int .u32 (bM 21),.bool (.lit false),.bool (.lit false),.bool (.lit false)])],[(2,[])],0,[1]⟩]
def Tryz.zst:List (List (SB×Bool)×Nat):= [
 ([((.cmp .gtr (bM 21) (af 23)),true)],0),
 ([((.cmp .gtr (bM 21) (af 23)),false)],1)]
theorem Tryz.zwr:(ev prog (bG Zh) 100000 (.call 19 Zi (bn 0 znH) (cK zsu 0))).ways zws=some zst:=by kernel_rfl
theorem Tryz.zzS:(bJ znH&&bI Zh&&AV.bQ Zi&&dx zsu)=true:=by kernel_rfl
def Tryz.Ya:List aK:= []
def Tryz.Ze:List Sh:= [.own (qy .fT (.var 5) (.lit false)),.dm []]
def Tryz.Yb:List AV:= [.ptr 1 0]
def Tryz.zuJ:List (SB×Bool):= []
def Tryz.znF:List Leaf:= [
 ⟨.aH [.agg [.int .i64 (.lit 0),.int .i64 (.lit 0),.int .i64 (.lit 0)],.int .i64 (.lit 8)],[(1,[.cst 0 none,.bool (.lit false),.int .i64 (ah 0),.int .u64 (af 1),.int .u64 (af 2),.int .u64 (af 3),.bool (.var 0),.bool (.var 1),.bool (.var 2),.int .u16 (aF 4),.int .u16 (aF 5),.map 2,.fT,.int .i64 (.var 6),.bool (.var 3),.int .i64 (aF 7),.cst 1 none,.int .u32 (bM 8),.bool (.var 4),.bool (.var 5),.bool (.lit false)])],[(2,[])],0,[1]⟩]
def Tryz.zwn:List (List (SB×Bool)×Nat):= [
 ([], 0)]
theorem Tryz.zuI:(ev prog (bG Ya) 100000 (.call 28 Yb (bn 0 Ze) (cK znF 0))).ways zuJ=some zwn:=by kernel_rfl
theorem Tryz.zwo:(bJ Ze&&bI Ya&&AV.bQ Yb&&dx znF)=true:=by kernel_rfl
def Tryz.X6:List aK:= []
def Tryz.Zd:List Sh:= [.own (qy (.cst 3 none) (.var 5) (.lit true)),.dm []]
def Tryz.X8:List AV:= [.ptr 1 0]
def Tryz.zuH:List (SB×Bool):= []
def Tryz.znE:List Leaf:= [
 ⟨.aH [.agg [.int .i64 (.lit 0),.int .i64 (.lit 0),.int .i64 (.lit 0)],.int .i64 (.lit 4)],[(1,[.cst 0 none,.bool (.lit false),.int .i64 (ah 0),.int .u64 (af 1),.int .u64 (af 2),.int .u64 (af 3),.bool (.var 0),.bool (.var 1),.bool (.var 2),.int .u16 (aF 4),.int .u16 (aF 5),.map 2,.cst 3 none,.int .i64 (.var 6),.bool (.var 3),.int .i64 (aF 7),.cst 1 none,.int .u32 (bM 8),.bool (.var 4),.bool (.var 5),.bool (.lit true)])],[(2,[])],0,[1]⟩]
def Tryz.zwl:List (List (SB×Bool)×Nat):= [
 ([], 0)]
theorem Tryz.zuG:(ev prog (bG X6) 100000 (.call 28 X8 (bn 0 Zd) (cK znE 0))).ways zuH=some zwl:=by kernel_rfl
theorem Tryz.zwm:(bJ Zd&&bI X6&&AV.bQ X8&&dx znE)=true:=by kernel_rfl
open Go.RowKit Go.Maps Go.Sort
theorem Tryz.zEe (M:Nat) (w:World):(binOp .neq 123 (.map (some M)) (.map none)).run prog w= .ok (.bool true) w:=by
 rw [run_neq_map_nil w 123 3 36 (some M) underlying123];rfl
theorem Tryz.zED (d:Nat) (f:Fn) (a b:Array Value) (w:World):(Op.equalIn (d+1) 124 (.func f a b) .nilFunc).run prog w= .ok false w:=by
 simp [Op.equalIn,run_underlying underlying124]
theorem Tryz.zyT (d:Nat) (w:World):(Op.equalIn (d+1) 124 .nilFunc .nilFunc).run prog w= .ok true w:=by
 simp [Op.equalIn,run_underlying underlying124]
theorem Tryz.zGy (f:Fn) (a b:Array Value) (w:World):(Op.equal 124 (.func f a b) .nilFunc).run prog w= .ok false w:=zED 9999 f a b w
theorem Tryz.zEC (w:World):(Op.equal 124 .nilFunc .nilFunc).run prog w= .ok true w:=zyT 9999 w
theorem Tryz.zF9 (f:Fn) (a b:Array Value) (w:World):(binOp .neq 124 (.func f a b) .nilFunc).run prog w= .ok (.bool true) w:=by
 simp only [binOp];simp [zGy]
theorem Tryz.zEA (w:World):(binOp .neq 124 .nilFunc .nilFunc).run prog w= .ok (.bool false) w:=by
 simp only [binOp];simp [zEC]
section
variable {A:Nat→Prop} {w:World} {S P M:Nat} {r:Tryz.Rg} {s:Tryz.SS}
theorem Tryz.mI.fn {A:Nat→Prop} {w:World} {S ph:Nat} {v:Value} (h:mI A w S ph v):(ph=0→v= .nilFunc)∧(ph≠0→ ∃f a b,v= .func f a b):=by
 cases h with
 | idle h hv=>exact ⟨fun _=>hv,fun hn=>absurd h hn⟩
 | gZ f h hv=>
  refine ⟨fun h0=> ?_,fun _=>⟨_,_,_,hv⟩⟩;subst h0;cases h
 | fence f X Y h hv=>
  refine ⟨fun h0=> ?_,fun _=>⟨_,_,_,hv⟩⟩;subst h0;cases h
set_option maxRecDepth 100000 in
theorem Tryz.Ch (h:iq A w S P M r s):Calls prog 56 #[.pointer (some ⟨S,0,none⟩)] w fun e w'=>e= .returned (.bool true)∧w'=w:=by
 obtain ⟨nv,sv,ho,hn,hsv⟩:=h.obj;have c1:=kV ho (i:=11) rfl;have hq:=zEe M;clear ho;go_enter func56,ntmps56;go_wp2;go_ret;exact ⟨rfl,rfl⟩
set_option maxRecDepth 100000 in
theorem Tryz.zyS (h:iq A w S P M r s):Calls prog 29 #[.pointer (some ⟨S,0,none⟩)] w fun e w'=>e= .returned (.int .i64 (if s.br then 4 else 0))∧w'=w:=by
  have hm:=Ch h;obtain ⟨nv,sv,ho,hn,hsv⟩:=h.obj;have c1:=kV ho (i:=20) rfl;clear ho;cases hb:s.br<;>rw [hb] at c1
  all_goals
    go_enter func29,ntmps29;go_wp2_with (first
      | (go_at_call 56;refine hm.mono ?_;rintro e w' ⟨rfl,hw⟩;have hw:=hw.symm;subst hw)
      | go_in)
    go_ret;exact ⟨rfl,rfl⟩
set_option maxRecDepth 100000 in
theorem Tryz.KH (h:iq A w S P M r s):Calls prog 27 #[.pointer (some ⟨S,0,none⟩)] w fun e w'=>e= .returned (.bool (decide (s.ph≠0)))∧w'=w:=by
  have hm:=Ch h;obtain ⟨nv,sv,ho,hn,hsv⟩:=h.obj;have c1:=kV ho (i:=12) rfl;clear ho;have hq:=zF9;have hq0:=zEA;by_cases h0:s.ph=0
  · have gY:=hn.fn.1 h0;rw [gY] at c1;rw [ybd (fun hh=>hh h0)];go_enter func27,ntmps27;go_wp2_with (first
      | (go_at_call 56;refine hm.mono ?_;rintro e w' ⟨rfl,hw⟩;have hw:=hw.symm;subst hw)
      | go_in)
    go_ret;exact ⟨rfl,rfl⟩
  · obtain ⟨f,a,b,gY⟩:=hn.fn.2 h0;rw [gY] at c1;rw [ya1 h0];go_enter func27,ntmps27;go_wp2_with (first
      | (go_at_call 56;refine hm.mono ?_;rintro e w' ⟨rfl,hw⟩;have hw:=hw.symm;subst hw)
      | go_in)
    go_ret;exact ⟨rfl,rfl⟩
set_option maxRecDepth 100000 in
theorem Tryz.zoE (h:iq A w S P M r s) (hnr:s.br=true∨s.ph≠0):Calls prog 53 #[.pointer (some ⟨S,0,none⟩)] w fun e w'=>e= .returned (.int .i64 (if s.br then 4 else 8))∧w'=w:=by
  have he:=zyS h;have hi:=KH h;cases hb:s.br with
  | true=>
    rw [hb,yak rfl] at he;go_enter func53,ntmps53;go_wp2_with (first
      | (go_at_call 29;refine he.mono ?_;rintro e w' ⟨rfl,hw⟩;have hw:=hw.symm;subst hw)
      | go_in)
    go_ret;exact ⟨rfl,rfl⟩
  | false=>
    rw [hb,yai (by decide)] at he;have h0:s.ph≠0:=hnr.resolve_left (by rw [hb];decide);rw [ya1 h0] at hi;go_enter func53,ntmps53;go_wp2_with (first
      | (go_at_call 29;refine he.mono ?_;rintro e w' ⟨rfl,hw⟩;have hw:=hw.symm;subst hw)
      | (go_at_call 27;refine hi.mono ?_;rintro e w' ⟨rfl,hw⟩;have hw:=hw.symm;subst hw)
      | go_in)
    go_ret;exact ⟨rfl,rfl⟩
set_option maxRecDepth 100000 in
theorem Tryz.zDX (h:iq A w S P M r s) (hnr:s.br=true∨s.ph≠0):Calls prog 13 #[.pointer (some ⟨S,0,none⟩)] w fun e w'=>e= .returned (.int .i64 (if s.br then 4 else 8))∧w'=w:=by
  have he:=zoE h hnr;cases hb:s.br<;>rw [hb] at he
  all_goals
    simp only [ybU,yaP,ybm] at he;go_enter func13,ntmps13;go_wp2_with (first
      | (go_at_call 53;refine he.mono ?_;rintro e w' ⟨rfl,hw⟩;have hw:=hw.symm;subst hw)
      | go_in)
    go_ret;exact ⟨rfl,rfl⟩
set_option maxRecDepth 100000 in
theorem Tryz.zFI (h:iq A w S P M r s) (hnr:s.br=true∨s.ph≠0) (hd wr:Int):Calls prog 19 #[.pointer (some ⟨S,0,none⟩),.int .i64 hd,.int .u32 wr] w fun e w'=>e= .returned (.int .i64 (if s.br then 4 else 8))∧w'=w:=by
  have he:=zoE h hnr;cases hb:s.br<;>rw [hb] at he
  all_goals
    simp only [ybU,yaP,ybm] at he;go_enter func19,ntmps19;go_wp2_with (first
      | (go_at_call 53;refine he.mono ?_;rintro e w' ⟨rfl,hw⟩;have hw:=hw.symm;subst hw)
      | go_in)
    go_ret;exact ⟨rfl,rfl⟩
end
end Go.Proofs
namespace Go.Proofs
open Go.Dw Go.RowKit
def Tryz.kH (N:Nat) (r:Rg) (s:SS) (g:Nat→Int) (ph:Nat):Value×Int×SS×(Nat→Int):=
 match ph with
 | 1=>(dM 2 3 0,(iO r g s).1,(iO r g s).2,g)
 | 2=>(dM 3 9 0,0,s.goto 3,gF g (r.c+4+8*r.n).toNat 2 s.nx)
 | 3=>(dM 4 0 0,0,s.goto 4,g)
 | 4=>(dM 2 3 0,(jZ r g s).1,(jZ r g s).2,g)
 | 5=>(dM 4 0 0,0,s.goto 6,g)
 | 6=>(dM 2 4 (s.nx.tmod r.n),0,Gn r g s,g)
 | 7=>(dM 1 0 0,(iK N r g s).1,(iK N r g s).2,g)
 | 11=>(dM 3 8 (s.us.tmod r.n),0,s.goto 12,gF g (r.c+4+8*s.us.tmod r.n).toNat 8 (s.hd+s.wr*4294967296))
 | 12=>(dM 4 0 0,0,s.goto 13,g)
 | 13=>(dM 3 7 0,0,({ s with us:=(s.us+1)%65536 }:SS).goto 14,gF g (r.c+2).toNat 2 ((s.us+1)%65536))
 | 14=>(dM 4 0 0,0,s.goto 15,g)
 | 15=>(dM 2 (if s.ev=true then 5 else 2) 0,0,uG r g s,g)
 | _=>(dM 0 0 0,8,s,g)
def Tryz.bW (N:Nat) (r:Rg) (s:SS) (g:Nat→Int):Value×Int×SS×(Nat→Int):=if s.br=true then (dM 0 0 0,4,s,g) else kH N r s g s.ph
section
variable {A:Nat→Prop} {w:World} {S P L Bs B M N:Nat} {r:Tryz.Rg} {s:Tryz.SS} {g:Nat→Int}
theorem Tryz.SW.same (h:SW A w S P L Bs B M N r s g) {w':World} (hm:Dw.Mv (fun b=>b=S∨b=M) w w') (ho: ∃nv sv,Own w' S (s.row r P M nv sv)∧mI A w' S s.ph nv∧aL A w' sv s.sg) (hM: ∃arr clock dz eZ,w'.heap[M]? =some (.map arr clock)∧w.heap[M]? =some (.map dz eZ)∧(jE arr∧kI arr clock)∧ ∀k,dB arr k=dB dz k):SW A w' S P L Bs B M N r s g:=by
 have hmv:Dw.Mv (sK S M B) w w':=hm.mono fun b hb=>hb.imp_right .inl;have hgm:=h.mem.kept (fun k hk hk'=>hm.block k hk (h.zq k hk')) hm.size;exact h.next hmv hgm ho (h.aj.tk.same (h.kA hmv) hM) h.aj.nx h.aj.us h.aj.hd h.aj.wr
theorem Tryz.SW.phs (h:SW A w S P L Bs B M N r s g):s.ph=0∨s.ph=1∨s.ph=2∨s.ph=3∨s.ph=4∨s.ph=5∨s.ph=6∨s.ph=7∨s.ph=11∨s.ph=12∨s.ph=13∨s.ph=14∨s.ph=15:=by
 obtain ⟨nv,sv,_,hn,_⟩:=h.aj.obj;cases hn with
 | idle h0 _=>exact .inl h0
 | gZ f h0 _=>unfold UU at h0;split at h0<;>first|omega|cases h0
 | fence f X Y h0 _=>unfold RH at h0;split at h0<;>first|omega|cases h0
theorem Tryz.zwi (h:SW A w S P L Bs B M N r s g) (hb:s.br=false) (hp:s.ph=0):
  Calls prog 28 #[.pointer (some ⟨S,0,none⟩)] w fun e w'=>e= .returned (.tuple #[dM 0 0 0,.int .i64 8])∧SW A w' S P L Bs B M N r s g∧Dw.Mv (sK S M B) w w':=by
 obtain ⟨nv,sv,ho,hn,hsv⟩:=h.aj.obj;have gY:=hn.fn.1 hp;subst gY;have hd:=mU h.aj 0 0 (vp P) sv undef;generalize fw r s 0 0 (vp P) sv undef=ρ at*;have hj2:aJ [(S,0),(M,0)] 2=some ⟨M,0,0,none⟩:=rfl;have hj1:aJ [(S,0),(M,0)] 1=some ⟨S,0,0,none⟩:=rfl;refine yas (eD (ρ:=ρ) (K:=fun b=>b=S∨b=M) (g:=aU.none) (bl:= [(S,0),(M,0)]) (vals:= [.pointer (some ⟨S,0,none⟩)]) mixed zuI zwo (fun b hb=>h.iA b (hb.imp_right .inl))
  ⟨gy ho (kW hd hb hsv.one hj2 rfl) (.inl rfl),nK h.aj (.inr rfl),trivial⟩ h.apart eH trivial (ai (bT hj1) RL.nil) (aT.2 trivial)) fun e w' hh=> ?_
 obtain ⟨_,j,he⟩:=iN hh;have aW:=he.sub _ _ hj1;have bC:=he.sub _ _ hj2;have dO:=bB aW;have dS:=bB bC;have hO:=(he.rows.1 _ aW).2 (.inr (.inl rfl)) rfl;have hM:=he.maps.1 _ bC;simp only [AV.val,AV.aP,dO,dS,hd.n,hd.d,hd.v,hd.c,hd.nx,hd.us,hd.hd,hd.wr,hd.p,hd.sv,dW,zag,dJ,jO,hd.op,hd.b0,hd.b1,hd.b2,hd.b3,hd.b4,hd.b5] at hO;have yT:Own w' S (s.row r P M .nilFunc sv):=by
  unfold SS.row;rw [hb];exact hO
 have bU: ∀k,k<w.heap.size→ ¬A k→w'.heap[k]? =w.heap[k]? :=fun k hk ha=>he.mv.block k hk (by rintro (rfl|rfl);exact ha h.aj.aS;exact ha h.aj.aM);exact ⟨he.ret,h.same he.mv ⟨_,_,yT,.idle hp rfl,hsv.kept bU⟩ hM,he.mv.mono fun b hb=>hb.imp_right .inl⟩
theorem Tryz.zqC (h:SW A w S P L Bs B M N r s g) (hb:s.br=true):
  Calls prog 28 #[.pointer (some ⟨S,0,none⟩)] w fun e w'=>e= .returned (.tuple #[dM 0 0 0,.int .i64 4])∧SW A w' S P L Bs B M N r s g∧Dw.Mv (sK S M B) w w':=by
 obtain ⟨nv,sv,ho,hn,hsv⟩:=h.aj.obj;have aaW:nv.oneCell'=true:=by
  by_cases h0:s.ph=0
  ·rw [hn.fn.1 h0];rfl
  ·obtain ⟨f,a,b,e⟩:=hn.fn.2 h0;rw [e];rfl
 obtain ⟨ρ,hd,hv3⟩: ∃ρ:Val,AA ρ r s (vp P) sv∧ρ.v 3=nv:=⟨fu r [s.nx,s.us,s.op,s.hd,s.wr,0,0,0] [s.ev,s.tb,s.pk,s.nn,s.it,s.dn] [vp P,sv,undef,nv],
  ⟨jH h.aj.rg,jR h.aj.rg,kg h.aj.rg,ko h.aj.rg,jC h.aj.nx.1 h.aj.nx.2,jC h.aj.us.1 h.aj.us.2,rfl,jC h.aj.hd.1 h.aj.hd.2,pF h.aj.wr.1 h.aj.wr.2,rfl,rfl,rfl,rfl,rfl,rfl,rfl,rfl⟩,rfl⟩
 have hj2:aJ [(S,0),(M,0)] 2=some ⟨M,0,0,none⟩:=rfl;have hj1:aJ [(S,0),(M,0)] 1=some ⟨S,0,0,none⟩:=rfl;have hrow:RL ρ (aJ [(S,0),(M,0)]) (qy (.cst 3 none) (.var 5) (.lit true)) (s.row r P M nv sv):=by
  refine ai (iB hd.p rfl) (ai (fA rfl) (ai (aA hd.n) (ai (aA hd.d) (ai (aA hd.v) (ai (aA hd.c) (ai (fA hd.b0) (ai (fA hd.b1) (ai (fA hd.b2) (ai (aA hd.nx) (ai (aA hd.us) (ai (OT hj2) (ai (iB hv3 aaW)
   (ai (aA hd.op) (ai (fA hd.b3) (ai (aA hd.hd) (ai (iB hd.sv hsv.one) (ai (aA hd.wr) (ai (fA hd.b4) (ai (fA hd.b5) (ai (fA ?_) RL.nil))))))))))))))))))))
  exact hb.symm
 refine yas (eD (ρ:=ρ) (K:=fun b=>b=S∨b=M) (g:=aU.none) (bl:= [(S,0),(M,0)]) (vals:= [.pointer (some ⟨S,0,none⟩)]) mixed zuG zwm (fun b hb=>h.iA b (hb.imp_right .inl))
  ⟨gy ho hrow (.inl rfl),nK h.aj (.inr rfl),trivial⟩ h.apart eH trivial (ai (bT hj1) RL.nil) (aT.2 trivial)) fun e w' hh=> ?_
 obtain ⟨_,j,he⟩:=iN hh;have aW:=he.sub _ _ hj1;have bC:=he.sub _ _ hj2;have dO:=bB aW;have dS:=bB bC;have hO:=(he.rows.1 _ aW).2 (.inr (.inl rfl)) rfl;have hM:=he.maps.1 _ bC;simp only [AV.val,AV.aP,dO,dS,hd.n,hd.d,hd.v,hd.c,hd.nx,hd.us,hd.hd,hd.wr,hd.p,hd.sv,hv3,dW,zag,dJ,jO,hd.op,hd.b0,hd.b1,hd.b2,hd.b3,hd.b4,hd.b5] at hO;have yT:Own w' S (s.row r P M nv sv):=by
  unfold SS.row;rw [hb];exact hO
 have bU: ∀k,k<w.heap.size→ ¬A k→w'.heap[k]? =w.heap[k]? :=fun k hk ha=>he.mv.block k hk (by rintro (rfl|rfl);exact ha h.aj.aS;exact ha h.aj.aM);exact ⟨he.ret,h.same he.mv ⟨_,_,yT,hn.kept bU,hsv.kept bU⟩ hM,he.mv.mono fun b hb=>hb.imp_right .inl⟩
theorem Tryz.zsq (h:SW A w S P L Bs B M N r s g):
  Calls prog 28 #[.pointer (some ⟨S,0,none⟩)] w fun e w'=>e= .returned (.tuple #[(bW N r s g).1,.int .i64 (bW N r s g).2.1])∧SW A w' S P L Bs B M N r (bW N r s g).2.2.1 (bW N r s g).2.2.2∧Dw.Mv (sK S M B) w w':=by
 cases hb:s.br with
 | true=>
  have e:bW N r s g=(dM 0 0 0,4,s,g):=by unfold bW;rw [yak hb]
  rw [e];exact zqC h hb
 | false=>
  have e0: ¬s.br=true:=by rw [hb];decide
  have H8:=h.phs;rcases H8 with hp|hp|hp|hp|hp|hp|hp|hp|hp|hp|hp|hp|hp
  ·have e:bW N r s g=(dM 0 0 0,8,s,g):=by unfold bW;rw [yai e0,hp];rfl
   rw [e];exact zwi h hb hp
  ·have e:bW N r s g=(dM 2 3 0,(iO r g s).1,(iO r g s).2,g):=by unfold bW;rw [yai e0,hp];rfl
   rw [e];exact zBb h hb hp
  ·have e:bW N r s g=(dM 3 9 0,0,s.goto 3,gF g (r.c+4+8*r.n).toNat 2 s.nx):=by unfold bW;rw [yai e0,hp];rfl
   rw [e];exact zyR h hb hp
  ·have e:bW N r s g=(dM 4 0 0,0,s.goto 4,g):=by unfold bW;rw [yai e0,hp];rfl
   rw [e];exact zvK h hb hp
  ·have e:bW N r s g=(dM 2 3 0,(jZ r g s).1,(jZ r g s).2,g):=by unfold bW;rw [yai e0,hp];rfl
   rw [e];exact zzx h hb hp
  ·have e:bW N r s g=(dM 4 0 0,0,s.goto 6,g):=by unfold bW;rw [yai e0,hp];rfl
   rw [e];exact zvJ h hb hp
  ·have e:bW N r s g=(dM 2 4 (s.nx.tmod r.n),0,Gn r g s,g):=by unfold bW;rw [yai e0,hp];rfl
   rw [e];exact zAD h hb hp
  ·have e:bW N r s g=(dM 1 0 0,(iK N r g s).1,(iK N r g s).2,g):=by unfold bW;rw [yai e0,hp];rfl
   rw [e];exact zzo h hb hp
  ·have e:bW N r s g=(dM 3 8 (s.us.tmod r.n),0,s.goto 12,gF g (r.c+4+8*s.us.tmod r.n).toNat 8 (s.hd+s.wr*4294967296)):=by unfold bW;rw [yai e0,hp];rfl
   rw [e];exact zrM h hb hp
  ·have e:bW N r s g=(dM 4 0 0,0,s.goto 13,g):=by unfold bW;rw [yai e0,hp];rfl
   rw [e];exact zrK h hb hp
  ·have e:bW N r s g=(dM 3 7 0,0,({ s with us:=(s.us+1)%65536 }:SS).goto 14,gF g (r.c+2).toNat 2 ((s.us+1)%65536)):=by unfold bW;rw [yai e0,hp];rfl
   rw [e];exact zyo h hb hp
  ·have e:bW N r s g=(dM 4 0 0,0,s.goto 15,g):=by unfold bW;rw [yai e0,hp];rfl
   rw [e];exact zrJ h hb hp
  ·have e:bW N r s g=(dM 2 (if s.ev=true then 5 else 2) 0,0,uG r g s,g):=by unfold bW;rw [yai e0,hp];rfl
   rw [e];cases hev:s.ev with
   | true=>simp only [ybU];exact zwg h hb hp hev
   | false=>simp only [yaP,ybm];exact zwf h hb hp hev
def Tryz.sI (s:SS):Int×SS:=if s.br=true then (4,s) else if s.ph≠0 then (8,s) else (0,({ s with op:=3,nn:=false,hd:=0,sg:= [],wr:=0,it:=false }:SS).goto 1)
theorem Tryz.zA0 (h:SW A w S P L Bs B M N r s g):
  Calls prog 13 #[.pointer (some ⟨S,0,none⟩)] w fun e w'=>e= .returned (.int .i64 (sI s).1)∧SW A w' S P L Bs B M N r (sI s).2 g∧Dw.Mv (sK S M B) w w':=by
 by_cases hno:s.br=true∨s.ph≠0
 ·have e:sI s=((if s.br=true then 4 else 8),s):=by
   unfold sI;by_cases hb:s.br=true
   ·rw [yak hb,yak hb]
   ·rw [yai hb,yai hb,yak (hno.resolve_left hb)]
  rw [e];exact (zDX h.aj hno).mono fun en w' hh=>⟨hh.1,hh.2▸h,hh.2▸Dw.Mv.refl _ _⟩
 have hb:s.br=false:=by
  cases hb:s.br with
  | false=>rfl
  | true=>exact absurd (.inl hb) hno
 have hp:s.ph=0:=ydU fun hp=>hno (.inr hp);have e:sI s=(0,({ s with op:=3,nn:=false,hd:=0,sg:= [],wr:=0,it:=false }:SS).goto 1):=by
  unfold sI;rw [yai (by rw [hb];decide),yai (fun hh=>hh hp)]
 rw [e];obtain ⟨nv,sv,ho,hn,hsv⟩:=h.aj.obj;have gY:=hn.fn.1 hp;subst gY;have hd:=mU h.aj 0 0 (vp P) sv undef;generalize fw r s 0 0 (vp P) sv undef=ρ at*;have hj2:aJ [(S,0),(M,0)] 2=some ⟨M,0,0,none⟩:=rfl;have hj1:aJ [(S,0),(M,0)] 1=some ⟨S,0,0,none⟩:=rfl;refine yas (eD (ρ:=ρ) (K:=fun b=>b=S∨b=M) (g:=aU.none) (bl:= [(S,0),(M,0)]) (vals:= [.pointer (some ⟨S,0,none⟩)]) mixed zwv zzW (fun b hb=>h.iA b (hb.imp_right .inl))
  ⟨gy ho (kW hd hb hsv.one hj2 rfl) (.inl rfl),nK h.aj (.inr rfl),trivial⟩ h.apart eH trivial (ai (bT hj1) RL.nil) (aT.2 trivial)) fun e w' hh=> ?_
 obtain ⟨_,j,he⟩:=iN hh;have aW:=he.sub _ _ hj1;have bC:=he.sub _ _ hj2;have dO:=bB aW;have dS:=bB bC;have hO:=(he.rows.1 _ aW).2 (.inr (.inl rfl)) rfl;have hM:=he.maps.1 _ bC;simp only [AV.val,AV.aP,dO,dS,hd.n,hd.d,hd.v,hd.c,hd.nx,hd.us,hd.hd,hd.wr,hd.p,hd.sv,dW,zag,dJ,jO,hd.op,hd.b0,hd.b1,hd.b2,hd.b3,hd.b4,hd.b5] at hO;have hmv:Dw.Mv (sK S M B) w w':=he.mv.mono fun b hb=>hb.imp_right .inl;have hgm:=h.mem.kept (fun k hk hk'=>he.mv.block k hk (h.zq k hk')) he.mv.size;exact ⟨he.ret,h.next hmv hgm ⟨_,_,hO,.gZ _ rfl rfl,aL.none⟩ (h.aj.tk.same (h.kA hmv) hM) h.aj.nx h.aj.us o8 z32,hmv⟩
def Tryz.nE (s:SS) (head wr:Int):Int×SS:=
 if s.br=true then (4,s) else if s.ph≠0 then (8,s) else
 match dP head s.tk with
 | none=>(6,s)
 | some l=>if (iT l).2<wr then (2,s) else (0,({ s with op:=4,nn:=false,hd:=head,sg:= [],wr:=wr,it:=false }:SS).goto 11)
theorem Tryz.WY {l:List Sg} (hok: ∀x∈l,x.ok):0≤(iT l).1∧(iT l).1<18446744073709551616∧0≤(iT l).2∧(iT l).2<18446744073709551616:=by
 unfold iT;by_cases hE:gM l=0
 ·rw [yak hE];have hl:=Qm hE;have h1:=zP false l hok;have h2:=zP true l hok;refine ⟨h1.1,?_,h2.1,?_⟩
  ·show dZ false l<_;omega
  ·show dZ true l<_;omega
 ·rw [yai hE];decide
theorem Tryz.zDK (h:SW A w S P L Bs B M N r s g) (head wr:Int) (hw:0≤wr∧wr<4294967296) (hlen: ∀e∈s.tk,e.2.length≤1000000):
  Calls prog 19 #[.pointer (some ⟨S,0,none⟩),.int .i64 head,.int .u32 wr] w fun e w'=>e= .returned (.int .i64 (nE s head wr).1)∧SW A w' S P L Bs B M N r (nE s head wr).2 g∧Dw.Mv (sK S M B) w w':=by
 by_cases hno:s.br=true∨s.ph≠0
 ·have e:nE s head wr=((if s.br=true then 4 else 8),s):=by
   unfold nE;by_cases hb:s.br=true
   ·rw [yak hb,yak hb]
   ·rw [yai hb,yai hb,yak (hno.resolve_left hb)]
  rw [e];exact (zFI h.aj hno head wr).mono fun en w' hh=>⟨hh.1,hh.2▸h,hh.2▸Dw.Mv.refl _ _⟩
 have hb:s.br=false:=by
  cases hb:s.br with
  | false=>rfl
  | true=>exact absurd (.inl hb) hno
 have hp:s.ph=0:=ydU fun hp=>hno (.inr hp);obtain ⟨nv,sv,ho,hn,hsv⟩:=h.aj.obj;have gY:=hn.fn.1 hp;subst gY;have hj2:aJ [(S,0),(M,0)] 2=some ⟨M,0,0,none⟩:=rfl;have hj1:aJ [(S,0),(M,0)] 1=some ⟨S,0,0,none⟩:=rfl;obtain ⟨wF,clock1,g1,g2,g3⟩:=h.aj.tk.map;have hlt1:=aL.one hsv;have key: ∀(tv:Value) (t1 t2:Int),(0≤t1∧t1<18446744073709551616)→(0≤t2∧t2<18446744073709551616)→ ∃ρ:Val,AA ρ r s (vp P) sv∧ρ.v 2=tv∧ρ.i 20=head∧(bM 21).den ρ=wr∧(af 22).den ρ=t1∧(af 23).den ρ=t2:=fun tv t1 t2 b1 b2=>
  ⟨fu r [s.nx,s.us,s.op,s.hd,s.wr,0,0,0,0,0,0,0,0,0,0,0,head,wr,t1,t2] [s.ev,s.tb,s.pk,s.nn,s.it,s.dn] [vp P,sv,tv],
   ⟨jH h.aj.rg,jR h.aj.rg,kg h.aj.rg,ko h.aj.rg,jC h.aj.nx.1 h.aj.nx.2,jC h.aj.us.1 h.aj.us.2,rfl,jC h.aj.hd.1 h.aj.hd.2,pF h.aj.wr.1 h.aj.wr.2,rfl,rfl,rfl,rfl,rfl,rfl,rfl,rfl⟩,rfl,rfl,pF hw.1 hw.2,iI b1.1 b1.2,iI b2.1 b2.2⟩
 have fin: ∀ {ρ:Val} {e:Ending} {w':World} {j:J} {l:Leaf} {x:Int},AA ρ r s (vp P) sv→oG ρ w (fun b=>b=S∨b=M) (xE none []) [(S,0),(M,0)] l e w' j→l.rows= [(1,qy .fT (.var 5) (.lit false))]→l.maps= [(2,[])]→l.v= .int .i64 (.lit x)→e= .returned (.int .i64 x)∧SW A w' S P L Bs B M N r s g∧Dw.Mv (sK S M B) w w':=fun {ρ e w' j l x} hd he h1 h2 h3=>by
  have aW:=he.sub _ _ hj1;have bC:=he.sub _ _ hj2;have dO:=bB aW;have dS:=bB bC;have hO:=(EW he.rows (n:=1) (row:=qy .fT (.var 5) (.lit false)) (by rw [h1];exact .head _) _ aW).2 (.inr (.inl rfl)) rfl;have hM:=Qh he.maps (n:=2) (lg:= []) (by rw [h2];exact .head _) _ bC;simp only [qy,AV.val,AV.aP,dO,dS,hd.n,hd.d,hd.v,hd.c,hd.nx,hd.us,hd.hd,hd.wr,hd.p,hd.sv,dW,zag,dJ,jO,hd.op,hd.b0,hd.b1,hd.b2,hd.b3,hd.b4,hd.b5] at hO;have yT:Own w' S (s.row r P M .nilFunc sv):=by
   unfold SS.row;rw [hb];exact hO
  have bU: ∀k,k<w.heap.size→ ¬A k→w'.heap[k]? =w.heap[k]? :=fun k hk ha=>he.mv.block k hk (by rintro (rfl|rfl);exact ha h.aj.aS;exact ha h.aj.aM);exact ⟨by rw [he.ret,h3];rfl,h.same he.mv ⟨_,_,yT,.idle hp rfl,hsv.kept bU⟩ hM,he.mv.mono fun b hb=>hb.imp_right .inl⟩
 cases htk:dP head s.tk with
 | none=>
  have e:nE s head wr=(6,s):=by unfold nE;rw [yai (by rw [hb];decide),yai (fun hh=>hh hp),htk]
  rw [e];obtain ⟨ρ,hd,_,h20,h21,_,_⟩:=key undef 0 0 (by decide) (by decide);refine yas (eD (ρ:=ρ) (K:=fun b=>b=S∨b=M) (g:=xE none []) (bl:= [(S,0),(M,0)]) (vals:= [.pointer (some ⟨S,0,none⟩),.int .i64 head,.int .u32 wr]) mixed zwt zzU (fun b hb=>h.iA b (hb.imp_right .inl))
   ⟨gy ho (kW hd hb hsv.one hj2 rfl) (.inl rfl),⟨.inr rfl,rfl,wF,clock1,[(head,none)],g1,g2,⟨head,none,[],rfl,aA h20,rfl,rfl⟩,fun k o hm=> ?_⟩,trivial⟩ h.apart ⟨fun _=>False,fun _ h=>h.elim,.inl rfl⟩ trivial (ai (bT hj1) (ai (aA h20) (ai (aA h21) RL.nil))) (aT.2 trivial)) fun e w' hh=> ?_
  ·simp only [yac,ych,yae,yav] at hm;obtain ⟨rfl,rfl⟩:=hm;exact (g3 _).1 htk
  ·obtain ⟨_,j,he⟩:=iN hh;exact fin hd he rfl rfl rfl
 | some l=>
  obtain ⟨tv,hv1,hv2⟩:=(g3 head).2 l htk;have hmem:=Fe htk;have hll:l.length≤1000000:=hlen _ hmem;have aaB:=h.aj.tk.u16 _ hmem;obtain ⟨sa,c,rfl,hok,hr⟩:=hv2;obtain ⟨b1,b2,b3,b4⟩:=WY hok;have hv2:aL A w (.slice sa l.length c) l:=⟨sa,c,rfl,hok,hr⟩;obtain ⟨ρ,hd,hv,h20,h21,h22,h23⟩:=key (.slice sa l.length c) (iT l).1 (iT l).2 ⟨b1,b2⟩ ⟨b3,b4⟩;obtain ⟨F0,wQ,hF1⟩:=JF hv2;have hG:(xE sa l).G 0 (aJ [(S,0),(M,0)]) w:=by
   rcases hr with h0|⟨R,o,e,hA,hr⟩
   ·exact ⟨fun _=>False,fun _ h=>h.elim,.inl h0⟩
   ·by_cases h0:l= []
    ·exact ⟨fun _=>False,fun _ h=>h.elim,.inl h0⟩
    ·refine ⟨fun b=>b=R,fun b hb=>⟨by rw [hb];exact uz hr h0,fun hm=> ?_⟩,.inr ⟨R,o,e,rfl,hr⟩⟩;have:=Kw hm;simp only [yaK,ya0,yac,yae,yav] at this;rw [hb] at this;rcases this with e|e
     ·exact hA (e▸h.aj.aS)
     ·exact hA (e▸h.aj.aM)
  refine yas (eD (ρ:=ρ) (K:=fun b=>b=S∨b=M) (g:=xE sa l) (bl:= [(S,0),(M,0)]) (vals:= [.pointer (some ⟨S,0,none⟩),.int .i64 head,.int .u32 wr]) mixed zwr zzS (fun b hb=>h.iA b (hb.imp_right .inl))
   ⟨gy ho (kW hd hb hsv.one hj2 rfl) (.inl rfl),⟨.inr rfl,rfl,wF,clock1,[(head,some (.slice sa l.length c))],g1,g2,⟨head,some (.slice sa l.length c),[],rfl,aA h20,⟨_,rfl,iB hv rfl⟩,rfl⟩,fun k o hm=> ?_⟩,trivial⟩ h.apart hG
   ⟨iU (Dw.enters_of (by kernel_rfl)) (by decide) [.slice sa l.length c] (.tuple #[.int .u64 (iT l).1,.int .u64 (iT l).2]) (fun j=>ai (iB hv rfl) RL.nil) (fun j=>oD (ai (aA h22) (ai (aA h23) RL.nil))) fun w F q hf=>zn2 (qV.v hf hok c) (by omega),trivial⟩ (ai (bT hj1) (ai (aA h20) (ai (aA h21) RL.nil))) (aT.2 trivial)) fun e w' hh=> ?_
  ·simp only [yac,ych,yae,yav] at hm;obtain ⟨rfl,rfl⟩:=hm;exact hv1
  ·obtain ⟨p,hpm,hto,lf,hlf,j,he⟩:=hh;unfold zst at hpm;simp only [yac,yae,yav] at hpm;have aW:=he.sub _ _ hj1;have bC:=he.sub _ _ hj2;have dO:=bB aW;have dS:=bB bC;have hmv:Dw.Mv (sK S M B) w w':=he.mv.mono fun b hb=>hb.imp_right .inl;have hgm:=h.mem.kept (fun k hk hk'=>he.mv.block k hk (h.zq k hk')) he.mv.size;have bU:=h.kA hmv;rcases hpm with rfl|rfl
   all_goals
    simp only [aZ,aT,jY,h21,h23,yap,yat,yaU] at hto;cases hlf;have hO:=(he.rows.1 _ aW).2 (.inr (.inl rfl)) rfl;have hM:=he.maps.1 _ bC;simp only [AV.val,AV.aP,dO,dS,hd.n,hd.d,hd.v,hd.c,hd.nx,hd.us,hd.hd,hd.wr,hd.p,hd.sv,dW,zag,dJ,jO,hd.op,hd.b0,hd.b1,hd.b2,hd.b3,hd.b4,hd.b5,h20,h21] at hO
   ·have e:nE s head wr=(2,s):=by unfold nE;rw [yai (by rw [hb];decide),yai (fun hh=>hh hp),htk];simp only;rw [yak (by omega)]
    rw [e];have yT:Own w' S (s.row r P M .nilFunc sv):=by
     unfold SS.row;rw [hb];exact hO
    exact ⟨he.ret,h.same he.mv ⟨_,_,yT,.idle hp rfl,hsv.kept bU⟩ hM,hmv⟩
   ·have e:nE s head wr=(0,({ s with op:=4,nn:=false,hd:=head,sg:= [],wr:=wr,it:=false }:SS).goto 11):=by unfold nE;rw [yai (by rw [hb];decide),yai (fun hh=>hh hp),htk];simp only;rw [yai (by omega)]
    rw [e];exact ⟨he.ret,h.next hmv hgm ⟨_,_,hO,.gZ _ rfl rfl,aL.none⟩ (h.aj.tk.same bU hM) h.aj.nx h.aj.us aaB hw,hmv⟩
end
end Go.Proofs
namespace Go.Dw
def Ip (n:Nat):List Nat→Bool
 | [] => false
 | m::l=>match Nat.beq n m with|true=>true|false=>Ip n l
abbrev KE:=SE×Nat×Nat
def FN:List ME→Option (List KE)
 | [] => some []
 | e::l=>match e.key with
  | .int .i64 x=>(match bnd x with
   | some (p,q)=>(match Nat.blt q 9223372036854775808,FN l with
    | true,some m=>some ((x,p,q)::m)
    | _,_=>none)
   | none=>none)
  | _=>none
def Eb (n:KE):List KE→Option (List KE)
 | [] => some [n]
 | m::l=>match Nat.blt n.2.2 m.2.1 with
  | true=>some (n::m::l)
  | false=>match Nat.blt m.2.2 n.2.1 with
   | true=>(match Eb n l with|some k=>some (m::k)|none=>none)
   | false=>none
def Al:List KE→Option (List KE)
 | [] => some []
 | n::l=>match Al l with|some m=>Eb n m|none=>none
def Ec (n:Nat):List Nat→Option (List Nat)
 | [] => some [n]
 | m::l=>match Nat.blt n m with
  | true=>some (n::m::l)
  | false=>match Nat.blt m n with
   | true=>(match Ec n l with|some k=>some (m::k)|none=>none)
   | false=>none
def CQ:List Nat→Option (List Nat)
 | [] => some []
 | n::l=>match CQ l with|some m=>Ec n m|none=>none
def FY:List ME→List Nat
 | [] => []
 | e::l=>e.born::FY l
def IY (c:Nat):List Nat→Bool
 | [] => true
 | n::l=>match Nat.blt n c with|true=>IY c l|false=>false
def qI:List KE→List AV
 | [] => []
 | n::l=> .int .i64 n.1::qI l
def Y1 (es:List ME) (clock:Nat):Option (List KE):=
 match FN es with
 | none=>none
 | some ks=>match CQ (FY es),IY clock (FY es),Nat.ble ks.length 1000000 with
  | some _,true,true=>Al ks
  | _,_,_=>none
def OQ (H:Heap) (b:Nat):Option AV:=
 match H.m.get b with
 | some (.cells v _ g closed _ own)=>(match Nat.beq g b,alive H.gw g closed,own,Nat.ble 1 v.n with
  | true,true,true,true=>some (v.get 0)
  | _,_,_,_=>none)
 | _=>none
def zwy (H:Heap) (l:List KE):List (AV×Heap):=
 match l with
 | [] => [(.bZ,H)]
 | n::l=>match H with|⟨hm,nx,gw⟩=> [(.sl nx 0 (Nat.succ l.length) (.upto 0),Heap.alloc ⟨hm,nx,gw⟩ (kZ (qI (n::l)) 1 nx))]
def JK (c:FuncId) (gs:List Nat) (f:FuncId) (args:List AV) (H:Heap):Option (List (AV×Heap)):=
 match Nat.beq f c with
 | false=>none
 | true=>match args with
  | [.func g [] [.ptr b 0]]=>(match Ip g gs,OQ H b with
   | true,some .kT=>some [(.bZ,H)]
   | true,some (.map m)=>(match H.iE m with
    | some (es,clock)=>(match Y1 es clock with
     | some l=>some (zwy H l)
     | none=>none)
    | none=>none)
   | _,_=>none)
  | _=>none
section
variable {P:Program} {ρ:Val} {w0:Cx} {j:J} {H:Heap} {w w':World}
theorem QX {n:Nat}: ∀ {l:List Nat},Ip n l=true→n∈l
 | [], h=>by cases h
 | m::l,h=>by
  unfold Ip at h;split at h
  ·rename_i hb;rw [bK hb];exact yaG ..
  ·exact yaB _ (QX h)
theorem Inv.behind (h:Inv ρ w0 j H w) (hb:RowKit.Below w.heap.size w w'):Inv ρ w0 j H w':=by
 have hold: ∀n L,j n=some L→L.q=none→w'.heap[L.blk]? =w.heap[L.blk]? :=fun n L e q=>hb.block _ (h.blk n L e q);refine ⟨h.fr.then hb.os hb.output hb.tape hb.size (fun i hi _=>hb.block i hi),h.dom,fun n L e q=>yad (h.blk n L e q) hb.size,h.used,fun n L e=> ?_,h.sep,h.oZ,h.ni,h.kC,fun n L e q hn c t fr he=> ?_,h.lH,h.n0,h.jv,h.z0,h.uK (Sub.refl j) hb.size (fun b hb' _=>hb.block b hb') (fun b hb'=>Or.inl hb')⟩
 ·obtain ⟨o,h1,h2⟩:=h.obj n L e;exact ⟨o,h1,mY.grow (Sub.refl j) (hold n L e) h2⟩
 ·rw [hold n L e q] at he;exact h.fz n L e q hn c t fr he
theorem Inv.aae (h:Inv ρ w0 j H w) {n gb:Nat} {o:Obj} {ob:Go.Obj} {c:Nat} (hn:H.m.get n=some o) (hj:j n=none) (hnew:wh ρ j o ob c)
  (hg: ∀v e g cl sh,o= .cells v e g cl sh true→g=n∨ ∃Lg,j g=some Lg) (hgb:w.heap[gb]? =some ob) (h0:w0.w.heap.size≤gb) (hfree: ∀k L,j k=some L→L.q=none→L.blk≠gb) (hG:w0.G H.gs (iZ j n ⟨gb,0,c,none⟩) w):
  Inv ρ w0 (iZ j n ⟨gb,0,c,none⟩) H w:=by
 have hsub:=qB (L:=⟨gb,0,c,none⟩) hj;have hback: ∀k L,iZ j n ⟨gb,0,c,none⟩ k=some L→(k=n∧L=⟨gb,0,c,none⟩)∨(k≠n∧j k=some L):=fun k L e=>by
  by_cases hk:k=n
  ·subst hk;rw [lN] at e;exact .inl ⟨rfl,(yaC e).symm⟩
  ·rw [lM _ _ hk] at e;exact .inr ⟨hk,e⟩
 have hown:w0.own gb:=Or.inl h0;refine ⟨h.fr,fun k L e=> ?_,fun k L e q=> ?_,h.used,fun k L e=> ?_,fun k m Lk Lm hkm e1 e2 q1 q2 hb=> ?_,h.oZ,h.ni,fun k L v e g cl sh e1 e2=> ?_,fun k L hjk hqk hi cs e fr he=> ?_,fun k L v e cl sh e1 e2=>(hback k L e1).elim (fun x=>x.2▸rfl) (fun x=>h.lH k L v e cl sh x.2 e2),?_,h.jv,h.z0,hG⟩
 ·rcases hback k L e with ⟨rfl,_⟩|⟨_,e⟩
  ·exact h.used _ _ hn
  ·exact h.dom k L e
 ·rcases hback k L e with ⟨_,rfl⟩|⟨_,e⟩
  ·exact (yar.1 hgb).1
  ·exact h.blk k L e q
 ·rcases hback k L e with ⟨rfl,rfl⟩|⟨_,e⟩
  ·refine ⟨o,hn,?_⟩;cases o with
   | cells v bH g cl sh own=>
    obtain ⟨ho,_,arr,e',rfl,h1,h2,h3⟩:=hnew;refine ⟨rfl,by rw [yak ho];exact hown,fun _=>⟨arr,e',(0,0),hgb,by simpa using h1,⟨by simpa using h2.1,h2.2⟩,fun i hi=> ?_⟩⟩;obtain ⟨x,h4,h5⟩:=h3 i hi;exact ⟨x,by simpa using h4,h5.mono hsub⟩
   | map es clock=>
    obtain ⟨_,arr,rfl,h1⟩:=hnew;exact ⟨rfl,hown,rfl,arr,hgb,h1.mono hsub⟩
   | iter m since seen stepped=>
    obtain ⟨_,m',sa,rfl,h1,h2⟩:=hnew;refine ⟨rfl,hown,rfl,m',sa,hgb,h1,?_⟩;cases m with
    | none=>exact h2
    | some n=>obtain ⟨Lm,e,x⟩:=h2;exact ⟨Lm,hsub _ _ e,x⟩
   | rQ es=>
    obtain ⟨_,arr,clock,es',rfl,h1,h2⟩:=hnew;exact ⟨rfl,hown,rfl,arr,clock,es',hgb,h1,h2.mono hsub⟩
   | dm=>exact hnew.elim
   | opq=>exact hnew.elim
   | gs=>exact hnew.elim
  ·obtain ⟨o',h1,h2⟩:=h.obj k L e;exact ⟨o',h1,mY.grow hsub (fun _=>rfl) h2⟩
 ·rcases hback k Lk e1 with ⟨rfl,rfl⟩|⟨_,e1⟩<;>rcases hback m Lm e2 with ⟨rfl,rfl⟩|⟨_,e2⟩
  ·exact absurd rfl hkm
  ·rename_i e2;exact absurd hb.symm (hfree m Lm e2 q2)
  ·rename_i e1 _;exact absurd hb (hfree k Lk (by assumption) q1)
  ·exact h.sep k m Lk Lm hkm (by assumption) (by assumption) q1 q2 hb
 ·rcases hback k L e1 with ⟨rfl,rfl⟩|⟨_,e1⟩
  ·rw [hn] at e2;rcases hg _ _ _ _ _ (yaC e2) with rfl|⟨Lg,e3⟩
   ·exact ⟨_,lN _ _ _⟩
   ·exact ⟨Lg,hsub _ _ e3⟩
  ·obtain ⟨Lg,e3⟩:=h.kC k L v e g cl sh e1 e2;exact ⟨Lg,hsub _ _ e3⟩
 ·rcases hback k L hjk with ⟨rfl,rfl⟩|⟨_,hjk⟩
  ·rw [hgb] at he;cases o with
   | cells v bH g cl sh own=>
    obtain ⟨_,_,arr,e',rfl,_⟩:=hnew;cases he;rfl
   | map es clock=>obtain ⟨_,arr,rfl,_⟩:=hnew;cases he
   | iter m since seen stepped=>obtain ⟨_,m',sa,rfl,_⟩:=hnew;cases he
   | rQ es=>obtain ⟨_,arr,clock,es',rfl,_⟩:=hnew;cases he
   | dm=>exact hnew.elim
   | opq=>exact hnew.elim
   | gs=>exact hnew.elim
  ·exact h.fz k L hjk hqk hi cs e fr he
 ·by_cases hk:0=n
  ·rw [←hk] at hn;obtain ⟨kk,rfl⟩:=h.z0 _ hn;exact hnew.elim
  ·rw [lM _ _ hk];exact h.n0
theorem Inv.aal (h:Inv ρ w0 j H w) (hb:RowKit.Below w.heap.size w w') {n gb c:Nat} (hj:j n=none) (hgb:w.heap.size≤gb):w0.G H.gs (iZ j n ⟨gb,0,c,none⟩) w':=
 h.uK (qB hj) hb.size (fun b hb' _=>hb.block b hb') (fun b hm=>by
  obtain ⟨k,L,e,q,rfl⟩:=hm;by_cases hk:k=n
  ·subst hk;rw [lN] at e;cases e;exact Or.inr hgb
  ·rw [lM _ _ hk] at e;exact Or.inl ⟨k,L,e,q,rfl⟩)
structure VD (P:Program) (f:FuncId):Prop where
 enters:Enters P f
 runs: ∀w,Calls P f #[] w fun e w'=>e= .returned (.bool true)∧RowKit.Below w.heap.size w w'
def znL:World:=default
theorem zu3 {P:Program} (hmo:P.follows .mixedOrders=true) {gH:FuncId→List AV→Heap→Option (List (AV×Heap))} (hor: ∀w,nN P Val.zero (Cx.plain w) gH) {n:Nat} {f:FuncId} (h:(ev P gH n (.call f [] ru isTrue)).good=true):VD P f:=
  ⟨((KV (ρ:=Val.zero) (w0:=Cx.plain znL) (hor znL) (fun n rec hg=>Af hmo hg) n).call f [] ru isTrue (Ob.AQ h)).1,
   fun w=>zvP (ρ:=Val.zero) hmo (hor w) (inv0 w) RL.nil (Ob.AQ h)⟩
structure zuj (P:Program) (c g:FuncId):Prop where
 enters:Enters P c
 sorted: ∀(w:World) (Bm b:Nat) (es:Array MapEntry) (clock:Nat) (ks:List Int),Bm<w.heap.size→w.cell? ⟨Bm,0,none⟩=some (.map (some b))→w.heap[b]? =some (.map es clock)→MapKept.Stamped es clock→
  es.toList.map (·.key)=ks.map encZ→(∀x∈ks,(Lit.int .i64 x).wf=true)→ks.length≤1000000→
  Calls P c #[.func (.func g) #[] #[.pointer (some ⟨Bm,0,none⟩)]] w fun e w'=> ∃v ss t,e= .returned v∧ss.Perm ks∧w'.ownsRow w.heap.size t 1 v ss.length ((ss.mergeSort leI).map encZ)∧(v= .slice none 0 0↔ss= [])∧RowKit.Below w.heap.size w w'
 nil: ∀(w:World) (Bm:Nat),Bm<w.heap.size→w.cell? ⟨Bm,0,none⟩=some (.map none)→
  Calls P c #[.func (.func g) #[] #[.pointer (some ⟨Bm,0,none⟩)]] w fun e w'=>e= .returned (.slice none 0 0)∧RowKit.Below w.heap.size w w'
def jS (ρ:Val) (n:KE):Int:=n.1.den ρ
def xD (ρ:Val) (n:KE):Prop:= ∃x:Nat,jS ρ n=Int.ofNat x∧n.2.1≤x∧x≤n.2.2∧n.2.2<9223372036854775808
theorem ZR: ∀ {es:List ME} {ks:List KE} {xs:List MapEntry},FN es=some ks→RM ρ j es xs→xs.map (·.key)=(ks.map (jS ρ)).map encZ∧(∀n∈ks,xD ρ n)
 | [], ks,xs,h,hr=>by
  have e:xs= []:=hr;subst e;unfold FN at h;cases h;exact ⟨rfl,by simp⟩
 | e::es,ks,xs,h,hr=>by
  obtain ⟨x,xs,rfl,hk,_,_,hr⟩:=hr;unfold FN at h;split at h
  case h_2=>cases h
  rename_i n hkey;split at h
  case h_2=>cases h
  rename_i p q hb;split at h
  case h_2=>cases h
  rename_i m hlt hm;cases h;obtain ⟨h1,h2⟩:=ZR hm hr;rw [hkey] at hk;have hk:x.key= .int .i64 (n.den ρ):=hk;rw [yaE] at hlt;obtain ⟨y,e1,e2,e3⟩:=yc (ρ:=ρ) hb;refine ⟨by simp only [yaK,h1,hk];rfl,fun z hz=> ?_⟩;rcases yac.1 hz with rfl|hz
  ·exact ⟨y,e1,e2,e3,hlt⟩
  ·exact h2 z hz
theorem zFT {n:KE} (h:xD ρ n):(Lit.int .i64 (jS ρ n)).wf=true:=by
 obtain ⟨x,e,_,h2,h3⟩:=h;rw [e];simp [Lit.wf,IntKind.min,IntKind.max,IntKind.signed,IntKind.bits];omega
theorem zmw: ∀ {es:List ME} {xs:List MapEntry},RM ρ j es xs→xs.map (·.born)=FY es
 | [], xs,hr=>by have e:xs= []:=hr;subst e;rfl
 | e::es,xs,hr=>by
  obtain ⟨x,xs,rfl,_,_,hb,hr⟩:=hr;simp only [yaK,FY,zmw hr,hb]
theorem zui {c:Nat}: ∀ {l:List Nat},IY c l=true→ ∀x∈l,x<c
 | [], _,x,hx=>by cases hx
 | n::l,h,x,hx=>by
  unfold IY at h;split at h
  ·rename_i hb;rw [yaE] at hb;rcases yac.1 hx with rfl|hx
   ·exact hb
   ·exact zui h x hx
  ·cases h
theorem zpw {n:Nat}: ∀ {l m:List Nat},Ec n l=some m→l.Pairwise (· < ·)→m.Pairwise (· < ·)∧m.Perm (n::l)
 | [], m,h,_=>by unfold Ec at h;cases h;exact ⟨List.pairwise_singleton _ _,ycq _⟩
 | x::l,m,h,hl=>by
  unfold Ec at h;obtain ⟨h1,h2⟩:=ybb.1 hl;split at h
  ·rename_i hb;rw [yaE] at hb;cases h;refine ⟨ybb.2 ⟨fun y hy=> ?_,hl⟩,ycq _⟩;rcases yac.1 hy with rfl|hy
   ·exact hb
   ·have:=h1 y hy;omega
  ·split at h
   ·rename_i hb;rw [yaE] at hb;split at h
    ·rename_i k hk;cases h;obtain ⟨h3,h4⟩:=zpw hk h2;refine ⟨ybb.2 ⟨fun y hy=> ?_,h3⟩,(List.Perm.cons x h4).trans (List.Perm.swap n x l)⟩;rcases yac.1 (h4.mem_iff.1 hy) with rfl|hy
     ·exact hb
     ·exact h1 y hy
    ·cases h
   ·cases h
theorem Y2: ∀ {l m:List Nat},CQ l=some m→m.Pairwise (· < ·)∧m.Perm l
 | [], m,h=>by unfold CQ at h;cases h;exact ⟨List.Pairwise.nil,ycq _⟩
 | n::l,m,h=>by
  unfold CQ at h;split at h
  ·rename_i k hk;obtain ⟨h1,h2⟩:=Y2 hk;obtain ⟨h3,h4⟩:=zpw h h1;exact ⟨h3,h4.trans (List.Perm.cons n h2)⟩
  ·cases h
theorem zqG {l m:List Nat} (h:CQ l=some m):l.Nodup:=by
 obtain ⟨h1,h2⟩:=Y2 h;exact (h2.nodup_iff).1 (h1.imp fun hlt=>by omega)
theorem zpx {n:KE} (hn:xD ρ n): ∀ {l m:List KE},Eb n l=some m→(∀k∈l,xD ρ k)→(l.map (jS ρ)).Pairwise (· < ·)→(m.map (jS ρ)).Pairwise (· < ·)∧m.Perm (n::l)
 | [], m,h,_,_=>by unfold Eb at h;cases h;exact ⟨List.pairwise_singleton _ _,ycq _⟩
 | x::l,m,h,hk,hl=>by
  unfold Eb at h;obtain ⟨h1,h2⟩:=ybb.1 (show (jS ρ x::l.map (jS ρ)).Pairwise (· < ·) from hl);obtain ⟨a,ea,a1,a2,_⟩:=hn;obtain ⟨b,eb,b1,b2,_⟩:=hk x (yaG ..);have hk': ∀k∈l,xD ρ k:=fun k h=>hk k (yaB _ h);split at h
  ·rename_i hb;rw [yaE] at hb;cases h;have hlt:jS ρ n<jS ρ x:=by rw [ea,eb];exact Int.ofNat_lt.2 (by omega)
   refine ⟨ybb.2 ⟨fun y hy=> ?_,hl⟩,ycq _⟩;rcases yac.1 hy with rfl|hy
   ·exact hlt
   ·exact Int.lt_trans hlt (h1 y hy)
  ·split at h
   ·rename_i hb;rw [yaE] at hb;split at h
    ·rename_i k hkk;cases h;obtain ⟨h3,h4⟩:=zpx ⟨a,ea,a1,a2,by assumption⟩ hkk hk' h2;have hlt:jS ρ x<jS ρ n:=by rw [ea,eb];exact Int.ofNat_lt.2 (by omega)
     refine ⟨ybb.2 ⟨fun y hy=> ?_,h3⟩,(List.Perm.cons x h4).trans (List.Perm.swap n x l)⟩;rcases yac.1 ((h4.map (jS ρ)).mem_iff.1 hy) with rfl|hy
     ·exact hlt
     ·exact h1 y hy
    ·cases h
   ·cases h
theorem JE: ∀ {l m:List KE},Al l=some m→(∀k∈l,xD ρ k)→(m.map (jS ρ)).Pairwise (· < ·)∧m.Perm l
 | [], m,h,_=>by unfold Al at h;cases h;exact ⟨List.Pairwise.nil,ycq _⟩
 | n::l,m,h,hk=>by
  unfold Al at h;split at h
  ·rename_i k hkk;obtain ⟨h1,h2⟩:=JE hkk (fun x hx=>hk x (yaB _ hx));obtain ⟨h3,h4⟩:=zpx (hk n (yaG ..)) h (fun x hx=>hk x (yaB _ (h2.mem_iff.1 hx))) h1;exact ⟨h3,h4.trans (List.Perm.cons n h2)⟩
  ·cases h
theorem zqI {l m:List KE} (h:Al l=some m) (hk: ∀k∈l,xD ρ k):(l.map (jS ρ)).Nodup:=by
 obtain ⟨h1,h2⟩:=JE (ρ:=ρ) h hk;exact ((h2.map (jS ρ)).nodup_iff).1 (h1.imp fun hlt=>by omega)
theorem zqH {l m:List KE} (h:Al l=some m) (hk: ∀k∈l,xD ρ k) {ss:List Int} (hp:ss.Perm (l.map (jS ρ))):ss.mergeSort leI=m.map (jS ρ):=by
 obtain ⟨h1,h2⟩:=JE (ρ:=ρ) h hk;have tr: ∀a b c:Int,leI a b=true→leI b c=true→leI a c=true:=fun a b c h1 h2=>by simp only [leI,yap] at*;exact Int.le_trans h1 h2
 have tot: ∀a b:Int,(leI a b||leI b a)=true:=fun a b=>by simp only [leI,ydJ,yap];exact Int.le_total a b
 refine List.Perm.eq_of_pairwise (le:=fun a b=>leI a b=true) (fun a b _ _ h1 h2=> ?_) (List.pairwise_mergeSort tr tot ss) ?_ (((List.mergeSort_perm ss leI).trans hp).trans (h2.map (jS ρ)).symm)
 ·simp only [leI,yap] at h1 h2;exact Int.le_antisymm h1 h2
 ·refine h1.imp fun hlt=> ?_;simp only [leI,yap];exact Int.le_of_lt hlt
theorem ztm: ∀(l:List KE),RL ρ j (qI l) ((l.map (jS ρ)).map encZ)
 | [] => rfl
 | n::l=>⟨_,_,rfl,rfl,ztm l⟩
theorem WX: ∀(l:List KE),(qI l).length=l.length
 | [] => rfl
 | n::l=>by simp [qI,WX l]
theorem zvj {k:TypeId} (hk:P.underlying k=some (.int .i64)) {b:Nat} {es:Array MapEntry} {clock:Nat} {ks:List Int} (hb:w.heap[b]? =some (.map es clock)) (hst:MapKept.Stamped es clock)
  (hkeys:es.toList.map (·.key)=ks.map encZ) (hwf: ∀x∈ks,(Lit.int .i64 x).wf=true) (hlen:ks.length≤1000000):
  ∃ D0:DataW Unit,w.ownsMap P k (fun _=>some (.nil,[])) b es.size D0∧(intKeys D0).Perm ks∧Maps.size D0=ks.length:=by
 have hl:es.toList.length=ks.length:=by have:=yaH List.length hkeys;simpa using this
 have hkey: ∀x∈es.toList,∃a,x.key=encZ a∧(Lit.int .i64 a).wf=true:=fun x hx=>by
  have:x.key∈ks.map encZ:=by rw [←hkeys];exact ycN hx
  obtain ⟨a,ha,e⟩:=ya6.1 this;exact ⟨a,e.symm,hwf a ha⟩
 have hrd: ∀x∈es.toList,∀a,x.key=encZ a→(Lit.int .i64 a).wf=true→WideElems.rd P k (fun _=>some ((.nil:DataW Unit),[])) x=some (.int .i64 a,.nil):=fun x _ a e hw=>by
  unfold WideElems.rd;rw [e,Maps.keyOf_int_mk hk hw];rfl
 refine ⟨_,⟨es,clock,hb,⟨?_,hst,fun x hx=> ?_⟩,yab _,rfl⟩,?_,?_⟩
 ·rw [←ybc,hl];unfold maxLen;omega
 ·obtain ⟨a,e,hw⟩:=hkey x hx;exact ⟨_,hrd x hx a e hw⟩
 ·have e:(es.toList.map (WideElems.rg P k (fun _=>some ((.nil:DataW Unit),[])))).map (fun p=>Go.intOf p.1)=ks:=by
   have unz: ∀l:List Int,(l.map encZ).map RowKit.intOf=l:=fun l=>by
    rw [ycS]
    conv=>rhs;rw [←List.map_id l]
    rfl
   rw [←unz ks,←hkeys,ycS,ycS];refine ycO fun x hx=> ?_;obtain ⟨a,e,hw⟩:=hkey x hx;simp only [Function.comp_apply,WideElems.rg,hrd x hx a e hw,yb1,e];rfl
  have h:=(WideShapes.sorted_perm (es.toList.map (WideElems.rg P k (fun _=>some ((.nil:DataW Unit),[]))))).map (fun p=>Go.intOf p.1);rw [e] at h;exact h
 ·show List.length _=_;rw [(WideShapes.sorted_perm _).length_eq,ybw,hl]
theorem znK {c:FuncId} {gs:List Nat} (h: ∀g∈gs,zuj P c g):nN P ρ w0 (JK c gs):=by
 intro f args H l hl;unfold JK at hl;split at hl
 ·cases hl
 rename_i hfc;have hfc:=bK hfc;subst hfc;split at hl
 case h_2=>cases hl
 rename_i g b;have start: ∀ {k:K} {j:J} {w:World} {vals:List Value} {x:AV},Inv ρ w0 j H w→RL ρ j [.func g [] [.ptr b 0]] vals→OQ H b=some x→
   ∃ L u,j b=some L∧vals= [.func (.func g) #[] #[.pointer (some ⟨L.blk,0,none⟩)]]∧L.blk<w.heap.size∧w.cell? ⟨L.blk,0,none⟩=some u∧R ρ j x u:=by
  intro k j w vals x hi hv tJ;obtain ⟨u,m,rfl,hu,hm⟩:=hv;have e:m= []:=hm;subst e;obtain ⟨l',m',rfl,hl',hm'⟩:=hu;have e:l'= []:=hl';subst e;obtain ⟨p,m2,rfl,hp,hm2⟩:=hm';have e:m2= []:=hm2;subst e;obtain ⟨L,hj,rfl⟩:=hp;unfold OQ at tJ;split at tJ
  case h_2=>cases tJ
  rename_i v bH g' closed sh own hget;split at tJ
  case h_2=>cases tJ
  rename_i hg hal hone;cases tJ;have hg:=bK hg;subst hg;have hoff:=hi.lH _ L v bH closed sh hj hget;obtain ⟨o,h1,h2⟩:=hi.obj _ L hj;rw [hget] at h1;cases h1;obtain ⟨arr,e,fr,h3,_,_,h5⟩:=h2.2.2 hal;obtain ⟨y,h6,h7⟩:=h5 0 (yal hone);rw [hoff] at h6;refine ⟨L,y,hj,by rw [hoff],(yar.1 h3).1,?_,h7⟩;simp [World.cell?,h3];simpa using h6
 split at hl
 ·rename_i hm tJ;cases hl;have ho:=h g (QX hm);refine ⟨ho.enters,fun k hk j w vals hi hv=> ?_⟩;obtain ⟨L,u,hj,rfl,hlt,hcell,hu⟩:=start (k:=k) hi hv tJ;have e:u= .map none:=hu;subst e;refine yas (ho.nil w L.blk hlt hcell) fun e w' ⟨he,hb⟩=>⟨_,he,.bZ,H,j,rfl,hi.behind hb,St.refl j H,hk⟩
 ·rename_i m hm tJ;have ho:=h g (QX hm);split at hl
  case h_2=>cases hl
  rename_i es clock hmap;split at hl
  case h_2=>cases hl
  rename_i ls wZ;cases hl;refine ⟨ho.enters,fun k hk j w vals hi hv=> ?_⟩;obtain ⟨L,u,hj,rfl,hlt,hcell,hu⟩:=start (k:=k) hi hv tJ;obtain ⟨Lm,hjm,rfl⟩:=hu;obtain ⟨arr,harr,hrm⟩:=hi.iE hjm hmap;unfold Y1 at wZ;split at wZ
  ·cases wZ
  rename_i ks hks;split at wZ
  case h_2=>cases wZ
  rename_i bs hbs hall hlen;obtain ⟨hkeys,hok⟩:=ZR hks hrm;have hwf: ∀x∈ks.map (jS ρ),(Lit.int .i64 x).wf=true:=fun x hx=>by
   obtain ⟨k,hk,rfl⟩:=ya6.1 hx;exact zFT (hok k hk)
  have hborn:=zmw hrm;have hnd:=zqI (ρ:=ρ) wZ hok;have hst:MapKept.Stamped arr clock:=by
   refine ⟨fun x hx=>zui hall _ (by rw [←hborn];exact ycN hx),by rw [hborn];exact zqG hbs,?_⟩;rw [hkeys];exact ycj.2 (hnd.imp fun hne e=>hne (encZ_inj e))
  refine yas (ho.sorted w L.blk Lm.blk arr clock (ks.map (jS ρ)) hlt hcell harr hst hkeys hwf (by simpa using yal hlen)) fun e w' ⟨v,ss,t,he,hperm,hrow,hnil,hb⟩=> ?_;refine ⟨v,he,?_⟩;have hsort:=zqH (ρ:=ρ) wZ hok hperm;have Ug:ss.length=ls.length:=by rw [hperm.length_eq,ybw,(JE (ρ:=ρ) wZ hok).2.length_eq]
  rw [hsort,Ug] at hrow;have hi':=hi.behind hb;cases ls with
  | nil=>
   have e:v= .slice none 0 0:=hnil.2 (List.eq_nil_of_length_eq_zero (by rw [Ug];rfl));subst e;exact ⟨.bZ,H,j,rfl,hi',St.refl j H,hk⟩
  | cons n l=>
   rcases hrow.2 with ⟨_,h0⟩|⟨gb,cap,cur,rfl,hbase,hgb,r1,r2,r3,r4⟩
   ·simp at h0
   have hk:Ob.den ρ (k (.sl H.nx 0 (Nat.succ l.length) (.upto 0)) (H.alloc (kZ (qI (n::l)) 1 H.nx))):=hk;have hj0:j H.nx=none:=hi.fresh;have TI:(qI (n::l)).length=l.length+1:=by rw [WX];rfl
   simp only [yaW,Nat.mul_one] at r1 r3 r4;have hext:Inv ρ w0 j (H.alloc (kZ (qI (n::l)) 1 H.nx)) w':=hi'.extend _ (fun v e g t sh ow kQ=>by unfold kZ at kQ;cases kQ);have hget:(H.alloc (kZ (qI (n::l)) 1 H.nx)).m.get H.nx=some (kZ (qI (n::l)) 1 H.nx):=by rw [Heap.alloc_eq];exact T.get_set_same _ _ _
   have hnew:wh ρ j (kZ (qI (n::l)) 1 H.nx) (.cells cur t (0,0)) cap:=by
    refine ⟨rfl,rfl,cur,t,rfl,by rw [Vec.l9,TI];omega,⟨by omega,fun _=>by rw [Vec.l9,TI];omega⟩,fun i hin=> ?_⟩;rw [Vec.l9] at hin;rw [Vec.uJ _ i hin];obtain ⟨x,h1,h2⟩:=(ztm (ρ:=ρ) (j:=j) (n::l)).get i _ (yam hin);refine ⟨x,?_,h2⟩;rw [←r4,yby (by omega)] at h1;simpa using h1
   refine ⟨.sl H.nx 0 (Nat.succ l.length) (.upto 0),_,iZ j H.nx ⟨gb,0,cap,none⟩,⟨_,lN _ _ _,⟨by show 0+(l.length+1)≤cap;omega,by show 0<cap;omega⟩,rfl⟩,
    hext.aae hget hj0 hnew (fun v e g cl sh kQ=>by unfold kZ at kQ;cases kQ;exact .inl rfl) hgb (yau hi.fr.size hbase) (fun q Lq e hqq he=>by have:=hi.blk q Lq e hqq;omega) (by rw [show (H.alloc (kZ (qI (n::l)) 1 H.nx)).gs=H.gs from by rw [Heap.alloc_eq];exact Gb H _ (by have:=hi.jv;omega)];exact hi.aal hb hj0 hbase),
    ⟨qB hj0,fun q Lq e e0=> ?_,(St.extend hi' _).keep,(St.extend hi' _).nx⟩,hk⟩
   by_cases hq:q=H.nx
   ·omega
   ·rw [lM _ _ hq,e0] at e;cases e
 ·cases hl
end
end Go.Dw
namespace Go.Proofs
open Go.Shelf Go.RowKit Go.Maps Go.Sort
def Tryz.PW:Go.Shelf.Ren:=⟨fun|7=>59|10=>87|n=>n,fun|23=>123|26=>3|3=>36|28=>130|0=>0|27=>129|33=>135|4=>4|n=>n,fun|n=>n⟩
theorem Tryz.zyd:Go.Proofs.SlLaysZI.n7 prog PW:= {
 mixed:=by kernel_rfl
 f7:=⟨f59.name,by decide,func59.trans (yaH some (by kernel_rfl))⟩
 f10:=⟨f87.name,by decide,func87.trans (yaH some (by kernel_rfl))⟩
 t0:=underlying0
 a0:=isAgg0
 z0:=sizeOf0
 v0:=zeroValue0
 t4:=underlying4
 a4:=isAgg4
 z4:=sizeOf4
 v4:=zeroValue4
 t23:=underlying123
 a23:=isAgg123
 z23:=sizeOf123
 v23:=zeroValue123
 t26:=underlying3
 a26:=isAgg3
 z26:=sizeOf3
 v26:=zeroValue3
 t27:=underlying129
 a27:=isAgg129
 z27:=sizeOf129
 v27:=zeroValue129
 t28:=underlying130
 a28:=isAgg130
 z28:=sizeOf130
 v28:=zeroValue130
 t33:=underlying135
 a33:=isAgg135
 z33:=sizeOf135
 v33:=zeroValue135 }
def Tryz.Yc:Go.Shelf.Ren:=⟨fun|6=>58|8=>85|9=>86|11=>115|13=>117|12=>116|23=>138|24=>139|14=>129|15=>130|16=>131|17=>132|18=>133|19=>134|20=>135|21=>136|22=>137|25=>150|26=>151|27=>152|28=>153|29=>154|30=>155|31=>164|n=>n,fun|26=>3|28=>130|24=>35|0=>0|3=>3|37=>26|48=>46|50=>30|4=>4|40=>190|39=>189|45=>195|5=>5|9=>9|51=>210|55=>214|57=>225|58=>118|33=>135|n=>n,fun|n=>n⟩
theorem Tryz.zwz:Go.Proofs.SlLaysZI.n6 prog Yc:= {
 mixed:=by kernel_rfl
 f6:=⟨f58.name,by decide,func58.trans (yaH some (by kernel_rfl))⟩
 f8:=⟨f85.name,by decide,func85.trans (yaH some (by kernel_rfl))⟩
 f11:=⟨f115.name,by decide,func115.trans (yaH some (by kernel_rfl))⟩
 t0:=underlying0
 a0:=isAgg0
 z0:=sizeOf0
 v0:=zeroValue0
 t24:=underlying35
 a24:=isAgg35
 z24:=sizeOf35
 v24:=zeroValue35
 t26:=underlying3
 a26:=isAgg3
 z26:=sizeOf3
 v26:=zeroValue3
 t28:=underlying130
 a28:=isAgg130
 z28:=sizeOf130
 v28:=zeroValue130
 i26:=by kernel_rfl }
def Tryz.zwA:Go.Shelf.Ren:=⟨fun|5=>86|8=>117|7=>116|19=>138|20=>139|10=>129|11=>130|12=>131|13=>132|14=>133|15=>134|16=>135|17=>136|18=>137|30=>150|31=>151|32=>152|33=>153|34=>154|35=>155|40=>164|n=>n,fun|23=>35|25=>3|3=>3|32=>26|22=>35|0=>0|44=>46|46=>30|4=>4|36=>190|35=>189|41=>195|5=>5|9=>9|53=>210|57=>214|63=>225|64=>118|n=>n,fun|n=>n⟩
theorem Tryz.Ws:Go.Proofs.SlLaysM.n5 prog zwA:= {
 mixed:=by kernel_rfl
 f5:=⟨f86.name,by decide,func86.trans (yaH some (by kernel_rfl))⟩
 f7:=⟨f116.name,by decide,func116.trans (yaH some (by kernel_rfl))⟩
 f8:=func117.trans (yaH some (by kernel_rfl))
 f10:=⟨f129.name,by decide,func129.trans (yaH some (by kernel_rfl))⟩
 f11:=⟨f130.name,by decide,func130.trans (yaH some (by kernel_rfl))⟩
 f12:=⟨f131.name,by decide,func131.trans (yaH some (by kernel_rfl))⟩
 f13:=⟨f132.name,by decide,func132.trans (yaH some (by kernel_rfl))⟩
 f14:=⟨f133.name,by decide,func133.trans (yaH some (by kernel_rfl))⟩
 f15:=⟨f134.name,by decide,func134.trans (yaH some (by kernel_rfl))⟩
 f16:=⟨f135.name,by decide,func135.trans (yaH some (by kernel_rfl))⟩
 f17:=⟨f136.name,by decide,func136.trans (yaH some (by kernel_rfl))⟩
 f18:=⟨f137.name,by decide,func137.trans (yaH some (by kernel_rfl))⟩
 f19:=func138.trans (yaH some (by kernel_rfl))
 f20:=func139.trans (yaH some (by kernel_rfl))
 f30:=⟨f150.name,by decide,func150.trans (yaH some (by kernel_rfl))⟩
 f31:=func151.trans (yaH some (by kernel_rfl))
 f32:=func152.trans (yaH some (by kernel_rfl))
 f33:=⟨f153.name,by decide,func153.trans (yaH some (by kernel_rfl))⟩
 f34:=⟨f154.name,by decide,func154.trans (yaH some (by kernel_rfl))⟩
 f35:=⟨f155.name,by decide,func155.trans (yaH some (by kernel_rfl))⟩
 f40:=⟨f164.name,by decide,func164.trans (yaH some (by kernel_rfl))⟩
 t0:=underlying0
 a0:=isAgg0
 z0:=sizeOf0
 v0:=zeroValue0
 t3:=underlying3
 a3:=isAgg3
 z3:=sizeOf3
 v3:=zeroValue3
 t4:=underlying4
 a4:=isAgg4
 z4:=sizeOf4
 v4:=zeroValue4
 t5:=underlying5
 a5:=isAgg5
 z5:=sizeOf5
 v5:=zeroValue5
 t9:=underlying9
 a9:=isAgg9
 z9:=sizeOf9
 v9:=zeroValue9
 t22:=underlying35
 a22:=isAgg35
 z22:=sizeOf35
 v22:=zeroValue35
 t23:=underlying35
 a23:=isAgg35
 z23:=sizeOf35
 v23:=zeroValue35
 t25:=underlying3
 a25:=isAgg3
 z25:=sizeOf3
 v25:=zeroValue3
 t32:=underlying26
 a32:=isAgg26
 z32:=sizeOf26
 v32:=zeroValue26
 t35:=underlying189
 a35:=isAgg189
 z35:=sizeOf189
 v35:=zeroValue189
 t36:=underlying190
 a36:=isAgg190
 z36:=sizeOf190
 v36:=zeroValue190
 t41:=underlying195
 a41:=isAgg195
 z41:=sizeOf195
 v41:=zeroValue195
 t44:=underlying46
 a44:=isAgg46
 z44:=sizeOf46
 v44:=zeroValue46
 t46:=underlying30
 a46:=isAgg30
 z46:=sizeOf30
 v46:=zeroValue30
 t53:=underlying210
 a53:=isAgg210
 z53:=sizeOf210
 v53:=zeroValue210
 t57:=underlying214
 a57:=isAgg214
 z57:=sizeOf214
 v57:=zeroValue214
 t63:=underlying225
 a63:=isAgg225
 z63:=sizeOf225
 v63:=zeroValue225
 t64:=underlying118
 a64:=isAgg118
 z64:=sizeOf118
 v64:=zeroValue118 }
theorem Tryz.VT (m:Nat):AnyZI.SortsIn prog Yc Fence.wide m:=
  ⟨fun blk off cap ss W hH hblk hsz=>ydF.2 (AnyM.slices_Sort_int Ws blk off cap ss W hH hblk hsz),
   fun p cap W=>ydF.2 (AnyM.slices_Sort_int_none Ws p cap W)⟩
theorem Tryz.U5:Dw.zuj prog 58 87:=
  ⟨⟨f58,_,func58,rfl,by decide⟩,
   fun w Bm b es clock ks hBm hm hb hst hkeys hwf hlen=>by
    obtain ⟨D0,hown,hperm,hsize⟩:=Dw.zvj (P:=prog) underlying3 hb hst hkeys hwf hlen;have hseq:=AnyZI.keys_gives (ρ:=PW) { zyd with } Fence.wide 2 trivial rfl (by omega) Bm b es.size D0 w hBm hm hown;have cS:=AnyZI.sorted_in zwz Fence.wide 5 trivial trivial trivial trivial rfl (by omega) (VT _) (enters_of func86 (by kernel_rfl) rfl) 87 #[.pointer (some ⟨Bm,0,none⟩)] trivial (enters_of func87 (by kernel_rfl) rfl) _ _ (by rw [hsize];unfold maxLen;omega) (by rw [hsize];omega) _ hseq;exact (ydF.1 cS).mono fun e w' ⟨v,ss,he,hS,hrow,hnil,hb⟩=>⟨v,ss,_,he,hS.trans hperm,hrow,hnil,hb⟩,
   fun w Bm hBm hm=>by
    have hseq:=AnyZI.keys_gives_nil (ρ:=PW) { zyd with } Fence.wide 2 trivial rfl Bm w hBm hm;have cS:=AnyZI.sorted_in zwz Fence.wide 5 trivial trivial trivial trivial rfl (by omega) (VT _) (enters_of func86 (by kernel_rfl) rfl) 87 #[.pointer (some ⟨Bm,0,none⟩)] trivial (enters_of func87 (by kernel_rfl) rfl) _ 0 (yax _) (by omega) _ hseq;exact (ydF.1 cS).mono fun e w' ⟨v,ss,he,hS,hrow,hnil,hb⟩=>⟨by rw [he,hnil.2 hS],hb⟩⟩
theorem Tryz.zDg {ρ:Dw.Val} {w:Dw.Cx}:Dw.nN prog ρ w (Dw.JK 58 [87]):=Dw.znK fun g hg=>by
 simp only [yac,yae,yav] at hg;rcases hg with rfl
 ·exact U5
open Go.Dw
theorem Tryz.zAz {w:World} {base base':Nat} {e:TypeId} {size:Nat} {v:Value} {n:Nat} {xs:List Value} (h:w.ownsRow base e size v n xs) (hb:base'≤base):w.ownsRow base' e size v n xs:=by
 rcases h.2 with h0|⟨g,cap,cur,hv,hg,hr⟩
 ·exact ⟨h.1,Or.inl h0⟩
 ·exact ⟨h.1,Or.inr ⟨g,cap,cur,hv,yau hb hg,hr⟩⟩
theorem Tryz.zpt: ∀ {l:List MapEntry},(∀e∈l,∃n,e.key= .int .i64 n)→ ∃ks:List Int,l.map (·.key)=ks.map encZ∧ ∀x,x∈ks↔ ∃e∈l,e.key= .int .i64 x
 | [], _=>⟨[],rfl,fun x=>by simp⟩
 | e::l,h=>by
  obtain ⟨ks,h1,h2⟩:=zpt fun e he=>h e (yaB _ he);obtain ⟨n,hn⟩:=h e yaG;refine ⟨n::ks,by rw [yaK,yaK,h1,hn],fun x=> ?_⟩;rw [yac,h2];constructor
  ·rintro (rfl|⟨e',h3,h4⟩)
   ·exact ⟨e,yaG,hn⟩
   ·exact ⟨e',yaB _ h3,h4⟩
  ·rintro ⟨e',h3,h4⟩;rcases yac.1 h3 with rfl|h3
   ·left;rw [hn] at h4;cases h4;rfl
   ·exact .inr ⟨e',h3,h4⟩
theorem Tryz.zBa {A:Nat→Prop} {w:World} {M:Nat} {tk:List (Int×List Sg)} (h:kK A w M tk) {arr:Array MapEntry} {clock:Nat} (hb:w.heap[M]? =some (.map arr clock)):
  MapKept.Stamped arr clock∧ ∃ks:List Int,arr.toList.map (·.key)=ks.map encZ∧ks.Perm (tk.map (·.1)):=by
 obtain ⟨arr',clock',h1,⟨h2,h3⟩,h4⟩:=h.map;rw [hb] at h1;cases h1;obtain ⟨ks,g1,g2⟩:=zpt h2.keys;have hnd:ks.Nodup:=by
  have:(ks.map encZ).Nodup:=by
   rw [←g1,List.Nodup,ycj];exact h2.once
  exact (ycj.1 this).imp fun h e=>h (yaH encZ e)
 refine ⟨(MapKept.stamped_iff _ _).2 ⟨h3.1,h3.2,h2.once⟩,ks,g1,(List.perm_ext_iff_of_nodup hnd h.keys).2 fun x=> ?_⟩;rw [g2];constructor
 ·rintro ⟨e,he,hk⟩;have hv:=uf h2 he hk;cases hg:dP x tk with
  | none=>rw [(h4 x).1 hg] at hv;cases hv
  | some l=>exact ya6.2 ⟨_,Fe hg,rfl⟩
 ·intro hx;cases hg:dP x tk with
  | none=>exact absurd hx (Jk.1 hg)
  | some l=>
   obtain ⟨v,hv,_⟩:=(h4 x).2 l hg;obtain ⟨e,he,hk,_⟩:=Kc hv;exact ⟨e,he,hk⟩
set_option maxRecDepth 100000 in
theorem Tryz.zxT (M:Nat) (w:World):
  Calls prog 59 #[.map (some M)] w fun e w'=> ∃t,e= .returned (.func (.func 87) #[] #[.pointer (some ⟨w.heap.size,0,none⟩)])∧w'=w.alloc (.cells #[.map (some M)] t):=by
 have Bp: ∀(fn:Fn) (first cap:Array Value) (w:World),(Instr.makeFunc fn first cap).run prog w= .ok (.func fn first cap) w:=fun _ _ _ _=>rfl;go_enter func59,ntmps59;go_wp2;go_ret;exact ⟨_,rfl,rfl⟩
def Tryz.pK (s:SS):List Int:=(s.tk.map (·.1)).mergeSort leI
set_option maxRecDepth 100000 in
theorem Tryz.zyw {A:Nat→Prop} {w:World} {S P M:Nat} {r:Rg} {s:SS} (h:iq A w S P M r s) (hl:s.tk.length≤1000000):
    Calls prog 18 #[.pointer (some ⟨S,0,none⟩)] w fun e w'=> ∃(v:Value) (t:TypeId),e= .returned v∧w'.ownsRow w.heap.size t 1 v s.tk.length ((pK s).map encZ)∧Below w.heap.size w w':=by
  have hm:=Ch h;obtain ⟨nv,sv,ho,hn,hsv⟩:=h.obj;have c1:=kV ho (i:=11) rfl;clear ho hn hsv;obtain ⟨arr,clock,hb,_⟩:=h.tk.map;obtain ⟨hst,ks,hk1,hk2⟩:=zBa h.tk hb;have hlt:=h.tO;have hS: ∀t,Calls prog 58 #[.func (.func 87) #[] #[.pointer (some ⟨w.heap.size,0,none⟩)]] (w.alloc (.cells #[.map (some M)] t)) fun e w'=> ∃v ss t',e= .returned v∧ss.Perm ks∧w'.ownsRow (w.alloc (.cells #[.map (some M)] t)).heap.size t' 1 v ss.length ((ss.mergeSort leI).map encZ)∧(v= .slice none 0 0↔ss= [])∧RowKit.Below (w.alloc (.cells #[.map (some M)] t)).heap.size (w.alloc (.cells #[.map (some M)] t)) w':=fun t=>
    U5.sorted _ w.heap.size M arr clock ks (by simp) (by rw [ycD _ _ 0 _ _ (0,0) (ybq w _)];rfl) (by rw [←hb];exact yce w _|>.2 _ hlt) hst hk1
      (fun x hx=>by
        obtain ⟨e,he,rfl⟩:=ya6.1 (hk2.subset hx);have:=h.tk.u16 e he;obtain ⟨abA,abB⟩:=this;generalize e.1=x at abA abB;have e1:IntKind.i64.min= -9223372036854775808:=by decide
        have e2:IntKind.i64.max=9223372036854775807:=by decide
        simp only [Lit.wf,e1,e2,yba,yap];omega)
      (by rw [hk2.length_eq,ybw];exact hl)
  go_enter func18,ntmps18;go_wp2_with (first
    | (go_at_call 56;refine hm.mono ?_;rintro e w' ⟨rfl,hw⟩;have hw:=hw.symm;subst hw)
    | (go_at_call 59;refine (zxT M _).mono ?_;rintro e w' ⟨t,rfl,hw⟩;subst hw)
    | (go_at_call 58;refine (hS _).mono ?_;rintro e w' ⟨v,ss,t,rfl,hss,hrow,_,hb⟩)
    | go_in)
  go_ret;have hss:=hss.trans hk2;rw [hss.length_eq,ybw,mergeSort_of_perm_i hss] at hrow;exact ⟨v,t,rfl,zAz hrow (by simp),((yag _ w).alloc (yab _) _).trans (hb.mono (by simp))⟩
end Go.Proofs
namespace Go.Proofs
open Go.Dw Go.RowKit
theorem Tryz.zB2 (w:World) {x y:Array Value} {tx ty:TypeId} {i:Nat} {v:Value} (h:x[i]? =some v):((w.alloc (.cells x tx)).alloc (.cells y ty)).cell? ⟨w.heap.size,i,none⟩=some v:=by
 rw [ycD _ _ i x tx (0,0) (by rw [(yce _ _).2 _ (by simp)];exact ybq w _)];exact h
theorem Tryz.zB1 (w:World) {x y:Array Value} {tx ty:TypeId} {i:Nat} {v:Value} (h:y[i]? =some v):((w.alloc (.cells x tx)).alloc (.cells y ty)).cell? ⟨w.heap.size+1,i,none⟩=some v:=by
 have:=ybq (w.alloc (.cells x tx)) (.cells y ty);rw [show (w.alloc (.cells x tx)).heap.size=w.heap.size+1 by simp] at this;rw [ycD _ _ i y ty (0,0) this];exact h
def Tryz.SS.fresh (ev tb:Bool):SS:=⟨ev,tb,false,0,0,[],0,0,false,0,[],0,false,false,false⟩
set_option maxRecDepth 100000 in
theorem Tryz.zD8 {w:World} {P L Bs B N:Nat} {g:Nat→Int} {r:Rg} {ev tb:Bool} (st:GM w P L Bs B N g) (hr:RgOk r):
    Calls prog 32 #[.pointer (some ⟨P,0,none⟩),r.val,.agg #[.bool ev,.bool tb,.bool false]] w fun e w'=> ∃S M,e= .returned (.tuple #[.pointer (some ⟨S,0,none⟩),.int .i64 0])∧w.heap.size≤S∧w.heap.size≤M∧
      (∀ A:Nat→Prop,A S→A M→iq A w' S P M r (SS.fresh ev tb))∧Below w.heap.size w w':=by
  have l7: ∀x y tx ty,GM ((w.alloc (.cells x tx)).alloc (.cells y ty)) P L Bs B N g:=fun x y tx ty=>(st.below ((yag _ w).alloc (yab _) _)).below ((yag _ _).alloc (yab _) _);have hck:=tZ r hr;have hmk: ∀(t:TypeId) (w:World),(Instr.makeMap t none).run prog w= .ok (.map (some w.heap.size)) (w.alloc (.map #[] 0)):=fun _ _=>rfl;unfold Rg.val at*;go_enter func32,ntmps32;go_wp2_with (first
    | (go_at_call 71;refine (EY P L Bs B N 0 g _ (l7 _ _ _ _)).mono ?_;rintro e w' ⟨rfl,hw⟩;have hw:=hw.symm;subst hw)
    | (go_at_call 72;refine (hck _).mono ?_;rintro e w' ⟨rfl,hb⟩;have kx: ∀i v,i<8→_→w'.cell? ⟨w.heap.size,i,none⟩=some v:=fun i v hi hv=>(hb.cell (p:=⟨w.heap.size,i,none⟩) (by simp<;>omega)).trans (zB2 w hv);have ky: ∀i v,i<8→_→w'.cell? ⟨w.heap.size+1,i,none⟩=some v:=fun i v hi hv=>(hb.cell (p:=⟨w.heap.size+1,i,none⟩) (by simp<;>omega)).trans (zB1 w hv);have x0:=kx 0 _ (by decide) rfl;have x1:=kx 1 _ (by decide) rfl;have x2:=kx 2 _ (by decide) rfl;have x3:=kx 3 _ (by decide) rfl;have x4:=kx 4 _ (by decide) rfl;have y0:=ky 0 _ (by decide) rfl;have y1:=ky 1 _ (by decide) rfl;have y2:=ky 2 _ (by decide) rfl;clear kx ky)
    | go_in)
  go_ret2;have hsz:=hb.size;simp at hsz;have hM:((w'.alloc (.map #[] 0)).alloc (.cells (((SS.fresh ev tb).row r P w'.heap.size .nilFunc (.slice none 0 0)).toArray) 126)).heap[w'.heap.size]? =some (.map #[] 0):=by
    rw [(yce _ _).2 _ (by simp)];exact ybq w' _
  have hS:=ybq (w'.alloc (.map #[] 0)) (.cells (((SS.fresh ev tb).row r P w'.heap.size .nilFunc (.slice none 0 0)).toArray) 126);rw [show (w'.alloc (.map #[] 0)).heap.size=w'.heap.size+1 by simp] at hS;have h00:(0:Int)≤0∧(0:Int)<65536:=by decide
  have h01:(0:Int)≤0∧(0:Int)<4294967296:=by decide
  have hbw:Below w.heap.size w w':=((((yag _ w).alloc (yab _) _).alloc (by simp) _)).trans (hb.mono (by simp<;>omega));refine ⟨_,w'.heap.size,rfl,?_,?_,fun A aS aM=>⟨⟨.nilFunc,.slice none 0 0,⟨_,126,hS,fun i y h=>by rw [yaz];exact h⟩,.idle rfl rfl,aL.none⟩,⟨⟨#[],0,hM,⟨⟨fun e he=>by simp at he,by simp⟩,⟨fun e he=>by simp at he,by simp⟩⟩,fun k=>⟨fun _=>rfl,fun l hl=>by cases hl⟩⟩,by simp [SS.fresh],fun e he=>by cases he⟩,?_,aS,aM,hr,h00,h00,h00,h01⟩,(hbw.alloc (by omega) _).alloc (by simp;omega) _⟩
  all_goals omega
end Go.Proofs
namespace Go.Dw
open Go.RowKit Go.WideShapes Go.ChangeShapes
theorem U7 {H:Type} {enc:TypeId×Value→H} {P:Program} {W W':World} (hl:laidOutB P=true) (hb:Below W.heap.size W W') {sp:Nat→Bool}: ∀ {ts:List TypeId} {vs:List Value} {ds:List (DataW H)} {ps:List MemPlace},
  (∀ t∈ts,P.readableRec t=true∧t<P.types.size)→DataW.TrodAll enc P W 0 (fun _=>true) true ts vs ds ps→(∀x∈ps,x.block<W.heap.size)→(∀x∈ps,sp x.block=true)→DataW.TrodAll enc P W' 0 sp true ts vs ds ps
 | [], vs,ds,ps,_,h,_,_=>by
  obtain ⟨rfl,rfl,rfl⟩:=trodAll_nil h;exact trodAll_mk0
 | t::ts,vs,ds,ps,ht,h,hlt,hsp=>by
  obtain ⟨v,vs',d,ds',p,q,rfl,rfl,rfl,h0,h1⟩:=trodAll_cons h;have ht0:=ht t (yaG ..);refine trodAll_cons_mk (WideElems.Trod_stays hl ht0.1 ht0.2 h0 (fun x hx=>hb.same (hlt x (yco _ hx))) (fun x hx=>hsp x (yco _ hx))) ?_;exact U7 hl hb (fun u hu=>ht u (yaB _ hu)) h1 (fun x hx=>hlt x (ycg _ hx)) (fun x hx=>hsp x (ycg _ hx))
theorem abm {P:Program} {w:World} {r:Reach} {base:Nat} {t b:TypeId} {fs:Array Field} {v:Value} (ht:P.underlying t=some (.struct fs)) (hn:P.cellsOf t=3) (hc:P.cellTypes P.depth t=some [b,b,b])
  (hb:P.underlying b=some .bool) (h:Value.okWide P w r base t v): ∃x y z,v= .agg #[.bool x,.bool y,.bool z]:=by
 simp only [Value.okWide,ht] at h;obtain ⟨cs,rfl,hsz,ts,hts,_,hcell⟩:=h;rw [hc] at hts;cases hts;rw [hn] at hsz;have cell: ∀i v,i<3→cs[i]? =some v→ ∃x,v= .bool x:=fun i v hi hv=>by
  obtain ⟨u,hu,hok⟩:=hcell i v hv;have e:u=b:=by
   have hi':i% [b,b,b].length=i:=ybe (by simpa using hi);rw [hi'] at hu
   match i,hi with
   | 0,_=>simpa using hu.symm
   | 1,_=>simpa using hu.symm
   | 2,_=>simpa using hu.symm
  subst e;simp only [Cell.okWide,hb] at hok;cases v<;>simp_all [Cell.ok]
 obtain ⟨x,hx⟩:=cell 0 cs[0] (by omega) (yaM (by omega));obtain ⟨y,hy⟩:=cell 1 cs[1] (by omega) (yaM (by omega));obtain ⟨z,hz⟩:=cell 2 cs[2] (by omega) (yaM (by omega));refine ⟨x,y,z,?_⟩;congr 1;apply Array.ext
 ·rw [hsz];rfl
 ·intro i h1 h2
  match i,h2 with
  | 0,_=>exact hx
  | 1,_=>exact hy
  | 2,_=>exact hz
end Go.Dw
namespace Go.Dw
open Go.RowKit
mutual
def AO:AV→Option Value
 | .bool (.lit b)=>some (.bool b)
 | .int k (.lit n)=>some (.int k n)
 | .jr=>some (.pointer none)
 | .bZ=>some (.slice none 0 0)
 | .agg l=>match wJ l with|some m=>some (.agg m.toArray)|none=>none
 | .aH l=>match wJ l with|some m=>some (.tuple m.toArray)|none=>none
 | _=>none
def wJ:List AV→Option (List Value)
 | [] => some []
 | a::l=>match AO a,wJ l with|some v,some m=>some (v::m)|_,_=>none
end
mutual
theorem Sm {ρ:Val} {j:J}: ∀ {a:AV} {x u:Value},AO a=some x→R ρ j a u→u=x
 | .bool (.lit b),x,u,h,r=>by cases h;exact r
 | .int k (.lit n),x,u,h,r=>by cases h;exact r
 | .jr,x,u,h,r=>by cases h;exact r
 | .bZ,x,u,h,r=>by cases h;exact r
 | .agg l,x,u,h,r=>by
  obtain ⟨m,rfl,hm⟩:=r;rw [AO] at h;cases hl:wJ l with
  | none=>rw [hl] at h;cases h
  | some m'=>rw [hl] at h;cases h;rw [Mg hl hm]
 | .aH l,x,u,h,r=>by
  obtain ⟨m,rfl,hm⟩:=r;rw [AO] at h;cases hl:wJ l with
  | none=>rw [hl] at h;cases h
  | some m'=>rw [hl] at h;cases h;rw [Mg hl hm]
theorem Mg {ρ:Val} {j:J}: ∀ {l:List AV} {m us:List Value},wJ l=some m→RL ρ j l us→us=m
 | [], m,us,h,r=>by cases h;exact r
 | a::l,m,us,h,r=>by
  obtain ⟨v,m',rfl,hv,hm⟩:=r;rw [wJ] at h;cases ha:AO a with
  | none=>rw [ha] at h;cases h
  | some x=>
   cases hl:wJ l with
   | none=>rw [ha,hl] at h;cases h
   | some y=>rw [ha,hl] at h;cases h;rw [Sm ha hv,Mg hl hm]
end
def SI (a b:Bool):Bool:=match a with|true=>b|false=>match b with|true=>false|false=>true
mutual
def GU:AV→AV→Bool
 | .bool (.lit a),.bool (.lit b)=>SI a b
 | .int k (.lit a),.int k' (.lit b)=>match decide (k=k') with|true=>decide (a=b)|false=>false
 | .jr,.jr=>true
 | .bZ,.bZ=>true
 | .agg l,.agg m=>Dg l m
 | .aH l,.aH m=>Dg l m
 | _,_=>false
def Dg:List AV→List AV→Bool
 | [], [] => true
 | a::l,b::m=>match GU a b with|true=>Dg l m|false=>false
 | _,_=>false
end
theorem zGb {a b:Bool} (h:SI a b=true):a=b:=by cases a<;>cases b<;>first|rfl|cases h
mutual
theorem SH: ∀ {a b:AV},GU a b=true→a=b
 | .bool (.lit a),.bool (.lit b),h=>by rw [zGb (a:=a) (b:=b) h]
 | .int k (.lit a),.int k' (.lit b),h=>by
  rw [GU] at h;split at h
  ·rename_i hk;rw [ybB hk,ybB h]
  ·cases h
 | .jr,.jr,_=>rfl
 | .bZ,.bZ,_=>rfl
 | .agg l,.agg m,h=>by rw [Ms (l:=l) (m:=m) h]
 | .aH l,.aH m,h=>by rw [Ms (l:=l) (m:=m) h]
theorem Ms: ∀ {l m:List AV},Dg l m=true→l=m
 | [], [], _=>rfl
 | a::l,b::m,h=>by
  rw [Dg] at h;split at h
  ·rename_i ha;rw [SH ha,Ms h]
  ·cases h
end
def Ik (x : AV) (v : AV) (_ : Heap) : Ob := match GU v x with | true => .ok | false => .bad 96 "other"
theorem zDD {P:Program} (hmo:P.follows .mixedOrders=true) {n:Nat} {f:FuncId} {args:List AV} {vals:List Value} {x:AV} {u:Value} (hx:AO x=some u) (ha:RL Val.zero (fun _=>none) args vals)
  (h:(ev P IW n (.call f args ru (Ik x))).good=true) (w:World):
  Calls P f vals.toArray w fun e w'=>e= .returned u∧Below w.heap.size w w':=by
 have hg:=KV (P:=P) (ρ:=Val.zero) (w0:=Cx.plain w) (gH:=IW) zA7 (fun n rec hg=>Af hmo hg) n;refine yas ((hg.call f args ru (Ik x) (Ob.AQ h)).2 (fun _=>none) w vals (inv0 w) ha) fun e w' he=> ?_;obtain ⟨u',rfl,v,H',j',h1,h2,h3,h4⟩:=he;have hv:v=x:=by
  unfold Ik at h4;split at h4
  ·rename_i e;exact SH e
  ·exact h4.elim
 rw [hv] at h1;rw [Sm hx h1];exact ⟨rfl,h2.fr.below⟩
theorem VG {ρ:Val} {j:J} {k:IntKind} {n:Int} {l:List AV} {m:List Value} (h:RL ρ j l m):RL ρ j (.int k (.lit n)::l) (.int k n::m):=⟨_,_,rfl,rfl,h⟩
theorem zE7 {ρ:Val} {j:J} {b:Bool} {l:List AV} {m:List Value} (h:RL ρ j l m):RL ρ j (.bool (.lit b)::l) (.bool b::m):=⟨_,_,rfl,rfl,h⟩
end Go.Dw
namespace Go.Proofs
open Go.RowKit Go.Maps Go.Sort
def Tryz.GQ (n:Nat):Nat:=4096+16*n
def Tryz.qW (n:Nat):Nat:=(GQ n+2*n+9)/4*4
def Tryz.rings (n:Nat):Value:= .agg #[.bool false,.int .i64 n,.int .u64 4096,.int .u64 (GQ n),.int .u64 (qW n)]
def Tryz.zDI (n:Nat):Dw.AV:= .agg [.bool (.lit false),.int .i64 (.lit n),.int .u64 (.lit 4096),.int .u64 (.lit (GQ n)),.int .u64 (.lit (qW n))]
theorem Tryz.zuL {n:Nat} (h:n=1∨n=2∨n=4∨n=8∨n=16):n∈ [1,2,4,8,16]:=by simp;omega
noncomputable def Tryz.zD4 (n:Nat):Bool:=(Dw.ev prog Dw.IW 100000 (.call 30 [.bool (.lit false),.int .i64 (.lit n),.int .u64 (.lit 4096)] Dw.ru (Dw.Ik (.aH [zDI n,.int .u64 (.lit (qW n+6+8*n-4096)),.int .i64 (.lit 0)])))).good
theorem Tryz.zvi:([1,2,4,8,16].all fun n=>zD4 n)=true:=by kernel_rfl
theorem Tryz.zxI (n:Nat) (hn:n=1∨n=2∨n=4∨n=8∨n=16) (w:World):
  Calls prog 30 #[.bool false,.int .i64 n,.int .u64 4096] w fun e w'=>e= .returned (.tuple #[rings n,.int .u64 ((qW n:Int)+6+8*n-4096),.int .i64 0])∧Below w.heap.size w w':=by
 have h1:=ybG.1 zvi n (zuL hn);exact Dw.zDD (by kernel_rfl) rfl (Dw.zE7 (Dw.VG (Dw.VG Dw.RL.nil))) h1 w
end Go.Proofs
namespace Go.Proofs
open Go.Dw Go.RowKit
theorem Tryz.jB (w:World) (o:Obj):(w.alloc o).heap.size=w.heap.size+1:=by simp
def Tryz.pI (n:Nat):Rg:=⟨n,4096,GQ n,qW n⟩
theorem Tryz.zxd {n:Nat} (h:n=1∨n=2∨n=4∨n=8∨n=16):RgOk (pI n):=by
 rcases h with rfl|rfl|rfl|rfl|rfl
 ·exact ⟨⟨0,by decide,rfl⟩,by decide,by decide,by decide,by decide,by decide,by decide,by decide,by decide,by decide,by decide,by decide,by decide⟩
 ·exact ⟨⟨1,by decide,rfl⟩,by decide,by decide,by decide,by decide,by decide,by decide,by decide,by decide,by decide,by decide,by decide,by decide⟩
 ·exact ⟨⟨2,by decide,rfl⟩,by decide,by decide,by decide,by decide,by decide,by decide,by decide,by decide,by decide,by decide,by decide,by decide⟩
 ·exact ⟨⟨3,by decide,rfl⟩,by decide,by decide,by decide,by decide,by decide,by decide,by decide,by decide,by decide,by decide,by decide,by decide⟩
 ·exact ⟨⟨4,by decide,rfl⟩,by decide,by decide,by decide,by decide,by decide,by decide,by decide,by decide,by decide,by decide,by decide,by decide⟩
def Tryz.abq:aK:=⟨80,[sl1 []],0,0,0,.int .i64 (.var 7),0⟩
end Go.Proofs
namespace Go.Proofs
open Go.Dw
def Tryz.zoI:List aK:= []
def Tryz.zsX:List Sh:= [sS 3 4 0]
def Tryz.JA:List (Nat×AV):= [(0,nQ [(.lit 0,1)]),(3,.int .u64 (af 2)),(4,.int .i64 (.lit 0))]
def Tryz.zlw:List cB:= []
def Tryz.zlx:List dU:= []
def Tryz.zsY:Option AV:=none
def Tryz.zAP:List (SB×Bool):= [(.cmp .lss (.lit 0) (au 0),true)]
def Tryz.zxs:List gu:= [
 ⟨.ret,[2],none,⟨.aH [.int .i64 (.lit 2)],[],[],0,[]⟩⟩,
 ⟨.normal,[0,3,4],none,⟨.aH [.sx 0 ((au 0)) 3 [((.lit 0),1)],.int .u64 (.bin .add .u64 (af 2) (bM 4)),.int .i64 (.lit 1)],[],[],0,[]⟩⟩]
def Tryz.zxr:List (List (SB×Bool)×Nat):= [
 ([((.cmp .eql (bM 4) (.lit 0)),true)],0),
 ([((.cmp .eql (bM 4) (.lit 0)),false),((.cmp .lss (.bin .add .u64 (af 3) (.bin .sub .u64 (bM 4) (.lit 1))) (af 3)),true)],0),
 ([((.cmp .eql (bM 4) (.lit 0)),false),((.cmp .lss (.bin .add .u64 (af 3) (.bin .sub .u64 (bM 4) (.lit 1))) (af 3)),false)],1)]
theorem Tryz.zAO:(eU prog (bG zoI) (fB zlw) (eY zlx) 100000 (.code (bf prog [0,0,1,0,1,1,1,80]) [0,0,1,0,1,1,1,80] 71 (bR 71 JA zsY) (bn 0 zsX) (fJ zxs 0))).ways zAP=some zxr:=by kernel_rfl
theorem Tryz.zDR:(bJ zsX&&bI zoI&&fK zlw&&fM zlx&&fV JA&&gK zxs&&fI 71 JA&&Nat.ble 71 bS&&gJ zsY)=true:=by kernel_rfl
def Tryz.zoH:List aK:= []
def Tryz.zsV:List Sh:= [sS 3 4 0,sS 5 6 1]
def Tryz.Jz:List (Nat×AV):= [(0,nQ [(au 1,1),(.bin .sub .i64 (au 1) (.lit 1),2)]),(3,.int .u64 (af 2)),(4,.int .i64 (au 1))]
def Tryz.zlu:List cB:= []
def Tryz.zlv:List dU:= []
def Tryz.zsW:Option AV:=none
def Tryz.zAN:List (SB×Bool):= [(.cmp .lss (au 1) (au 0),true),(.cmp .gtr (au 1) (.lit 0),true)]
def Tryz.zxq:List gu:= [
 ⟨.ret,[2],none,⟨.aH [.int .i64 (.lit 2)],[],[],0,[]⟩⟩,
 ⟨.normal,[0,3,4],none,⟨.aH [.sx 0 ((au 0)) 3 [((au 1),1),((.bin .sub .i64 (au 1) (.lit 1)),2)],.int .u64 (.bin .add .u64 (af 2) (bM 4)),.int .i64 (.bin .add .i64 (au 1) (.lit 1))],[],[],0,[]⟩⟩]
def Tryz.zxp:List (List (SB×Bool)×Nat):= [
 ([((.cmp .eql (bM 4) (.lit 0)),true)],0),
 ([((.cmp .eql (bM 4) (.lit 0)),false),((.cmp .lss (.bin .add .u64 (af 3) (.bin .sub .u64 (bM 4) (.lit 1))) (af 3)),true)],0),
 ([((.cmp .eql (bM 4) (.lit 0)),false),((.cmp .lss (.bin .add .u64 (af 3) (.bin .sub .u64 (bM 4) (.lit 1))) (af 3)),false),(.var 1,true),(.var 0,false)],0),
 ([((.cmp .eql (bM 4) (.lit 0)),false),((.cmp .lss (.bin .add .u64 (af 3) (.bin .sub .u64 (bM 4) (.lit 1))) (af 3)),false),(.var 1,true),(.var 0,true)],1),
 ([((.cmp .eql (bM 4) (.lit 0)),false),((.cmp .lss (.bin .add .u64 (af 3) (.bin .sub .u64 (bM 4) (.lit 1))) (af 3)),false),(.var 1,false)],1)]
theorem Tryz.zAM:(eU prog (bG zoH) (fB zlu) (eY zlv) 100000 (.code (bf prog [0,0,1,0,1,1,1,80]) [0,0,1,0,1,1,1,80] 71 (bR 71 Jz zsW) (bn 0 zsV) (fJ zxq 0))).ways zAN=some zxp:=by kernel_rfl
theorem Tryz.zDQ:(bJ zsV&&bI zoH&&fK zlu&&fM zlv&&fV Jz&&gK zxq&&fI 71 Jz&&Nat.ble 71 bS&&gJ zsW)=true:=by kernel_rfl
def Tryz.zoG:List aK:= []
def Tryz.zsT:List Sh:= []
def Tryz.Jy:List (Nat×AV):= [(0,nQ []),(3,.int .u64 (af 2)),(4,.int .i64 (au 1))]
def Tryz.zls:List cB:= []
def Tryz.zlt:List dU:= []
def Tryz.zsU:Option AV:=none
def Tryz.zAL:List (SB×Bool):= [(.cmp .lss (au 1) (au 0),false)]
def Tryz.zxo:List gu:= [
 ⟨(.exit 0),[3],none,⟨.aH [.int .u64 (af 2)],[],[],0,[]⟩⟩]
def Tryz.zxn:List (List (SB×Bool)×Nat):= [
 ([], 0)]
theorem Tryz.zAK:(eU prog (bG zoG) (fB zls) (eY zlt) 100000 (.code (bf prog [0,0,1,0,1,1,1,80]) [0,0,1,0,1,1,1,80] 71 (bR 71 Jy zsU) (bn 0 zsT) (fJ zxo 0))).ways zAL=some zxn:=by kernel_rfl
theorem Tryz.zDP:(bJ zsT&&bI zoG&&fK zls&&fM zlt&&fV Jy&&gK zxo&&fI 71 Jy&&Nat.ble 71 bS&&gJ zsU)=true:=by kernel_rfl
def Tryz.zoF:List aK:= []
def Tryz.zsR:List Sh:= []
def Tryz.Jw:List (Nat×AV):= [(3,.int .u64 (af 2))]
def Tryz.zlq:List cB:= []
def Tryz.zlr:List dU:= []
def Tryz.zsS:Option AV:=none
def Tryz.zAJ:List (SB×Bool):= []
def Tryz.zxm:List gu:= [
 ⟨.ret,[2],none,⟨.aH [.int .i64 (.lit 2)],[],[],0,[]⟩⟩,
 ⟨.ret,[2],none,⟨.aH [.int .i64 (.lit 0)],[],[],0,[]⟩⟩]
def Tryz.zxl:List (List (SB×Bool)×Nat):= [
 ([((.cmp .geq (af 2) (.lit 4294967296)),true)],0),
 ([((.cmp .geq (af 2) (.lit 4294967296)),false)],1)]
theorem Tryz.zAI:(eU prog (bG zoF) (fB zlq) (eY zlr) 100000 (.code (bf prog [1,1,1,1,80]) [1,1,1,1,80] 71 (bR 71 Jw zsS) (bn 0 zsR) (fJ zxm 0))).ways zAJ=some zxl:=by kernel_rfl
theorem Tryz.zDO:(bJ zsR&&bI zoF&&fK zlq&&fM zlr&&fV Jw&&gK zxm&&fI 71 Jw&&Nat.ble 71 bS&&gJ zsS)=true:=by kernel_rfl
def Tryz.zsP:List aK:= [abq]
def Tryz.zxk:List Sh:= []
def Tryz.zsQ:List AV:= [sl1 []]
def Tryz.zDN:List (SB×Bool):= []
def Tryz.VX:List Leaf:= [
 ⟨.int .i64 (.lit 2),[],[],0,[]⟩,
 ⟨.int .i64 (.var 7),[],[],0,[]⟩]
def Tryz.VW:List (List (SB×Bool)×Nat):= [
 ([((.cmp .eql (.var 7) (.lit 0)),true),((.cmp .eql (au 0) (.lit 0)),true)],0),
 ([((.cmp .eql (.var 7) (.lit 0)),true),((.cmp .eql (au 0) (.lit 0)),false)],1),
 ([((.cmp .eql (.var 7) (.lit 0)),false)],1)]
theorem Tryz.zDM:(ev prog (bG zsP) 100000 (.call 50 zsQ (bn 0 zxk) (cK VX 0))).ways zDN=some VW:=by kernel_rfl
theorem Tryz.zFK:(bJ zxk&&bI zsP&&AV.bQ zsQ&&dx VX)=true:=by kernel_rfl
open Go.RowKit
structure Tryz.GA (l:List Sg) (sa:Option Addr) (c:Nat) (w0:World) (k:Nat) (a:Act) (w:World):Prop where
 kl:k≤l.length
 size:a.tmps.size=71
 dF:a.defers= []
 s0:a.tmps.getD 0 undef= .slice sa l.length c
 s4:a.tmps.getD 4 undef= .int .i64 k
 mv:Below w0.heap.size w0 w
 sum: ∃pw s,a.tmps.getD 3 undef= .int .u64 s∧0≤s∧s≤k*4294967296∧jA pw s (l.drop k)=jA false 0 l∧(k=0→pw=false)∧(∀i,k=i+1→ ∃h:i<l.length,pw=l[i].wr)
theorem Tryz.zGC {ρ:Val} {j:J} {sa:Option Addr} {n c:Nat} (hv:ρ.v 0= .slice sa n c) (hd:(au 0).den ρ=n):Dw.R ρ j (nQ []) (.slice sa n c):=by
 have:Dw.R ρ j (nQ []) (ρ.v 0):=⟨rfl,sa,n,c,hv,hd.symm,trivial⟩
 rwa [hv] at this
theorem Tryz.zAR {l:List Sg} {sa:Option Addr} {c:Nat} {w0:World} {k:Nat} {a:Act} {w:World} (h:GA l sa c w0 k a w) (hl:l.length≤64) (hok: ∀x∈l,x.ok)
    (hr:l= []∨ ∃R o,sa=some ⟨R,o,none⟩∧w0.rangeAt R o (dX l)):
    (bf prog [0,0,1,0,1,1,1,80]).wp prog (fun ex a' w'=>match ex with
      | .normal=>k<l.length∧GA l sa c w0 (k+1) a' w'
      | ex=>a'.tmps.size=71∧a'.defers= []∧Below w0.heap.size w0 w'∧((ex= .ret∧jA false 0 l=2∧a'.tmps.getD 2 undef= .int .i64 2)∨(ex= .exit 0∧ ∃s,jA false 0 l=(if 4294967296≤s then 2 else 0)∧a'.tmps.getD 3 undef= .int .u64 s∧0≤s∧s<18446744073709551616))) a w:=by
  obtain ⟨kl,size,dF,s0,s4,mv,pw,s,s3,hs0,hs1,hsw,hp0,hp1⟩:=h;have hden: ∀(n k' s':Int) (x y:Sg) (sl:Value),n=l.length→0≤k'→k'≤64→0≤s'→s'<18446744073709551616→x.ok→(au 0).den (gq n k' s' x y sl)=l.length∧(au 1).den (gq n k' s' x y sl)=k'∧(af 2).den (gq n k' s' x y sl)=s'∧(af 3).den (gq n k' s' x y sl)=x.di∧(bM 4).den (gq n k' s' x y sl)=x.len:=by
    intro n k' s' x y sl h1 h2 h3 h4 h5 h6;subst h1;exact ⟨mh (by show (0:Int)≤l.length;omega) (by show ((l.length:Nat):Int)<_;omega),mh h2 (by show k'<_;omega),iI h4 h5,iI h6.1 h6.2.1,pF h6.2.2.1 h6.2.2.2⟩
  by_cases hkl:k<l.length
  · rcases hr with h0|⟨R,o,rfl,hr⟩
    · rw [h0] at hkl;simp at hkl
    have MQ:=uz hr (by intro h0;rw [h0] at hkl;simp at hkl);have hrw:w.rangeAt R o (dX l):=gL hr (mv.block R MQ);have hx:=Fg hrw k hkl;have hxo:=hok l[k] (yaL hkl);rw [ycr hkl] at hsw;generalize hX:l[k]=X at hx hxo hsw;have Dv:=hxo;obtain ⟨Vm,xa1,Vn,Vo⟩:=hxo;rw [jA] at hsw;have hwl:X.len≠0→IntKind.wrap .u64 (X.len-1)=X.len-1:=fun h=>bE (by omega) (by omega);have rG:IntKind.wrap .u64 (X.di+(X.len-1))=(X.di+(X.len-1))%18446744073709551616:=Ca _;have hws:IntKind.wrap .u64 (s+X.len)=s+X.len:=bE (by omega) (by omega);have hkk:IntKind.wrap .i64 ((k:Int)+1)=((k+1:Nat):Int):=by rw [gV (by omega) (by omega)];omega
    have fin: ∀ {a':Act} {w':World},a'.tmps.size=71→a'.defers= []→Below w.heap.size w w'→([0,3,4].map fun t=>a'.tmps.getD t undef)= [.slice (some ⟨R,o,none⟩) l.length c,.int .u64 (s+X.len),.int .i64 (k+1:Nat)]→
        jA X.wr (s+X.len) (l.drop (k+1))=jA false 0 l→k<l.length∧GA l (some ⟨R,o,none⟩) c w0 (k+1) a' w':=fun {a' w'} q1 q2 q5 q8 q9=>by
      simp only [yaK,ya0,yaR,yaU] at q8;obtain ⟨t0,t3,t4⟩:=q8;refine ⟨hkl,⟨by omega,q1,q2,t0,t4,mv.trans (q5.mono mv.size),X.wr,s+X.len,t3,by omega,by push_cast;omega,q9,by omega,fun i hi=> ?_⟩⟩;have:k=i:=by omega
      subst this;exact ⟨hkl,by rw [hX]⟩
    rcases ybk k with hk0|hk0
    · subst hk0;have hpw:=hp0 rfl;subst hpw;obtain ⟨d0,d1,d2,d3,d4⟩:=hden l.length 0 s X X (.slice (some ⟨R,o,none⟩) l.length c) rfl (by omega) (by omega) hs0 (by omega) Dv;have hv0:(gq l.length 0 s X X (.slice (some ⟨R,o,none⟩) l.length c)).v 0= .slice (some ⟨R,o,none⟩) l.length c:=rfl;have hb0:(gq l.length 0 s X X (.slice (some ⟨R,o,none⟩) l.length c)).b 0=X.wr:=rfl;generalize gq l.length 0 s X X (.slice (some ⟨R,o,none⟩) l.length c)=ρ at*;have hj1:aJ [(R,o)] 1=some ⟨R,o,0,none⟩:=rfl;have hsx:Dw.R ρ (aJ [(R,o)]) (nQ [(.lit 0,1)]) (.slice (some ⟨R,o,none⟩) l.length c):=by
        have:Dw.R ρ (aJ [(R,o)]) (nQ [(.lit 0,1)]) (ρ.v 0):=⟨rfl,_,_,_,hv0,d0.symm,⟨R,o,_,0,rfl,hj1,rfl,rfl,hkl,rfl⟩,trivial⟩
        rwa [hv0] at this
      refine ya3 (iM (ρ:=ρ) (K:=fun _=>False) (g:=aU.none) (bl:= [(R,o)]) mixed zAO zDR (fun b h=>h.elim)
        ⟨jQ hx (by unfold Sg.cells;simp) (ai (aA d3) (ai (aA d4) (ai (fA hb0) RL.nil))) (fun h=>h),trivial⟩
        ⟨fun h=>(by cases h),trivial⟩ eH trivial trivial trivial size dF ?_ (aZ.2 ⟨by rw [gT,d0,zag];simp only [yap];omega,aT.2 trivial⟩)) fun ex a' w' hh=> ?_
      · intro t ht;simp only [JA,yac,yae,yav] at ht;rcases ht with rfl|rfl|rfl
        · rw [s0];exact hsx
        · rw [s3];exact aA d2
        · rw [s4];exact aA rfl
      · obtain ⟨q,hq,hto,lf,hlf,rfl,hsz,j,hdf,he⟩:=hh;have hbl:=fG he (fun _ h=>h);unfold zxr at hq;simp only [yac,yae,yav] at hq;rcases hq with rfl|rfl|rfl
        all_goals
          simp only [aZ,aT,qK,gT,dJ,gG,den_add,zag,d0,d1,d2,d3,d4,yap,yat,ycz,ybD,ne_eq,yaU] at hto;cases hlf;have hs:=iH he.ret
        · exact ⟨hsz,hdf,mv.trans (hbl.mono mv.size),.inl ⟨rfl,by rw [←hsw,yak (by omega)],by simpa [AV.aP,AV.val,zag] using hs⟩⟩
        · obtain ⟨t1,t2⟩:=hto;rw [hwl t1,rG] at t2;exact ⟨hsz,hdf,mv.trans (hbl.mono mv.size),.inl ⟨rfl,by rw [←hsw,yak (by omega)],by simpa [AV.aP,AV.val,zag] using hs⟩⟩
        · obtain ⟨t1,t2⟩:=hto;rw [hwl t1,rG] at t2;refine fin hsz hdf hbl ?_ ?_
          · rw [hs];simp only [AV.aP,AV.val,d2,d4,hv0,den_add,zag,hws];rfl
          · rw [←hsw,yai (by rintro (h|h|⟨h,_⟩);omega;omega;cases h)]
    · obtain ⟨i,rfl⟩: ∃i,k=i+1:=⟨k-1,by omega⟩;obtain ⟨hil,hpw⟩:=hp1 i rfl;have hy:=Fg hrw i hil;have rH:=hok l[i] (yaL hil);generalize hY:l[i]=Y at hy rH hpw;subst hpw;have hk1:IntKind.wrap .i64 (((i+1:Nat):Int)-1)=(i:Int):=by rw [gV (by omega) (by omega)];omega
      obtain ⟨d0,d1,d2,d3,d4⟩:=hden l.length (i+1:Nat) s X Y (.slice (some ⟨R,o,none⟩) l.length c) rfl (by omega) (by omega) hs0 (by omega) Dv;have hv0:(gq l.length (i+1:Nat) s X Y (.slice (some ⟨R,o,none⟩) l.length c)).v 0= .slice (some ⟨R,o,none⟩) l.length c:=rfl;have hb0:(gq l.length (i+1:Nat) s X Y (.slice (some ⟨R,o,none⟩) l.length c)).b 0=X.wr:=rfl;have hb1:(gq l.length (i+1:Nat) s X Y (.slice (some ⟨R,o,none⟩) l.length c)).b 1=Y.wr:=rfl;have d5:(af 5).den (gq l.length (i+1:Nat) s X Y (.slice (some ⟨R,o,none⟩) l.length c))=Y.di:=iI rH.1 rH.2.1;have d6:(bM 6).den (gq l.length (i+1:Nat) s X Y (.slice (some ⟨R,o,none⟩) l.length c))=Y.len:=pF rH.2.2.1 rH.2.2.2;generalize gq l.length (i+1:Nat) s X Y (.slice (some ⟨R,o,none⟩) l.length c)=ρ at*;have hj1:aJ [(R,o+3*(i+1)),(R,o+3*i)] 1=some ⟨R,o+3*(i+1),0,none⟩:=rfl;have hj2:aJ [(R,o+3*(i+1)),(R,o+3*i)] 2=some ⟨R,o+3*i,0,none⟩:=rfl;have hsx:Dw.R ρ (aJ [(R,o+3*(i+1)),(R,o+3*i)]) (nQ [(au 1,1),(.bin .sub .i64 (au 1) (.lit 1),2)]) (.slice (some ⟨R,o,none⟩) l.length c):=by
        have:Dw.R ρ (aJ [(R,o+3*(i+1)),(R,o+3*i)]) (nQ [(au 1,1),(.bin .sub .i64 (au 1) (.lit 1),2)]) (ρ.v 0):=
          ⟨rfl,_,_,_,hv0,d0.symm,⟨R,o,_,i+1,rfl,hj1,rfl,d1,hkl,rfl⟩,⟨R,o,_,i,rfl,hj2,rfl,by rw [gG,d1,zag,hk1];rfl,hil,rfl⟩,trivial⟩
        rwa [hv0] at this
      refine ya3 (iM (ρ:=ρ) (K:=fun _=>False) (g:=aU.none) (bl:= [(R,o+3*(i+1)),(R,o+3*i)]) mixed zAM zDQ (fun b h=>h.elim)
        ⟨jQ hx (by unfold Sg.cells;simp) (ai (aA d3) (ai (aA d4) (ai (fA hb0) RL.nil))) (fun h=>h),jQ hy (by unfold Sg.cells;simp) (ai (aA d5) (ai (aA d6) (ai (fA hb1) RL.nil))) (fun h=>h),trivial⟩
        ⟨fun h=>(by cases h),fun h=>(by cases h),trivial⟩ eH trivial trivial trivial size dF ?_ (aZ.2 ⟨by rw [gT,d0,d1];simp only [yap];omega,aZ.2 ⟨by rw [jY,d1,zag];simp only [yap];omega,aT.2 trivial⟩⟩)) fun ex a' w' hh=> ?_
      · intro t ht;simp only [Jz,yac,yae,yav] at ht;rcases ht with rfl|rfl|rfl
        · rw [s0];exact hsx
        · rw [s3];exact aA d2
        · rw [s4];exact aA d1
      · obtain ⟨q,hq,hto,lf,hlf,rfl,hsz,j,hdf,he⟩:=hh;have hbl:=fG he (fun _ h=>h);unfold zxp at hq;simp only [yac,yae,yav] at hq;rcases hq with rfl|rfl|rfl|rfl|rfl
        all_goals
          simp only [aZ,aT,qK,gT,dJ,gG,den_add,zag,d0,d1,d2,d3,d4,hb0,hb1,yap,yat,ycz,ybD,ne_eq,yaU] at hto;cases hlf;have hs:=iH he.ret
        · exact ⟨hsz,hdf,mv.trans (hbl.mono mv.size),.inl ⟨rfl,by rw [←hsw,yak (by omega)],by simpa [AV.aP,AV.val,zag] using hs⟩⟩
        · obtain ⟨t1,t2⟩:=hto;rw [hwl t1,rG] at t2;exact ⟨hsz,hdf,mv.trans (hbl.mono mv.size),.inl ⟨rfl,by rw [←hsw,yak (by omega)],by simpa [AV.aP,AV.val,zag] using hs⟩⟩
        · exact ⟨hsz,hdf,mv.trans (hbl.mono mv.size),.inl ⟨rfl,by rw [←hsw,yak (.inr (.inr ⟨hto.2.2.1,hto.2.2.2⟩))],by simpa [AV.aP,AV.val,zag] using hs⟩⟩
        · obtain ⟨t1,t2,t3,t4⟩:=hto;rw [hwl t1,rG] at t2;refine fin hsz hdf hbl ?_ ?_
          · rw [hs];simp only [AV.aP,AV.val,d1,d2,d4,hv0,den_add,zag,hws,hkk]
          · rw [←hsw,yai (by rintro (h|h|⟨h,h'⟩);omega;omega;rw [t4] at h';cases h')]
        · obtain ⟨t1,t2,t3⟩:=hto;rw [hwl t1,rG] at t2;refine fin hsz hdf hbl ?_ ?_
          · rw [hs];simp only [AV.aP,AV.val,d1,d2,d4,hv0,den_add,zag,hws,hkk]
          · rw [←hsw,yai (by rintro (h|h|⟨h,h'⟩);omega;omega;rw [t3] at h;cases h)]
  · have hkk:k=l.length:=by omega
    subst hkk;rw [List.drop_length,jA] at hsw;obtain ⟨d0,d1,d2,d3,d4⟩:=hden l.length l.length s ⟨0,0,false⟩ ⟨0,0,false⟩ (.slice sa l.length c) rfl (by omega) (by omega) hs0 (by omega) ⟨by decide,by decide,by decide,by decide⟩;have hv0:(gq l.length l.length s ⟨0,0,false⟩ ⟨0,0,false⟩ (.slice sa l.length c)).v 0= .slice sa l.length c:=rfl;generalize gq l.length l.length s ⟨0,0,false⟩ ⟨0,0,false⟩ (.slice sa l.length c)=ρ at*;refine ya3 (iM (ρ:=ρ) (K:=fun _=>False) (g:=aU.none) (bl:= []) mixed zAK zDP (fun b h=>h.elim) trivial trivial eH trivial trivial trivial size dF ?_ (aZ.2 ⟨by rw [gT,d0,d1];simp,aT.2 trivial⟩)) fun ex a' w' hh=> ?_
    · intro t ht;simp only [Jy,yac,yae,yav] at ht;rcases ht with rfl|rfl|rfl
      · rw [s0];exact zGC hv0 d0
      · rw [s3];exact aA d2
      · rw [s4];exact aA d1
    · obtain ⟨q,hq,hto,lf,hlf,rfl,hsz,j,hdf,he⟩:=hh;have hbl:=fG he (fun _ h=>h);unfold zxn at hq;simp only [yac,yae,yav] at hq;subst hq;cases hlf;have hs:=iH he.ret;exact ⟨hsz,hdf,mv.trans (hbl.mono mv.size),.inr ⟨rfl,s,hsw.symm,by simpa [AV.aP,AV.val,d2] using hs,hs0,by omega⟩⟩
theorem Tryz.xR {fn:Func} {t:Tmp} {a:Act} {w:World} {v:Value} {Post:Ending→World→Prop} (hd:a.defers= []) (h:fn.results= #[.tmp t]) (hv:a.tmps.getD t undef=v) (hp:Post (.returned v) w):bodyPost prog fn Post .ret a w:=
 yaI (v:=v) (by
  have hv':a.tmps[t]?.getD undef=v:=by simpa using hv
  simp [results,h,hv']) hd hp
set_option maxRecDepth 100000 in
theorem Tryz.Kr {A:Nat→Prop} {w:World} {v:Value} {l:List Sg} (h:aL A w v l):
  Calls prog 80 #[v] w fun e w'=>e= .returned (.int .i64 (gM l))∧Below w.heap.size w w':=by
 obtain ⟨sa,c,rfl,hok,hr⟩:=h;unfold gM;by_cases hlen:64<l.length
 ·rw [yak hlen];go_enter func80,ntmps80;go_wp2;go_ret;exact ⟨rfl,yag _ _⟩
 ·rw [yai hlen];have hr':l= []∨ ∃R o,sa=some ⟨R,o,none⟩∧w.rangeAt R o (dX l):=hr.imp_right fun ⟨R,o,e,_,hr⟩=>⟨R,o,e,hr⟩;go_enter func80,ntmps80;go_wp2;refine kF (c':= .loop (bf prog [0,0,1,0,1,1,1,80])) (by kernel_rfl) ?_;refine xQ (fun k a w'=>GA l sa c w k a w') (fun k=>l.length-k) (fun k a w' hI=>ya3 (zAR hI (by omega) hok hr') fun ex a' w2 hh=> ?_) 0 _ _ ?_
  ·cases ex with
   | normal=>exact ⟨k+1,by omega,hh.2⟩
   | ret=>
    obtain ⟨hsz,hdf,hb,⟨_,hV,h2⟩|⟨h,_⟩⟩:=hh
    ·exact xR (fn:=f80) (Post:=fun e w'=>e= .returned (.int .i64 (jA false 0 l))∧RowKit.Below w.heap.size w w') hdf rfl h2 ⟨by rw [hV],hb⟩
    ·cases h
   | exit i=>
    obtain ⟨hsz,hdf,hb,⟨h,_⟩|⟨h,s,hV,h3,hs0,hs1⟩⟩:=hh
    ·cases h
    ·cases h;simp only [Exit.inBlock,Exit.then,yak];rename_i K hK;refine hK _ _ (kF (c':=bf prog [1,1,1,1,80]) (by kernel_rfl) ?_);have d2:(af 2).den (gq 0 0 s ⟨0,0,false⟩ ⟨0,0,false⟩ undef)=s:=iI hs0 hs1;generalize gq 0 0 s ⟨0,0,false⟩ ⟨0,0,false⟩ undef=ρ at*;refine ya3 (iM (ρ:=ρ) (K:=fun _=>False) (g:=aU.none) (bl:= []) mixed zAI zDO (fun b h=>h.elim) trivial trivial eH trivial trivial trivial hsz hdf ?_ (aT.2 trivial)) fun ex a3 w3 hh=> ?_
     ·intro t ht;simp only [Jw,yac,yae,yav] at ht;subst ht;rw [h3];exact aA d2
     ·obtain ⟨q,hq,hto,lf,hlf,rfl,Ui,j,Tm,he⟩:=hh;have hb3:=fG he (fun _ h=>h);unfold zxl at hq;simp only [yac,yae,yav] at hq;rcases hq with rfl|rfl
      all_goals
       simp only [aZ,aT,nL,d2,zag,yap,yat,yaU] at hto;cases hlf;have h2:=iH he.ret;simp only [AV.aP,AV.val,zag,yaK,ya0,yaR,yaU] at h2
      ·exact xR (fn:=f80) (Post:=fun e w'=>e= .returned (.int .i64 (jA false 0 l))∧RowKit.Below w.heap.size w w') Tm rfl h2 ⟨by rw [hV,yak (by omega)],hb.trans (hb3.mono hb.size)⟩
      ·exact xR (fn:=f80) (Post:=fun e w'=>e= .returned (.int .i64 (jA false 0 l))∧RowKit.Below w.heap.size w w') Tm rfl h2 ⟨by rw [hV,yai (by omega)],hb.trans (hb3.mono hb.size)⟩
   | _=>obtain ⟨hsz,hdf,hb,⟨h,_⟩|⟨h,_⟩⟩:=hh<;>cases h
  ·exact ⟨yax _,rfl,rfl,rfl,rfl,yag _ _,false,0,rfl,by decide,by decide,rfl,fun _=>rfl,fun i hi=>(by omega)⟩
def Tryz.iL (l:List (SE×Nat)):AV:= .sx 0 (au 0) 1 l
def Tryz.uS (n:Nat):Sh:= .ro [.int .i64 (.var n)]
def Tryz.Io:aK:=⟨50,[sl1 []],0,0,0,.int .i64 (.var 7),0⟩
def Tryz.xZ:cB:=⟨[0,1,1,0,0,1,0,0,1,0,1,1,1,1,39],103,0,[(0,iL [(au 1,1)]),(1,sl1 []),(7,.int .i64 (au 1)),(8,.int .i64 (.lit 0))],[],[],0,0,[⟨.lit true,.exit 2,[(0,iL [(au 1,1)]),(1,sl1 []),(7,.int .i64 (au 1))],0⟩]⟩
def Tryz.Ag:cB:=⟨[0,1,0,1,1,1,1,39],103,0,[(0,iL []),(1,sl1 []),(7,.int .i64 (.lit 0))],[],[],0,0,[⟨.lit true,.exit 0,[(0,iL []),(1,sl1 [])],0⟩]⟩
def Tryz.zY:cB:=⟨[0,1,0,1,1,1,1,1,1,39],103,0,[(0,iL []),(1,sl1 []),(9,.bZ),(10,.int .i64 (.lit 0))],[],[],1,1,[⟨.lit true,.exit 4,[(9,.opq 1 none)],2⟩]⟩
def Tryz.kD (base:Nat) (f nx:SE):dU:=⟨100,.cst 2 none,1,[.int .i64 (.var 9),.int .u64 (af 3),.int .u32 (bM 4),.int .u16 f,.int .u16 nx],1,base,1,.opq base none,2⟩
end Go.Proofs
namespace Go.Proofs
open Go.Dw
def Tryz.zp6:List aK:= []
def Tryz.zt1:List Sh:= [uS 9,uS 10]
def Tryz.JV:List (Nat×AV):= [(0,iL [(au 1,1),(au 2,2)]),(1,sl1 []),(7,.int .i64 (au 1)),(8,.int .i64 (au 2))]
def Tryz.zmh:List cB:= []
def Tryz.zmi:List dU:= []
def Tryz.zt2:Option AV:=none
def Tryz.zBB:List (SB×Bool):= [(.cmp .lss (au 1) (au 0),true),(.cmp .lss (au 2) (au 0),true),(.cmp .lss (au 2) (au 1),true),(.cmp .eql (.var 10) (.var 9),false)]
def Tryz.zyZ:List gu:= [
 ⟨.normal,[0,1,7,8],none,⟨.aH [.sx 0 ((au 0)) 1 [((au 1),1),((au 2),2)],.sx 1 ((au 0)) 3 [],.int .i64 (au 1),.int .i64 (.bin .add .i64 (au 2) (.lit 1))],[],[],0,[]⟩⟩]
def Tryz.zyY:List (List (SB×Bool)×Nat):= [
 ([], 0)]
theorem Tryz.zBA:(eU prog (bG zp6) (fB zmh) (eY zmi) 100000 (.code (bf prog [0,0,1,1,0,0,1,0,0,1,0,1,1,1,1,39]) [0,0,1,1,0,0,1,0,0,1,0,1,1,1,1,39] 103 (bR 103 JV zt2) (bn 0 zt1) (fJ zyZ 0))).ways zBB=some zyY:=by kernel_rfl
theorem Tryz.zEI:(bJ zt1&&bI zp6&&fK zmh&&fM zmi&&fV JV&&gK zyZ&&fI 103 JV&&Nat.ble 103 bS&&gJ zt2)=true:=by kernel_rfl
def Tryz.zp5:List aK:= []
def Tryz.ztZ:List Sh:= []
def Tryz.JU:List (Nat×AV):= [(0,iL []),(1,sl1 []),(7,.int .i64 (au 1)),(8,.int .i64 (au 2))]
def Tryz.zmf:List cB:= []
def Tryz.zmg:List dU:= []
def Tryz.zt0:Option AV:=none
def Tryz.zBz:List (SB×Bool):= [(.cmp .lss (au 2) (au 1),false)]
def Tryz.zyX:List gu:= [
 ⟨(.exit 2),[0,1,7],none,⟨.aH [.sx 0 ((au 0)) 1 [],.sx 1 ((au 0)) 3 [],.int .i64 (au 1)],[],[],0,[]⟩⟩]
def Tryz.zyW:List (List (SB×Bool)×Nat):= [
 ([], 0)]
theorem Tryz.zBy:(eU prog (bG zp5) (fB zmf) (eY zmg) 100000 (.code (bf prog [0,0,1,1,0,0,1,0,0,1,0,1,1,1,1,39]) [0,0,1,1,0,0,1,0,0,1,0,1,1,1,1,39] 103 (bR 103 JU zt0) (bn 0 ztZ) (fJ zyX 0))).ways zBz=some zyW:=by kernel_rfl
theorem Tryz.zEH:(bJ ztZ&&bI zp5&&fK zmf&&fM zmg&&fV JU&&gK zyX&&fI 103 JU&&Nat.ble 103 bS&&gJ zt0)=true:=by kernel_rfl
def Tryz.ztD:List aK:= []
def Tryz.zys:List Sh:= [uS 9]
def Tryz.J4:List (Nat×AV):= [(0,iL [(au 1,1)]),(1,sl1 []),(7,.int .i64 (au 1))]
def Tryz.zpB:List cB:= [xZ]
def Tryz.zpC:List dU:= []
def Tryz.zyt:Option AV:=none
def Tryz.zEv:List (SB×Bool):= [(.cmp .lss (au 1) (au 0),true),(.cmp .lss (.var 9) (.lit 0),false),(.cmp .geq (.var 9) (.lit 32768),false)]
def Tryz.Vt:List gu:= [
 ⟨.normal,[0,1,7],none,⟨.aH [.sx 0 ((au 0)) 1 [((au 1),1)],.sx 1 ((au 0)) 3 [],.int .i64 (.bin .add .i64 (au 1) (.lit 1))],[],[],0,[]⟩⟩]
def Tryz.Vs:List (List (SB×Bool)×Nat):= [
 ([], 0)]
theorem Tryz.zEu:(eU prog (bG ztD) (fB zpB) (eY zpC) 100000 (.code (bf prog [0,0,1,0,1,1,1,1,39]) [0,0,1,0,1,1,1,1,39] 103 (bR 103 J4 zyt) (bn 0 zys) (fJ Vt 0))).ways zEv=some Vs:=by kernel_rfl
theorem Tryz.zF7:(bJ zys&&bI ztD&&fK zpB&&fM zpC&&fV J4&&gK Vt&&fI 103 J4&&Nat.ble 103 bS&&gJ zyt)=true:=by kernel_rfl
def Tryz.zpA:List aK:= []
def Tryz.ztB:List Sh:= []
def Tryz.JS:List (Nat×AV):= [(0,iL []),(1,sl1 []),(7,.int .i64 (au 1))]
def Tryz.ZV:List cB:= []
def Tryz.ZW:List dU:= []
def Tryz.ztC:Option AV:=none
def Tryz.zBl:List (SB×Bool):= [(.cmp .lss (au 1) (au 0),false)]
def Tryz.zyr:List gu:= [
 ⟨(.exit 0),[0,1],none,⟨.aH [.sx 0 ((au 0)) 1 [],.sx 1 ((au 0)) 3 []],[],[],0,[]⟩⟩]
def Tryz.zyq:List (List (SB×Bool)×Nat):= [
 ([], 0)]
theorem Tryz.zBk:(eU prog (bG zpA) (fB ZV) (eY ZW) 100000 (.code (bf prog [0,0,1,0,1,1,1,1,39]) [0,0,1,0,1,1,1,1,39] 103 (bR 103 JS ztC) (bn 0 ztB) (fJ zyr 0))).ways zBl=some zyq:=by kernel_rfl
theorem Tryz.zEt:(bJ ztB&&bI zpA&&fK ZV&&fM ZW&&fV JS&&gK zyr&&fI 103 JS&&Nat.ble 103 bS&&gJ ztC)=true:=by kernel_rfl
def Tryz.ZI:List aK:= []
def Tryz.zoT:List Sh:= [uS 9,uS 10,sS 3 4 0]
def Tryz.Jq:List (Nat×AV):= [(0,iL [(au 1,1),(.bin .add .i64 (au 1) (.lit 1),2)]),(1,sl1 [(au 1,3)]),(9,.cst 2 none),(10,.int .i64 (au 1))]
def Tryz.YP:List cB:= []
def Tryz.YQ:List dU:= [kD 6 (.lit 3) (.wrap .u16 (.var 10))]
def Tryz.zoU:Option AV:=none
def Tryz.zxE:List (SB×Bool):= [(.cmp .lss (au 1) (au 0),true),(.cmp .lss (.bin .add .i64 (au 1) (.lit 1)) (au 0),true),(.var 0,true)]
def Tryz.zta:List gu:= [
 ⟨.normal,[0,1,9,10],none,⟨.aH [.sx 0 ((au 0)) 1 [((au 1),1),((.bin .add .i64 (au 1) (.lit 1)),2)],.sx 1 ((au 0)) 3 [((au 1),3)],.opq 6 none,.int .i64 (.bin .add .i64 (au 1) (.lit 1))],[],[],2,[]⟩⟩]
def Tryz.zs9:List (List (SB×Bool)×Nat):= [
 ([], 0)]
theorem Tryz.zxD:(eU prog (bG ZI) (fB YP) (eY YQ) 100000 (.code (bf prog [0,0,1,0,1,1,1,1,1,1,39]) [0,0,1,0,1,1,1,1,1,1,39] 103 (bR 103 Jq zoU) (bn 1 zoT) (fJ zta 0))).ways zxE=some zs9:=by kernel_rfl
theorem Tryz.zAW:(bJ zoT&&bI ZI&&fK YP&&fM YQ&&fV Jq&&gK zta&&fI 103 Jq&&Nat.ble 103 bS&&gJ zoU)=true:=by kernel_rfl
def Tryz.ZJ:List aK:= []
def Tryz.zoV:List Sh:= [uS 9,uS 10,sS 3 4 0]
def Tryz.Jr:List (Nat×AV):= [(0,iL [(au 1,1),(.bin .add .i64 (au 1) (.lit 1),2)]),(1,sl1 [(au 1,3)]),(9,.cst 2 none),(10,.int .i64 (au 1))]
def Tryz.YR:List cB:= []
def Tryz.YS:List dU:= [kD 6 (.lit 1) (.wrap .u16 (.var 10))]
def Tryz.zoW:Option AV:=none
def Tryz.zxG:List (SB×Bool):= [(.cmp .lss (au 1) (au 0),true),(.cmp .lss (.bin .add .i64 (au 1) (.lit 1)) (au 0),true),(.var 0,false)]
def Tryz.ztc:List gu:= [
 ⟨.normal,[0,1,9,10],none,⟨.aH [.sx 0 ((au 0)) 1 [((au 1),1),((.bin .add .i64 (au 1) (.lit 1)),2)],.sx 1 ((au 0)) 3 [((au 1),3)],.opq 6 none,.int .i64 (.bin .add .i64 (au 1) (.lit 1))],[],[],2,[]⟩⟩]
def Tryz.ztb:List (List (SB×Bool)×Nat):= [
 ([], 0)]
theorem Tryz.zxF:(eU prog (bG ZJ) (fB YR) (eY YS) 100000 (.code (bf prog [0,0,1,0,1,1,1,1,1,1,39]) [0,0,1,0,1,1,1,1,1,1,39] 103 (bR 103 Jr zoW) (bn 1 zoV) (fJ ztc 0))).ways zxG=some ztb:=by kernel_rfl
theorem Tryz.zAX:(bJ zoV&&bI ZJ&&fK YR&&fM YS&&fV Jr&&gK ztc&&fI 103 Jr&&Nat.ble 103 bS&&gJ zoW)=true:=by kernel_rfl
def Tryz.ZE:List aK:= []
def Tryz.zoO:List Sh:= [uS 9,sS 3 4 0]
def Tryz.Jo:List (Nat×AV):= [(0,iL [(au 1,1)]),(1,sl1 [(au 1,2)]),(9,.cst 2 none),(10,.int .i64 (au 1))]
def Tryz.YM:List cB:= []
def Tryz.zjp:List dU:= [kD 5 (.lit 2) (.lit 0)]
def Tryz.zoP:Option AV:=none
def Tryz.zxy:List (SB×Bool):= [(.cmp .lss (au 1) (au 0),true),(.cmp .lss (.bin .add .i64 (au 1) (.lit 1)) (au 0),false),(.var 0,true)]
def Tryz.zs4:List gu:= [
 ⟨.normal,[0,1,9,10],none,⟨.aH [.sx 0 ((au 0)) 1 [((au 1),1)],.sx 1 ((au 0)) 3 [((au 1),2)],.opq 5 none,.int .i64 (.bin .add .i64 (au 1) (.lit 1))],[],[],2,[]⟩⟩]
def Tryz.zs3:List (List (SB×Bool)×Nat):= [
 ([], 0)]
theorem Tryz.zxx:(eU prog (bG ZE) (fB YM) (eY zjp) 100000 (.code (bf prog [0,0,1,0,1,1,1,1,1,1,39]) [0,0,1,0,1,1,1,1,1,1,39] 103 (bR 103 Jo zoP) (bn 1 zoO) (fJ zs4 0))).ways zxy=some zs3:=by kernel_rfl
theorem Tryz.zAS:(bJ zoO&&bI ZE&&fK YM&&fM zjp&&fV Jo&&gK zs4&&fI 103 Jo&&Nat.ble 103 bS&&gJ zoP)=true:=by kernel_rfl
def Tryz.ZF:List aK:= []
def Tryz.zoQ:List Sh:= [uS 9,sS 3 4 0]
def Tryz.Jp:List (Nat×AV):= [(0,iL [(au 1,1)]),(1,sl1 [(au 1,2)]),(9,.cst 2 none),(10,.int .i64 (au 1))]
def Tryz.YN:List cB:= []
def Tryz.YO:List dU:= [kD 5 (.lit 0) (.lit 0)]
def Tryz.zoR:Option AV:=none
def Tryz.zxA:List (SB×Bool):= [(.cmp .lss (au 1) (au 0),true),(.cmp .lss (.bin .add .i64 (au 1) (.lit 1)) (au 0),false),(.var 0,false)]
def Tryz.zs6:List gu:= [
 ⟨.normal,[0,1,9,10],none,⟨.aH [.sx 0 ((au 0)) 1 [((au 1),1)],.sx 1 ((au 0)) 3 [((au 1),2)],.opq 5 none,.int .i64 (.bin .add .i64 (au 1) (.lit 1))],[],[],2,[]⟩⟩]
def Tryz.zs5:List (List (SB×Bool)×Nat):= [
 ([], 0)]
theorem Tryz.zxz:(eU prog (bG ZF) (fB YN) (eY YO) 100000 (.code (bf prog [0,0,1,0,1,1,1,1,1,1,39]) [0,0,1,0,1,1,1,1,1,1,39] 103 (bR 103 Jp zoR) (bn 1 zoQ) (fJ zs6 0))).ways zxA=some zs5:=by kernel_rfl
theorem Tryz.zAT:(bJ zoQ&&bI ZF&&fK YN&&fM YO&&fV Jp&&gK zs6&&fI 103 Jp&&Nat.ble 103 bS&&gJ zoR)=true:=by kernel_rfl
def Tryz.zoS:List aK:= []
def Tryz.zs7:List Sh:= []
def Tryz.JB:List (Nat×AV):= [(0,iL []),(1,sl1 []),(9,.cst 2 none),(10,.int .i64 (au 1))]
def Tryz.ZG:List cB:= []
def Tryz.ZH:List dU:= []
def Tryz.zs8:Option AV:=none
def Tryz.zAV:List (SB×Bool):= [(.cmp .lss (au 1) (au 0),false)]
def Tryz.zxC:List gu:= [
 ⟨(.exit 4),[9],none,⟨.aH [.cst 2 none],[],[],0,[]⟩⟩]
def Tryz.zxB:List (List (SB×Bool)×Nat):= [
 ([], 0)]
theorem Tryz.zAU:(eU prog (bG zoS) (fB ZG) (eY ZH) 100000 (.code (bf prog [0,0,1,0,1,1,1,1,1,1,39]) [0,0,1,0,1,1,1,1,1,1,39] 103 (bR 103 JB zs8) (bn 0 zs7) (fJ zxC 0))).ways zAV=some zxB:=by kernel_rfl
theorem Tryz.zDV:(bJ zs7&&bI zoS&&fK ZG&&fM ZH&&fV JB&&gK zxC&&fI 103 JB&&Nat.ble 103 bS&&gJ zs8)=true:=by kernel_rfl
def Tryz.zoo:List aK:= [Io]
def Tryz.zsL:List Sh:= []
def Tryz.zop:List AV:= [iL [],sl1 []]
def Tryz.zll:List cB:= [Ag,zY]
def Tryz.zlm:List dU:= []
def Tryz.zAr:List (SB×Bool):= [(.cmp .neq (.var 7) (.lit 0),false)]
def Tryz.zw2:List Leaf:= [
 ⟨.aH [.opq 1 none,.int .i64 (.lit 0)],[],[],2,[]⟩]
def Tryz.zw1:List (List (SB×Bool)×Nat):= [
 ([], 0)]
theorem Tryz.zAq:(eU prog (bG zoo) (fB zll) (eY zlm) 100000 (.call 39 zop (bn 0 zsL) (cK zw2 0))).ways zAr=some zw1:=by kernel_rfl
theorem Tryz.zDE:(bJ zsL&&bI zoo&&fK zll&&fM zlm&&AV.bQ zop&&dx zw2)=true:=by kernel_rfl
def Tryz.zln:List aK:= [Io]
def Tryz.zoq:List Sh:= []
def Tryz.zlo:List AV:= [iL [],sl1 []]
def Tryz.zw4:List (SB×Bool):= [(.cmp .neq (.var 7) (.lit 0),true)]
def Tryz.zsM:List Leaf:= [
 ⟨.aH [.bZ,.int .i64 (.var 7)],[],[],0,[]⟩]
def Tryz.zAs:List (List (SB×Bool)×Nat):= [
 ([], 0)]
theorem Tryz.zw3:(ev prog (bG zln) 100000 (.call 39 zlo (bn 0 zoq) (cK zsM 0))).ways zw4=some zAs:=by kernel_rfl
theorem Tryz.zAt:(bJ zoq&&bI zln&&AV.bQ zlo&&dx zsM)=true:=by kernel_rfl
open Go.RowKit Go.Maps Go.Sort
def Tryz.bg (ids:List Int):List Value:=ids.map fun x=> .int .i64 x
theorem Tryz.zR {w:World} {I o:Nat} {ids:List Int} (h:w.rangeAt I o (bg ids)) (k:Nat) (hk:k<ids.length):w.rangeAt I (o+1*k) [.int .i64 ids[k]]:=fun j v hv=>by
 match j,hv with
 | 0,hv=>
  cases hv;have:=h k (.int .i64 ids[k]) (by simp [bg,hk]);rw [show o+1*k+0=o+k by omega];exact this
 | j+1,hv=>cases hv
theorem Tryz.Jb {w:World} {I o:Nat} {ids:List Int} (h:w.rangeAt I o (bg ids)) {k:Nat} (hk:k<ids.length):I<w.heap.size:=yan w _ (zR h k hk 0 _ rfl)
def Tryz.aG (t:TypeId) (sz:Nat) (w:World) (b2:Nat) (v:Value) (n:Nat) (cs:List Value):Prop:=w.ownsRow b2 t sz v n cs
theorem Tryz.aG.kept {t:TypeId} {sz n:Nat} {w w':World} {b2:Nat} {v:Value} {cs:List Value} (h:aG t sz w b2 v n cs) (hb: ∀b,v.ownBlock=some b→w'.heap[b]? =w.heap[b]?):aG t sz w' b2 v n cs:=by
 obtain ⟨h1,h2⟩:=h;refine ⟨h1,?_⟩;rcases h2 with h2|⟨G,cap,cur,e,h3,h4,h5⟩
 ·exact .inl h2
 ·exact .inr ⟨G,cap,cur,e,h3,by rw [hb G (by rw [e];rfl)];exact h4,h5⟩
theorem Tryz.aG.lt {t:TypeId} {sz n:Nat} {w:World} {b2:Nat} {v:Value} {cs:List Value} (h:aG t sz w b2 v n cs): ∀b,v.ownBlock=some b→b2≤b∧b<w.heap.size:=fun b hb=>by
 obtain ⟨h1,h2⟩:=h;rcases h2 with ⟨rfl,_⟩|⟨G,cap,cur,rfl,h3,h4,h5⟩
 ·cases hb
 ·cases hb;exact ⟨h3,(yar.1 h4).1⟩
theorem Tryz.aG.one {t:TypeId} {sz n:Nat} {w:World} {b2:Nat} {v:Value} {cs:List Value} (h:aG t sz w b2 v n cs):v.oneCell'=true:=by
 obtain ⟨h1,h2⟩:=h;rcases h2 with ⟨rfl,h2⟩|⟨G,cap,cur,rfl,_⟩<;>rfl
theorem Tryz.aG.mono {t:TypeId} {sz n:Nat} {w:World} {b1 b2:Nat} {v:Value} {cs:List Value} (h:aG t sz w b2 v n cs) (hb:b1≤b2):aG t sz w b1 v n cs:=by
 obtain ⟨h1,h2⟩:=h;refine ⟨h1,?_⟩;rcases h2 with h2|⟨G,cap,cur,e,h3,h4⟩
 ·exact .inl h2
 ·exact .inr ⟨G,cap,cur,e,yau hb h3,h4⟩
theorem Tryz.aG.nil (t:TypeId) (sz:Nat) (w:World) (b2:Nat):aG t sz w b2 (.slice none 0 0) 0 []:=⟨by simp,.inl ⟨rfl,rfl⟩⟩
theorem Tryz.aG.row {t:TypeId} {sz n:Nat} {w:World} {b2:Nat} {v:Value} {cs:List Value} (h:aG t sz w b2 v n cs): ∃sa c,v= .slice sa n c∧(cs= []∨ ∃G,sa=some ⟨G,0,none⟩∧v.ownBlock=some G∧w.rangeAt G 0 cs):=by
 obtain ⟨h1,h2⟩:=h;rcases h2 with ⟨rfl,h2⟩|⟨G,cap,cur,rfl,h3,h4,h5,h6,h7,h8⟩
 ·refine ⟨none,0,by rw [h2],.inl ?_⟩;rw [h2,Nat.zero_mul] at h1;exact yb0.1 h1
 ·refine ⟨_,cap,rfl,.inr ⟨G,rfl,rfl,fun i y hy=> ?_⟩⟩;have hlt:i<cs.length:=(yay.1 hy).1;rw [←h8] at hy;rw [yby (by omega)] at hy;simp only [World.cell?,h4,yaq];simpa using hy
structure Tryz.Pt where
 aR:Int
 a:Int
 ln:Int
 f:Int
 nx:Int
def Tryz.Pt.cells (p:Pt):List Value:= [.int .i64 p.aR,.int .u64 p.a,.int .u32 p.ln,.int .u16 p.f,.int .u16 p.nx]
def Tryz.putAt (ids:List Int) (l:List Sg) (k:Nat):Pt:=
 ⟨ids.getD k 0,(l.getD k ⟨0,0,false⟩).di,(l.getD k ⟨0,0,false⟩).len,(if (l.getD k ⟨0,0,false⟩).wr then 2 else 0)+(if k+1<l.length then 1 else 0),if k+1<l.length then ids.getD (k+1) 0%65536 else 0⟩
def Tryz.iJ (ids:List Int) (l:List Sg) (k:Nat):List Pt:=(List.range k).map (putAt ids l)
def Tryz.r9 (ps:List Pt):List Value:=ps.flatMap Pt.cells
theorem Tryz.zrg (ids:List Int) (l:List Sg) (k:Nat):iJ ids l (k+1)=iJ ids l k++ [putAt ids l k]:=by simp [iJ,ydH]
theorem Tryz.EL (ids:List Int) (l:List Sg) (k:Nat):(iJ ids l k).length=k:=by simp [iJ]
def Tryz.lW (w:World) (b2:Nat) (v:Value) (ps:List Pt):Prop:=aG 104 5 w b2 v ps.length (r9 ps)
def Tryz.Wn (b2:Nat) (v:Value) (ps:List Pt) (F:Nat→Prop) (w:World):Prop:=lW w b2 v ps∧ ∀b,v.ownBlock=some b→F b
def Tryz.rU (sa:Option Addr) (ls:List Sg) (b2 base:Nat) (v:Value) (p1 p2:List Pt):aU where
 fact k q F w:=qV F w sa ls∧(match k with|0=>True|1=>Wn b2 v p1 F w|_=> ∃u,q base=some u∧Wn b2 u p2 F w)
 loc:=fun k q q' F w w' h hq hb hs=>by
  obtain ⟨h0,h⟩:=h;refine ⟨h0.kept hb,?_⟩
  match k,h with
  | 0,_=>trivial
  | 1,⟨h7,h8⟩=>exact ⟨aG.kept h7 fun b e=>hb b (h8 b e),h8⟩
  | k+2,⟨u,h7,h8,h9⟩=>exact ⟨u,hq _ _ h7,aG.kept h8 fun b e=>hb b (h9 b e),h9⟩
def Tryz.uD (n k i e x9 x10:Int) (x:Sg) (iv sv ov:Value):Val:=BH [n,k,i,x.di,x.len,0,0,e,0,x9,x10] [x.wr] [iv,sv,ov]
structure Tryz.SpD (ρ:Val) (n k i e x9 x10:Int) (x:Sg) (iv sv ov:Value):Prop where
 d0:(au 0).den ρ=n
 d1:(au 1).den ρ=k
 d2:(au 2).den ρ=i
 d3:(af 3).den ρ=x.di
 d4:(bM 4).den ρ=x.len
 i7:ρ.i 7=e
 i9:ρ.i 9=x9
 i10:ρ.i 10=x10
 b0:ρ.b 0=x.wr
 v0:ρ.v 0=iv
 v1:ρ.v 1=sv
 v2:ρ.v 2=ov
theorem Tryz.uZ {n k i e x9 x10:Int} {x:Sg} {iv sv ov:Value} (hn:0≤n∧n<64000) (hk:0≤k∧k<64000) (hi:0≤i∧i<64000) (hx:x.ok):SpD (uD n k i e x9 x10 x iv sv ov) n k i e x9 x10 x iv sv ov:=
 ⟨mh hn.1 (by show n<_;omega),mh hk.1 (by show k<_;omega),mh hi.1 (by show i<_;omega),iI hx.1 hx.2.1,pF hx.2.2.1 hx.2.2.2,rfl,rfl,rfl,rfl,rfl,rfl,rfl⟩
theorem Tryz.Aw:(⟨0,1,false⟩:Sg).ok:=⟨by decide,by decide,by decide,by decide⟩
theorem Tryz.Jc {ρ:Val} {j:J} {ia:Option Addr} {n c:Nat} (hv:ρ.v 0= .slice ia n c) (hd:(au 0).den ρ=n):Dw.R ρ j (iL []) (.slice ia n c):=⟨hv.symm,ia,n,c,rfl,hd.symm,trivial⟩
set_option maxRecDepth 10000 in
theorem Tryz.zBC {ρ:Val} {w0:World} {K:Nat→Prop} {g:aU} {ia sa:Option Addr} {ids:List Int} {c cs k:Nat} (hn:ids.length≤60000) (hnd:ids.Nodup) (hk:k<ids.length) (hK: ∀b,¬K b) (hr: ∃I o,ia=some ⟨I,o,none⟩∧w0.rangeAt I o (bg ids))
  (hv0:ρ.v 0= .slice ia ids.length c) (hv1:ρ.v 1= .slice sa ids.length cs) (d0:(au 0).den ρ=ids.length) (d1:(au 1).den ρ=k):
  CV prog ρ w0 K g xZ:=by
 refine Yx rfl (fun d hd=>by unfold xZ at hd;simp at hd;rw [hd];rfl) fun cc hc j a w F hsz hdf hsl _ hf hs0 hold=> ?_;have hsl0:=(hsl (0,iL [(au 1,1)]) (by simp [xZ])).2;have hsl1:=(hsl (1,sl1 []) (by simp [xZ])).2;have g0:=ku rfl hsl0;have g1:=ku rfl hsl1;have g7:=ku rfl (hsl (7,.int .i64 (au 1)) (by simp [xZ])).2;have g8:=ku rfl (hsl (8,.int .i64 (.lit 0)) (by simp [xZ])).2;simp only [AV.val,iL,sl1,hv0,hv1,d1,zag] at g0 g1 g7 g8;have hcc:cc=bf prog [0,0,1,1,0,0,1,0,0,1,0,1,1,1,1,39]:=by
  have:=FL (P:=prog) (p:= [0,1,1,0,0,1,0,0,1,0,1,1,1,1,39]) (by kernel_rfl);have hc:bf prog [0,1,1,0,0,1,0,0,1,0,1,1,1,1,39]= .loop cc:=hc;rw [hc] at this;injection this
 subst hcc;have hsz:a.tmps.size=103:=hsz;refine xQ (fun (i:Nat) a' w'=>i≤k∧a'.tmps.size=103∧a'.defers= []∧a'.tmps.getD 0 undef= .slice ia ids.length c∧a'.tmps.getD 1 undef= .slice sa ids.length cs∧a'.tmps.getD 7 undef= .int .i64 k∧a'.tmps.getD 8 undef= .int .i64 i∧Below w.heap.size w w')
  (fun i=>k-i) (fun i a1 w1 hI=> ?_) 0 a w ⟨yax _,hsz,hdf,g0,g1,g7,by rw [g8];rfl,yag _ _⟩
 obtain ⟨hik,q0,qd,qi,qs,q7,q8,hb⟩:=hI;by_cases hlt:i<k
 ·obtain ⟨I,o,rfl,hr⟩:=hr;have yS:=Jb hr hk;have hr1:=gL hr ((hb.block I (by omega)).trans (hold I yS (hK I)));have xh:=zR hr1 k hk;have Ii:=zR hr1 i (by omega);have hne:ids[i]≠ids[k]:=ybK.1 hnd i k (by omega) hk hlt;have D:=uZ (n:=ids.length) (k:=k) (i:=i) (e:=0) (x9:=ids[k]) (x10:=ids[i]) (x:=⟨0,1,false⟩) (iv:= .slice (some ⟨I,o,none⟩) ids.length c) (sv:= .slice sa ids.length cs) (ov:=undef) (by omega) (by omega) (by omega) Aw;generalize uD ids.length k i 0 ids[k] ids[i] ⟨0,1,false⟩ (.slice (some ⟨I,o,none⟩) ids.length c) (.slice sa ids.length cs) undef=ρ' at D;have hj1:aJ [(I,o+1*k),(I,o+1*i)] 1=some ⟨I,o+1*k,0,none⟩:=rfl;have hj2:aJ [(I,o+1*k),(I,o+1*i)] 2=some ⟨I,o+1*i,0,none⟩:=rfl;refine ya3 (iM (ρ:=ρ') (K:=fun _=>False) (g:=aU.none) (bl:= [(I,o+1*k),(I,o+1*i)]) mixed zBA zEI (fun b h=>h.elim)
   ⟨jQ xh (by simp) (ai (aA D.i9) RL.nil) (fun h=>h),jQ Ii (by simp) (ai (aA D.i10) RL.nil) (fun h=>h),trivial⟩
   ⟨fun h=>(by cases h),fun h=>(by cases h),trivial⟩ eH trivial trivial trivial q0 qd ?_
   (aZ.2 ⟨by rw [gT,D.d0,D.d1];simp only [yap];omega,aZ.2 ⟨by rw [gT,D.d0,D.d2];simp only [yap];omega,aZ.2 ⟨by rw [gT,D.d1,D.d2];simp only [yap];omega,aZ.2 ⟨by rw [qK,dW,dW,D.i9,D.i10];simpa using hne,aT.2 trivial⟩⟩⟩⟩)) fun ex a2 w2 hh=> ?_
  ·intro t ht;simp only [JV,yac,yae,yav] at ht;rcases ht with rfl|rfl|rfl|rfl
   ·rw [qi];exact ⟨D.v0.symm,_,_,_,rfl,D.d0.symm,⟨I,o,_,k,rfl,hj1,rfl,D.d1,hk,rfl⟩,⟨I,o,_,i,rfl,hj2,rfl,D.d2,by omega,rfl⟩,trivial⟩
   ·rw [qs];exact ⟨D.v1.symm,_,_,_,rfl,D.d0.symm,trivial⟩
   ·rw [q7];exact aA D.d1
   ·rw [q8];exact aA D.d2
  ·obtain ⟨q,hq,hto,lf,hlf,rfl,hsz2,j2,iD,he⟩:=hh;have hb3:=fG he (fun _ h=>h);have hwi:=Cw i (by omega);unfold zyY at hq;simp only [yac,yae,yav] at hq;subst hq;cases hlf;have hs2:=iH he.ret;simp only [AV.aP,AV.val,D.d0,D.d1,D.d2,D.v0,D.v1,den_add,zag,hwi,yaK,ya0,yaR,yaU] at hs2;obtain ⟨p0,rR,p7,p8⟩:=hs2;exact ⟨i+1,by omega,by omega,hsz2,iD,p0,rR,p7,p8,hb.trans (hb3.mono hb.size)⟩
 ·have hkk:i=k:=by omega
  subst hkk;have D:=uZ (n:=ids.length) (k:=i) (i:=i) (e:=0) (x9:=0) (x10:=0) (x:=⟨0,1,false⟩) (iv:= .slice ia ids.length c) (sv:= .slice sa ids.length cs) (ov:=undef) (by omega) (by omega) (by omega) Aw;generalize uD ids.length i i 0 0 0 ⟨0,1,false⟩ (.slice ia ids.length c) (.slice sa ids.length cs) undef=ρ' at D;refine ya3 (iM (ρ:=ρ') (K:=fun _=>False) (g:=aU.none) (bl:= []) mixed zBy zEH (fun b h=>h.elim) trivial trivial eH trivial trivial trivial q0 qd ?_ (aZ.2 ⟨by rw [gT,D.d1,D.d2];simp,aT.2 trivial⟩)) fun ex a2 w2 hh=> ?_
  ·intro t ht;simp only [JU,yac,yae,yav] at ht;rcases ht with rfl|rfl|rfl|rfl
   ·rw [qi];exact Jc D.v0 D.d0
   ·rw [qs];exact ⟨D.v1.symm,_,_,_,rfl,D.d0.symm,trivial⟩
   ·rw [q7];exact aA D.d1
   ·rw [q8];exact aA D.d2
  ·obtain ⟨q,hq,hto,lf,hlf,rfl,hsz2,j2,iD,he⟩:=hh;have hb3:=fG he (fun _ h=>h);unfold zyW at hq;simp only [yac,yae,yav] at hq;subst hq;cases hlf;have hs2:=iH he.ret;simp only [AV.aP,AV.val,D.d1,D.v0,D.v1,yaK,ya0,yaR,yaU] at hs2;obtain ⟨p0,rR,p7⟩:=hs2;refine ⟨_,by unfold xZ;rw [EM,yak (show SB.den ρ (.lit true)=true from rfl)],rfl,hsz2,iD,(fun t ht=>by cases ht),fun s hs=> ?_,hb.trans (hb3.mono hb.size)⟩;simp only [yac,yae,yav] at hs;rcases hs with rfl|rfl|rfl
   ·rw [p0,←g0];exact hsl0
   ·rw [rR,←g1];exact hsl1
   ·rw [p7];exact aA d1
set_option maxRecDepth 10000 in
theorem Tryz.zEw {ρ:Val} {w0:World} {K:Nat→Prop} {g:aU} {ia sa:Option Addr} {ids:List Int} {c cs:Nat} (hn:ids.length≤60000) (hnd:ids.Nodup) (hK: ∀b,¬K b) (hr:ids= []∨ ∃I o,ia=some ⟨I,o,none⟩∧w0.rangeAt I o (bg ids)) (hin: ∀x∈ids,0≤x∧x<32768)
  (hv0:ρ.v 0= .slice ia ids.length c) (hv1:ρ.v 1= .slice sa ids.length cs) (d0:(au 0).den ρ=ids.length):
  CV prog ρ w0 K g Ag:=by
 refine Yx rfl (fun d hd=>by unfold Ag at hd;simp at hd;rw [hd];rfl) fun cc hc j a w F hsz hdf hsl _ hf hs0 hold=> ?_;have hsl0:=(hsl (0,iL []) (by simp [Ag])).2;have hsl1:=(hsl (1,sl1 []) (by simp [Ag])).2;have g0:=ku rfl hsl0;have g1:=ku rfl hsl1;have g7:=ku rfl (hsl (7,.int .i64 (.lit 0)) (by simp [Ag])).2;simp only [AV.val,iL,sl1,hv0,hv1,zag] at g0 g1 g7;have hcc:cc=bf prog [0,0,1,0,1,1,1,1,39]:=by
  have:=FL (P:=prog) (p:= [0,1,0,1,1,1,1,39]) (by kernel_rfl);have hc:bf prog [0,1,0,1,1,1,1,39]= .loop cc:=hc;rw [hc] at this;injection this
 subst hcc;have hsz:a.tmps.size=103:=hsz;refine xQ (fun (k:Nat) a' w'=>k≤ids.length∧a'.tmps.size=103∧a'.defers= []∧a'.tmps.getD 0 undef= .slice ia ids.length c∧a'.tmps.getD 1 undef= .slice sa ids.length cs∧a'.tmps.getD 7 undef= .int .i64 k∧Below w.heap.size w w')
  (fun k=>ids.length-k) (fun k a1 w1 hI=> ?_) 0 a w ⟨yax _,hsz,hdf,g0,g1,by rw [g7];rfl,yag _ _⟩
 obtain ⟨hkl,q0,qd,qi,qs,q7,hb⟩:=hI;by_cases hk:k<ids.length
 ·rcases hr with h0|⟨I,o,rfl,hr⟩
  ·rw [h0] at hk;simp at hk
  have yS:=Jb hr hk;have hr1:=gL hr ((hb.block I (by omega)).trans (hold I yS (hK I)));have xh:=zR hr1 k hk;have h9:=hin ids[k] (yaL hk);have D:=uZ (n:=ids.length) (k:=k) (i:=0) (e:=0) (x9:=ids[k]) (x10:=0) (x:=⟨0,1,false⟩) (iv:= .slice (some ⟨I,o,none⟩) ids.length c) (sv:= .slice sa ids.length cs) (ov:=undef) (by omega) (by omega) (by omega) Aw;generalize uD ids.length k 0 0 ids[k] 0 ⟨0,1,false⟩ (.slice (some ⟨I,o,none⟩) ids.length c) (.slice sa ids.length cs) undef=ρ' at D;have hj1:aJ [(I,o+1*k)] 1=some ⟨I,o+1*k,0,none⟩:=rfl;refine ya3 (iM (ρ:=ρ') (K:=fun _=>False) (g:=aU.none) (bl:= [(I,o+1*k)]) mixed zEu zF7 (fun b h=>h.elim)
   ⟨jQ xh (by simp) (ai (aA D.i9) RL.nil) (fun h=>h),trivial⟩
   ⟨fun h=>(by cases h),trivial⟩ eH trivial ⟨zBC hn hnd hk (fun _ h=>h) ⟨I,o,rfl,hr1⟩ D.v0 D.v1 D.d0 D.d1,trivial⟩ trivial q0 qd ?_
   (aZ.2 ⟨by rw [gT,D.d0,D.d1];simp only [yap];omega,aZ.2 ⟨by rw [gT,dW,zag,D.i9];simp only [yat];omega,aZ.2 ⟨by rw [nL,dW,zag,D.i9];simp only [yat];omega,aT.2 trivial⟩⟩⟩)) fun ex a2 w2 hh=> ?_
  ·intro t ht;simp only [J4,yac,yae,yav] at ht;rcases ht with rfl|rfl|rfl
   ·rw [qi];exact ⟨D.v0.symm,_,_,_,rfl,D.d0.symm,⟨I,o,_,k,rfl,hj1,rfl,D.d1,hk,rfl⟩,trivial⟩
   ·rw [qs];exact ⟨D.v1.symm,_,_,_,rfl,D.d0.symm,trivial⟩
   ·rw [q7];exact aA D.d1
  ·obtain ⟨q,hq,hto,lf,hlf,rfl,hsz2,j2,iD,he⟩:=hh;have hb3:=fG he (fun _ h=>h);have hwk:=Cw k (by omega);unfold Vs at hq;simp only [yac,yae,yav] at hq;subst hq;cases hlf;have hs2:=iH he.ret;simp only [AV.aP,AV.val,D.d0,D.d1,D.v0,D.v1,den_add,zag,hwk,yaK,ya0,yaR,yaU] at hs2;obtain ⟨p0,rR,p7⟩:=hs2;exact ⟨k+1,by omega,by omega,hsz2,iD,p0,rR,p7,hb.trans (hb3.mono hb.size)⟩
 ·have hkk:k=ids.length:=by omega
  subst hkk;have D:=uZ (n:=ids.length) (k:=ids.length) (i:=0) (e:=0) (x9:=0) (x10:=0) (x:=⟨0,1,false⟩) (iv:= .slice ia ids.length c) (sv:= .slice sa ids.length cs) (ov:=undef) (by omega) (by omega) (by omega) Aw;generalize uD ids.length ids.length 0 0 0 0 ⟨0,1,false⟩ (.slice ia ids.length c) (.slice sa ids.length cs) undef=ρ' at D;refine ya3 (iM (ρ:=ρ') (K:=fun _=>False) (g:=aU.none) (bl:= []) mixed zBk zEt (fun b h=>h.elim) trivial trivial eH trivial trivial trivial q0 qd ?_ (aZ.2 ⟨by rw [gT,D.d0,D.d1];simp,aT.2 trivial⟩)) fun ex a2 w2 hh=> ?_
  ·intro t ht;simp only [JS,yac,yae,yav] at ht;rcases ht with rfl|rfl|rfl
   ·rw [qi];exact Jc D.v0 D.d0
   ·rw [qs];exact ⟨D.v1.symm,_,_,_,rfl,D.d0.symm,trivial⟩
   ·rw [q7];exact aA D.d1
  ·obtain ⟨q,hq,hto,lf,hlf,rfl,hsz2,j2,iD,he⟩:=hh;have hb3:=fG he (fun _ h=>h);unfold zyq at hq;simp only [yac,yae,yav] at hq;subst hq;cases hlf;have hs2:=iH he.ret;simp only [AV.aP,AV.val,D.v0,D.v1,yaK,ya0,yaR,yaU] at hs2;obtain ⟨p0,rR⟩:=hs2;refine ⟨_,by unfold Ag;rw [EM,yak (show SB.den ρ (.lit true)=true from rfl)],rfl,hsz2,iD,(fun t ht=>by cases ht),fun s hs=> ?_,hb.trans (hb3.mono hb.size)⟩;simp only [yac,yae,yav] at hs;rcases hs with rfl|rfl
   ·rw [p0,←g0];exact hsl0
   ·rw [rR,←g1];exact hsl1
theorem Tryz.zEs:(prog.info? 104).map (fun i=>(i.zero.isSome,i.size,i.bytes))=some (true,5,24):=by kernel_rfl
theorem Tryz.zBh:((prog.info? 104).bind (·.zero)).map (·.cells.size)=some 5:=by kernel_rfl
set_option maxRecDepth 10000 in
theorem Tryz.KR {ρ:Val} {w0:World} {K:Nat→Prop} {b2 base:Nat} {v:Value} {p1:List Pt} {p:Pt} {f nx:SE} (hv2:ρ.v 2=v) (h9:ρ.i 9=p.aR) (h3:(af 3).den ρ=p.a) (h4:(bM 4).den ρ=p.ln) (hf:f.den ρ=p.f) (hnx:nx.den ρ=p.nx)
  (hb2:b2≤w0.heap.size) (hK: ∀b,v.ownBlock=some b→K b) (hl:p1.length≤100000):O4 prog ρ w0 K (rU none [] b2 base v p1 (p1++ [p])) (kD base f nx):=by
 intro j w F n us bb o cap vals ty fD hcells hxs hnone hbase hF hsz hfa;have hb:n=base:=hbase (by show (1:Nat)≠0;decide);subst hb;obtain ⟨_,f5,f6⟩:=hfa;have fD:=ku rfl fD;have fD:us=v:=by rw [fD];exact hv2
 subst fD;obtain ⟨x0,_,rfl,e0,hxs⟩:=hxs;obtain ⟨x1,_,rfl,e1,hxs⟩:=hxs;obtain ⟨x2,_,rfl,e2,hxs⟩:=hxs;obtain ⟨x3,_,rfl,e3,hxs⟩:=hxs;obtain ⟨x4,_,rfl,e4,hxs⟩:=hxs;have hxs:_= []:=hxs;subst hxs;have e0:x0= .int .i64 p.aR:=by rw [show x0= .int .i64 (SE.den ρ (.var 9)) from e0,dW,h9]
 have e1:x1= .int .u64 p.a:=by rw [show x1= .int .u64 (SE.den ρ (af 3)) from e1,h3]
 have e2:x2= .int .u32 p.ln:=by rw [show x2= .int .u32 (SE.den ρ (bM 4)) from e2,h4]
 have e3:x3= .int .u16 p.f:=by rw [show x3= .int .u16 (SE.den ρ f) from e3,hf]
 have e4:x4= .int .u16 p.nx:=by rw [show x4= .int .u16 (SE.den ρ nx) from e4,hnx]
 subst e0 e1 e2 e3 e4;have hinfo:=zEs;have Nr:=zBh;cases hi:prog.info? 104 with
 | none=>rw [hi] at hinfo;cases hinfo
 | some i=>
 rw [hi] at hinfo Nr;simp only [yaJ,ybP,ych] at hinfo;obtain ⟨i1,i2,i3⟩:=hinfo;obtain ⟨z,hz⟩:=Option.isSome_iff_exists.1 i1;simp only [ybF,hz,yaJ,ybP] at Nr;obtain ⟨u,w',h1,h2,h3,h4,h5⟩:=ydz (P:=prog) w b2 100 ty 104 i z 5 24 (by kernel_rfl) hi hz i2 i3 Nr (by decide) us p1.length (r9 p1) f5 ⟨bb,o,none⟩ 1 cap p.cells rfl
  (fun q y hy=>by rw [Dw.addr_add];exact hcells q y hy) (fun y hy=>by simp only [Pt.cells,yac,yae,yav] at hy;rcases hy with rfl|rfl|rfl|rfl|rfl<;>rfl) (by unfold maxLen;omega) (by omega) (by omega)
 have hseg:r9 p1++p.cells=r9 (p1++ [p]):=by simp [r9]
 have hown:lW w' b2 u (p1++ [p]):=by
  unfold lW aG;rw [←hseg,yaQ];exact h2
 have hub:=aG.lt hown;have Ig: ∀b,u.ownBlock=some b→us.ownBlock=some b∨w.heap.size≤b:=fun b hb=>by
  rcases h5 with h5|h5
  ·exact .inl (h5▸hb)
  ·rw [hb] at h5;cases h5;exact .inr (yab _)
 have hmv:Dw.Mv (fun b=>us.ownBlock=some b) w w':=⟨h3.os,h3.tape,h3.output,h3.size,fun b hb hn=>h3.block b hb (fun e=>hn e.symm)⟩;refine ⟨u,w',[u],fun b=>F b∨u.ownBlock=some b,h1,rfl,⟨⟨⟨0,0,0,some u⟩,?_,rfl⟩,aG.one hown,fun _ h=>(by cases h)⟩,⟨.inl rfl,u,rW,hown,fun b hb=> .inr hb⟩,?_,hmv.mono fun b hb=>⟨f6 b hb,.inr (hK b hb)⟩⟩
 ·show jq j n _ n=_;unfold jq;rw [yak ⟨yab _,by simp⟩];simp
 ·rintro b (hb|hb)
  ·exact ⟨yad (hF b hb) hmv.size,.inl hb⟩
  ·refine ⟨(hub b hb).2,?_⟩;rcases Ig b hb with h|h
   ·exact .inl (f6 b h)
   ·exact .inr h
set_option maxRecDepth 10000 in
theorem Tryz.zAY {ρ:Val} {w0:World} {K:Nat→Prop} {ia sa:Option Addr} {ids:List Int} {l:List Sg} {c cs:Nat} {v:Value} {p1:List Pt} (hn:l.length≤60000) (hil:ids.length=l.length) (hok: ∀x∈l,x.ok) (hK: ∀b,¬K b)
  (jK:ids= []∨ ∃I o,ia=some ⟨I,o,none⟩∧w0.rangeAt I o (bg ids)) (hrs:l= []∨ ∃R o,sa=some ⟨R,o,none⟩∧w0.rangeAt R o (dX l))
  (hv0:ρ.v 0= .slice ia l.length c) (hv1:ρ.v 1= .slice sa l.length cs) (d0:(au 0).den ρ=l.length):
  CV prog ρ w0 K (rU sa l w0.heap.size 1 v p1 (iJ ids l l.length)) zY:=by
 refine ZQ ?_;intro cc hc j a w F n hsz hdf hsl _ hnone hbase hF hs0 hf hold;have hb:n=1:=hbase (by show (1:Nat)≠0;decide);subst hb;have g0:=ku rfl (hsl (0,iL []) (by simp [zY])).2;have g1:=ku rfl (hsl (1,sl1 []) (by simp [zY])).2;have g9:=ku rfl (hsl (9,.bZ) (by simp [zY])).2;have g10:=ku rfl (hsl (10,.int .i64 (.lit 0)) (by simp [zY])).2;simp only [AV.val,iL,sl1,hv0,hv1,zag] at g0 g1 g9 g10;have hcc:cc=bf prog [0,0,1,0,1,1,1,1,1,1,39]:=by
  have:=FL (P:=prog) (p:= [0,1,0,1,1,1,1,1,1,39]) (by kernel_rfl);have hc:bf prog [0,1,0,1,1,1,1,1,1,39]= .loop cc:=hc;rw [hc] at this;injection this
 subst hcc;have hsz:a.tmps.size=103:=hsz;refine xQ (fun (x:Nat×Value) a' w'=>x.1≤l.length∧a'.tmps.size=103∧a'.defers= []∧a'.tmps.getD 0 undef= .slice ia l.length c∧a'.tmps.getD 1 undef= .slice sa l.length cs∧a'.tmps.getD 9 undef=x.2∧a'.tmps.getD 10 undef= .int .i64 x.1∧Below w.heap.size w w'∧lW w' w.heap.size x.2 (iJ ids l x.1))
  (fun x=>l.length-x.1) (fun x a1 w1 hI=> ?_) (0,.slice none 0 0) a w ⟨yax _,hsz,hdf,g0,g1,g9,by rw [g10];rfl,yag _ _,aG.nil _ _ _ _⟩
 obtain ⟨k,vk⟩:=x;obtain ⟨hkl,q0,qd,qi,qs,q9,tT,hb,hov⟩:=hI;simp only at hkl q9 tT hov;have Bu:=aG.one hov;have rF:=aG.lt hov;have hwk:=Cw k (by omega);by_cases hk:k<l.length
 ·rcases jK with h0|⟨I,o,rfl,jK⟩
  ·rw [h0] at hil;simp at hil;omega
  rcases hrs with h0|⟨R,p,rfl,hrs⟩
  ·rw [h0] at hk;simp at hk
  have yS:=Jb jK (k:=k) (by omega);have hRl:=uz hrs (by intro h0;rw [h0] at hk;simp at hk);have Ub:=gL jK ((hb.block I (by omega)).trans (hold I yS (hK I)));have aa1:=gL hrs ((hb.block R (by omega)).trans (hold R hRl (hK R)));have xh:=zR Ub k (by omega);have hxs:=Fg aa1 k hk;have hxo:=hok l[k] (yaL hk);have A7: ∀b,vk.ownBlock=some b→b<w1.heap.size:=fun b hb'=>(rF b hb').2;have Bq:vk.ownBlock≠some I:=fun e=>by have:=(rF I e).1;omega
  have hnR:vk.ownBlock≠some R:=fun e=>by have:=(rF R e).1;omega
  have fin: ∀ {j2:J} {base:Nat} {p2:Pt} {a2:Act} {w2:World} {ρ':Val},a2.tmps.size=103→a2.defers= []→p2=putAt ids l k→Dw.Mv (fun b=>vk.ownBlock=some b) w1 w2→
    (rU none [] w.heap.size base vk (iJ ids l k) (iJ ids l k++ [p2])).G 2 j2 w2→([0,1,9,10].map fun t=>a2.tmps.getD t undef)= [.slice (some ⟨I,o,none⟩) l.length c,.slice (some ⟨R,p,none⟩) l.length cs,(AV.opq base none).val ρ' (dH j2),.int .i64 (k+1:Nat)]→
    ∃ x':Nat×Value,l.length-x'.1<l.length-k∧x'.1≤l.length∧a2.tmps.size=103∧a2.defers= []∧a2.tmps.getD 0 undef= .slice (some ⟨I,o,none⟩) l.length c∧a2.tmps.getD 1 undef= .slice (some ⟨R,p,none⟩) l.length cs∧a2.tmps.getD 9 undef=x'.2∧a2.tmps.getD 10 undef= .int .i64 x'.1∧Below w.heap.size w w2∧lW w2 w.heap.size x'.2 (iJ ids l x'.1):=by
   intro j2 base p2 a2 w2 ρ' r1 r2 r3 r4 r5 r6;obtain ⟨F2,_,_,u,hu,hou,_⟩:=r5;simp only [yaK,ya0,yaR,yaU] at r6;obtain ⟨t0,t1,t9,t10⟩:=r6;rw [vK hu] at t9;refine ⟨(k+1,u),by simp only;omega,hk,r1,r2,t0,t1,t9,t10,⟨r4.os.trans hb.os,r4.tape.trans hb.tape,r4.output.trans hb.output,yau hb.size r4.size,fun b hb'=>(r4.block b (yad hb' hb.size) fun e=>by have:=(rF b e).1;omega).trans (hb.block b hb')⟩,?_⟩;rw [zrg,←r3];exact hou
  have Hq:(putAt ids l k).aR=ids[k]:=by simp [putAt,yaD,hil,hk]
  have hsx:l.getD k ⟨0,0,false⟩=l[k]:=by simp [yaD,hk]
  have ha0:(putAt ids l k).a=l[k].di:=by simp only [putAt,hsx]
  have hl0:(putAt ids l k).ln=l[k].len:=by simp only [putAt,hsx]
  by_cases hk1:k+1<l.length
  ·have Ii:=zR Ub (k+1) (by omega);have D:=uZ (n:=l.length) (k:=k) (i:=0) (e:=0) (x9:=ids[k]) (x10:=ids[k+1]) (x:=l[k]) (iv:= .slice (some ⟨I,o,none⟩) l.length c) (sv:= .slice (some ⟨R,p,none⟩) l.length cs) (ov:=vk) (by omega) (by omega) (by omega) hxo;generalize uD l.length k 0 0 ids[k] ids[k+1] l[k] (.slice (some ⟨I,o,none⟩) l.length c) (.slice (some ⟨R,p,none⟩) l.length cs) vk=ρ' at D;have dk1:(SE.bin .add .i64 (au 1) (.lit 1)).den ρ'=((k+1:Nat):Int):=by rw [den_add,D.d1,zag,hwk]
   have hj1:aJ [(I,o+1*k),(I,o+1*(k+1)),(R,p+3*k)] 1=some ⟨I,o+1*k,0,none⟩:=rfl;have hj2:aJ [(I,o+1*k),(I,o+1*(k+1)),(R,p+3*k)] 2=some ⟨I,o+1*(k+1),0,none⟩:=rfl;have hj3:aJ [(I,o+1*k),(I,o+1*(k+1)),(R,p+3*k)] 3=some ⟨R,p+3*k,0,none⟩:=rfl;have hG:(rU none [] w.heap.size 6 vk (iJ ids l k) (iJ ids l k++ [putAt ids l k])).G 1 (aJ [(I,o+1*k),(I,o+1*(k+1)),(R,p+3*k)]) w1:=
    ⟨fun b=>vk.ownBlock=some b,fun b hb'=>⟨A7 b hb',fun hm=>by
     have:=Kw hm;simp only [yaK,ya0,yac,yae,yav] at this;rcases this with e|e|e<;>(subst e;contradiction)⟩,.inl rfl,hov,fun b hb'=>hb'⟩
   have hfl: ∀wr:Bool,l[k].wr=wr→(putAt ids l k).f=if wr then 3 else 1:=fun wr hwr=>by
    simp only [putAt,hsx,hwr];rw [yak hk1];cases wr<;>rfl
   have hnx:(SE.wrap .u16 (.var 10)).den ρ'=(putAt ids l k).nx:=by
    show IntKind.wrap .u16 (ρ'.i 10)=_;rw [D.i10,iF];simp only [putAt];rw [yak hk1];simp [yaD,hil,hk1]
   have hsl0:Dw.R ρ' (aJ [(I,o+1*k),(I,o+1*(k+1)),(R,p+3*k)]) (iL [(au 1,1),(.bin .add .i64 (au 1) (.lit 1),2)]) (.slice (some ⟨I,o,none⟩) l.length c):=
    ⟨D.v0.symm,_,_,_,rfl,D.d0.symm,⟨I,o,_,k,rfl,hj1,rfl,D.d1,hk,rfl⟩,⟨I,o,_,k+1,rfl,hj2,rfl,dk1,hk1,rfl⟩,trivial⟩
   have hsl1:Dw.R ρ' (aJ [(I,o+1*k),(I,o+1*(k+1)),(R,p+3*k)]) (sl1 [(au 1,3)]) (.slice (some ⟨R,p,none⟩) l.length cs):=⟨D.v1.symm,_,_,_,rfl,D.d0.symm,⟨R,p,_,k,rfl,hj3,rfl,D.d1,hk,rfl⟩,trivial⟩;cases hwr:l[k].wr
   ·have hf:(SE.lit 1).den ρ'=(putAt ids l k).f:=by rw [zag,hfl false hwr];rfl
    refine ya3 (iM (ρ:=ρ') (K:=fun b=>vk.ownBlock=some b) (g:=rU none [] w.heap.size 6 vk (iJ ids l k) (iJ ids l k++ [putAt ids l k])) (bl:= [(I,o+1*k),(I,o+1*(k+1)),(R,p+3*k)]) mixed zxF zAX A7
     ⟨jQ xh (by simp) (ai (aA D.i9) RL.nil) Bq,jQ Ii (by simp) (ai (aA D.i10) RL.nil) Bq,jQ hxs (by unfold Sg.cells;simp) (ai (aA D.d3) (ai (aA D.d4) (ai (fA D.b0) RL.nil))) hnR,trivial⟩
     ⟨fun h=>(by cases h),fun h=>(by cases h),fun h=>(by cases h),trivial⟩ hG trivial trivial ⟨KR D.v2 (D.i9.trans Hq.symm) (D.d3.trans ha0.symm) (D.d4.trans hl0.symm) hf hnx hb.size (fun _ h=>h) (by rw [EL];omega),trivial⟩ q0 qd ?_
     (aZ.2 ⟨by rw [gT,D.d0,D.d1];simp only [yap];omega,aZ.2 ⟨by rw [gT,D.d0,dk1];simp only [yap,yat];omega,aZ.2 ⟨by rw [dJ,D.b0];exact hwr,aT.2 trivial⟩⟩⟩)) fun ex a2 w2 hh=> ?_
    ·intro t ht;simp only [Jr,yac,yae,yav] at ht;rcases ht with rfl|rfl|rfl|rfl
     ·rw [qi];exact hsl0
     ·rw [qs];exact hsl1
     ·rw [q9];exact iB D.v2 Bu
     ·rw [tT];exact aA D.d1
    ·obtain ⟨q,hq,hto,lf,hlf,rfl,hsz2,j2,iD,he⟩:=hh;unfold ztb at hq;simp only [yac,yae,yav] at hq;subst hq;cases hlf;have hs2:=iH he.ret;refine fin (base:=6) (ρ':=ρ') hsz2 iD rfl he.mv he.fO ?_;rw [hs2];simp only [AV.aP,D.v0,D.v1,dk1,AV.val]
   ·have hf:(SE.lit 3).den ρ'=(putAt ids l k).f:=by rw [zag,hfl true hwr];rfl
    refine ya3 (iM (ρ:=ρ') (K:=fun b=>vk.ownBlock=some b) (g:=rU none [] w.heap.size 6 vk (iJ ids l k) (iJ ids l k++ [putAt ids l k])) (bl:= [(I,o+1*k),(I,o+1*(k+1)),(R,p+3*k)]) mixed zxD zAW A7
     ⟨jQ xh (by simp) (ai (aA D.i9) RL.nil) Bq,jQ Ii (by simp) (ai (aA D.i10) RL.nil) Bq,jQ hxs (by unfold Sg.cells;simp) (ai (aA D.d3) (ai (aA D.d4) (ai (fA D.b0) RL.nil))) hnR,trivial⟩
     ⟨fun h=>(by cases h),fun h=>(by cases h),fun h=>(by cases h),trivial⟩ hG trivial trivial ⟨KR D.v2 (D.i9.trans Hq.symm) (D.d3.trans ha0.symm) (D.d4.trans hl0.symm) hf hnx hb.size (fun _ h=>h) (by rw [EL];omega),trivial⟩ q0 qd ?_
     (aZ.2 ⟨by rw [gT,D.d0,D.d1];simp only [yap];omega,aZ.2 ⟨by rw [gT,D.d0,dk1];simp only [yap,yat];omega,aZ.2 ⟨by rw [dJ,D.b0];exact hwr,aT.2 trivial⟩⟩⟩)) fun ex a2 w2 hh=> ?_
    ·intro t ht;simp only [Jq,yac,yae,yav] at ht;rcases ht with rfl|rfl|rfl|rfl
     ·rw [qi];exact hsl0
     ·rw [qs];exact hsl1
     ·rw [q9];exact iB D.v2 Bu
     ·rw [tT];exact aA D.d1
    ·obtain ⟨q,hq,hto,lf,hlf,rfl,hsz2,j2,iD,he⟩:=hh;unfold zs9 at hq;simp only [yac,yae,yav] at hq;subst hq;cases hlf;have hs2:=iH he.ret;refine fin (base:=6) (ρ':=ρ') hsz2 iD rfl he.mv he.fO ?_;rw [hs2];simp only [AV.aP,D.v0,D.v1,dk1,AV.val]
  ·have D:=uZ (n:=l.length) (k:=k) (i:=0) (e:=0) (x9:=ids[k]) (x10:=0) (x:=l[k]) (iv:= .slice (some ⟨I,o,none⟩) l.length c) (sv:= .slice (some ⟨R,p,none⟩) l.length cs) (ov:=vk) (by omega) (by omega) (by omega) hxo;generalize uD l.length k 0 0 ids[k] 0 l[k] (.slice (some ⟨I,o,none⟩) l.length c) (.slice (some ⟨R,p,none⟩) l.length cs) vk=ρ' at D;have dk1:(SE.bin .add .i64 (au 1) (.lit 1)).den ρ'=((k+1:Nat):Int):=by rw [den_add,D.d1,zag,hwk]
   have hj1:aJ [(I,o+1*k),(R,p+3*k)] 1=some ⟨I,o+1*k,0,none⟩:=rfl;have hj3:aJ [(I,o+1*k),(R,p+3*k)] 2=some ⟨R,p+3*k,0,none⟩:=rfl;have hG:(rU none [] w.heap.size 5 vk (iJ ids l k) (iJ ids l k++ [putAt ids l k])).G 1 (aJ [(I,o+1*k),(R,p+3*k)]) w1:=
    ⟨fun b=>vk.ownBlock=some b,fun b hb'=>⟨A7 b hb',fun hm=>by
     have:=Kw hm;simp only [yaK,ya0,yac,yae,yav] at this;rcases this with e|e<;>(subst e;contradiction)⟩,.inl rfl,hov,fun b hb'=>hb'⟩
   have hfl: ∀wr:Bool,l[k].wr=wr→(putAt ids l k).f=if wr then 2 else 0:=fun wr hwr=>by
    simp only [putAt,hsx,hwr];rw [yai hk1];cases wr<;>rfl
   have hnx:(SE.lit 0).den ρ'=(putAt ids l k).nx:=by
    simp only [putAt];rw [yai hk1];rfl
   have hsl0:Dw.R ρ' (aJ [(I,o+1*k),(R,p+3*k)]) (iL [(au 1,1)]) (.slice (some ⟨I,o,none⟩) l.length c):=
    ⟨D.v0.symm,_,_,_,rfl,D.d0.symm,⟨I,o,_,k,rfl,hj1,rfl,D.d1,hk,rfl⟩,trivial⟩
   have hsl1:Dw.R ρ' (aJ [(I,o+1*k),(R,p+3*k)]) (sl1 [(au 1,2)]) (.slice (some ⟨R,p,none⟩) l.length cs):=⟨D.v1.symm,_,_,_,rfl,D.d0.symm,⟨R,p,_,k,rfl,hj3,rfl,D.d1,hk,rfl⟩,trivial⟩;cases hwr:l[k].wr
   ·have hf:(SE.lit 0).den ρ'=(putAt ids l k).f:=by rw [zag,hfl false hwr];rfl
    refine ya3 (iM (ρ:=ρ') (K:=fun b=>vk.ownBlock=some b) (g:=rU none [] w.heap.size 5 vk (iJ ids l k) (iJ ids l k++ [putAt ids l k])) (bl:= [(I,o+1*k),(R,p+3*k)]) mixed zxz zAT A7
     ⟨jQ xh (by simp) (ai (aA D.i9) RL.nil) Bq,jQ hxs (by unfold Sg.cells;simp) (ai (aA D.d3) (ai (aA D.d4) (ai (fA D.b0) RL.nil))) hnR,trivial⟩
     ⟨fun h=>(by cases h),fun h=>(by cases h),trivial⟩ hG trivial trivial ⟨KR D.v2 (D.i9.trans Hq.symm) (D.d3.trans ha0.symm) (D.d4.trans hl0.symm) hf hnx hb.size (fun _ h=>h) (by rw [EL];omega),trivial⟩ q0 qd ?_
     (aZ.2 ⟨by rw [gT,D.d0,D.d1];simp only [yap];omega,aZ.2 ⟨by rw [gT,D.d0,dk1];simp only [yap,yat];omega,aZ.2 ⟨by rw [dJ,D.b0];exact hwr,aT.2 trivial⟩⟩⟩)) fun ex a2 w2 hh=> ?_
    ·intro t ht;simp only [Jp,yac,yae,yav] at ht;rcases ht with rfl|rfl|rfl|rfl
     ·rw [qi];exact hsl0
     ·rw [qs];exact hsl1
     ·rw [q9];exact iB D.v2 Bu
     ·rw [tT];exact aA D.d1
    ·obtain ⟨q,hq,hto,lf,hlf,rfl,hsz2,j2,iD,he⟩:=hh;unfold zs5 at hq;simp only [yac,yae,yav] at hq;subst hq;cases hlf;have hs2:=iH he.ret;refine fin (base:=5) (ρ':=ρ') hsz2 iD rfl he.mv he.fO ?_;rw [hs2];simp only [AV.aP,D.v0,D.v1,dk1,AV.val]
   ·have hf:(SE.lit 2).den ρ'=(putAt ids l k).f:=by rw [zag,hfl true hwr];rfl
    refine ya3 (iM (ρ:=ρ') (K:=fun b=>vk.ownBlock=some b) (g:=rU none [] w.heap.size 5 vk (iJ ids l k) (iJ ids l k++ [putAt ids l k])) (bl:= [(I,o+1*k),(R,p+3*k)]) mixed zxx zAS A7
     ⟨jQ xh (by simp) (ai (aA D.i9) RL.nil) Bq,jQ hxs (by unfold Sg.cells;simp) (ai (aA D.d3) (ai (aA D.d4) (ai (fA D.b0) RL.nil))) hnR,trivial⟩
     ⟨fun h=>(by cases h),fun h=>(by cases h),trivial⟩ hG trivial trivial ⟨KR D.v2 (D.i9.trans Hq.symm) (D.d3.trans ha0.symm) (D.d4.trans hl0.symm) hf hnx hb.size (fun _ h=>h) (by rw [EL];omega),trivial⟩ q0 qd ?_
     (aZ.2 ⟨by rw [gT,D.d0,D.d1];simp only [yap];omega,aZ.2 ⟨by rw [gT,D.d0,dk1];simp only [yap,yat];omega,aZ.2 ⟨by rw [dJ,D.b0];exact hwr,aT.2 trivial⟩⟩⟩)) fun ex a2 w2 hh=> ?_
    ·intro t ht;simp only [Jo,yac,yae,yav] at ht;rcases ht with rfl|rfl|rfl|rfl
     ·rw [qi];exact hsl0
     ·rw [qs];exact hsl1
     ·rw [q9];exact iB D.v2 Bu
     ·rw [tT];exact aA D.d1
    ·obtain ⟨q,hq,hto,lf,hlf,rfl,hsz2,j2,iD,he⟩:=hh;unfold zs3 at hq;simp only [yac,yae,yav] at hq;subst hq;cases hlf;have hs2:=iH he.ret;refine fin (base:=5) (ρ':=ρ') hsz2 iD rfl he.mv he.fO ?_;rw [hs2];simp only [AV.aP,D.v0,D.v1,dk1,AV.val]
 ·have hkk:k=l.length:=by omega
  subst hkk;have D:=uZ (n:=l.length) (k:=l.length) (i:=0) (e:=0) (x9:=0) (x10:=0) (x:=⟨0,1,false⟩) (iv:= .slice ia l.length c) (sv:= .slice sa l.length cs) (ov:=vk) (by omega) (by omega) (by omega) Aw;generalize uD l.length l.length 0 0 0 0 ⟨0,1,false⟩ (.slice ia l.length c) (.slice sa l.length cs) vk=ρ' at D;refine ya3 (iM (ρ:=ρ') (K:=fun _=>False) (g:=aU.none) (bl:= []) mixed zAU zDV (fun b h=>h.elim) trivial trivial eH trivial trivial trivial q0 qd ?_ (aZ.2 ⟨by rw [gT,D.d0,D.d1];simp,aT.2 trivial⟩)) fun ex a2 w2 hh=> ?_
  ·intro t ht;simp only [JB,yac,yae,yav] at ht;rcases ht with rfl|rfl|rfl|rfl
   ·rw [qi];exact Jc D.v0 D.d0
   ·rw [qs];exact ⟨D.v1.symm,_,_,_,rfl,D.d0.symm,trivial⟩
   ·rw [q9];exact iB D.v2 Bu
   ·rw [tT];exact aA D.d1
  ·obtain ⟨q,hq,hto,lf,hlf,rfl,hsz2,j2,iD,he⟩:=hh;have hb3:=fG he (fun _ h=>h);unfold zxB at hq;simp only [yac,yae,yav] at hq;subst hq;cases hlf;have hs2:=iH he.ret;simp only [AV.aP,AV.val,D.v2,yaK,ya0,yaR,yaU] at hs2;have TV:lW w2 w.heap.size vk (iJ ids l l.length):=aG.kept hov fun b e=>hb3.block b (rF b e).2;have hlt2:=aG.lt TV;refine ⟨⟨.lit true,.exit 4,[(9,.opq 1 none)],2⟩,[vk],fun b=>F b∨vk.ownBlock=some b,by unfold zY;rw [EM,yak (show SB.den ρ (.lit true)=true from rfl)],rfl,hsz2,iD,(fun t ht=>by cases ht),rfl,fun s hs=> ?_,⟨?_,vk,rW,aG.mono TV hs0,fun b hb'=> .inr hb'⟩,?_,Dw.Mv.of_below (hb.trans (hb3.mono hb.size))⟩
   ·simp only [yac,yae,yav] at hs;subst hs;rw [hs2];refine ⟨⟨⟨0,0,0,some vk⟩,?_,rfl⟩,Bu,fun _ h=>(by cases h)⟩;show jq j 1 _ 1=_;unfold jq;rw [yak ⟨yab _,by simp⟩];simp
   ·rcases hf.1 with h0|⟨R,o,e,MH,hr⟩
    ·exact .inl h0
    ·exact .inr ⟨R,o,e,.inl MH,gL hr ((hb3.block R (yad (hF R MH) hb.size)).trans (hb.block R (hF R MH)))⟩
   ·rintro b (h|h)
    ·exact ⟨yad (hF b h) (yau hb.size hb3.size),.inl h⟩
    ·exact ⟨(hlt2 b h).2,.inr (hlt2 b h).1⟩
def Tryz.lT (l:List Sg):Int:=if gM l=0∧l.length=0 then 2 else gM l
theorem Tryz.KT {A:Nat→Prop} {w:World} {v:Value} {l:List Sg} (h:aL A w v l) (hl:l.length≤60000):
  Calls prog 50 #[v] w fun e w'=>e= .returned (.int .i64 (lT l))∧Below w.heap.size w w':=by
 have h0:=h;obtain ⟨sa,c,rfl,hok,hr⟩:=h;obtain ⟨F0,wQ,hF1⟩:=JF h0;have D:=uZ (n:=l.length) (k:=0) (i:=0) (e:=gM l) (x9:=0) (x10:=0) (x:=⟨0,1,false⟩) (iv:=undef) (sv:= .slice sa l.length c) (ov:=undef) (by omega) (by omega) (by omega) Aw;generalize uD l.length 0 0 (gM l) 0 0 ⟨0,1,false⟩ undef (.slice sa l.length c) undef=ρ at D;refine yas (eD (ρ:=ρ) (K:=fun _=>False) (g:=xE sa l) (bl:= []) (vals:= [.slice sa l.length c]) mixed zDM zFK (fun b h=>h.elim) trivial trivial ⟨F0,wQ,hF1⟩
  ⟨iU (Dw.enters_of (by kernel_rfl)) (by decide) [.slice sa l.length c] (.int .i64 (gM l)) (fun j=>ai (Gj D.v1 D.d0) RL.nil) (fun j=>aA D.i7) fun w F q h=>Kr (qV.v h hok c),trivial⟩ (ai (Gj D.v1 D.d0) RL.nil) (aT.2 trivial)) fun e w' hh=> ?_
 obtain ⟨p,hpm,hto,lf,hlf,j,he⟩:=hh;have hb:=fG he (fun _ h=>h);unfold VW at hpm;simp only [yac,yae,yav] at hpm;unfold lT;rcases hpm with rfl|rfl|rfl
 all_goals
  simp only [aZ,aT,qK,dW,zag,D.i7,D.d0,ycz,ybD,ne_eq,yaU] at hto;cases hlf
 ·rw [yak ⟨hto.1,by omega⟩];exact ⟨he.ret,hb⟩
 ·rw [yai (by omega)];exact ⟨he.ret.trans (by simp only [AV.val,dW,D.i7]),hb⟩
 ·rw [yai (fun h=>hto h.1)];exact ⟨he.ret.trans (by simp only [AV.val,dW,D.i7]),hb⟩
theorem Tryz.zu8 {A:Nat→Prop} {w:World} {ia:Option Addr} {c:Nat} {v:Value} {ids:List Int} {l:List Sg} (h:aL A w v l) (hl:l.length≤60000) (hil:ids.length=l.length) (hnd:ids.Nodup) (hin: ∀x∈ids,0≤x∧x<32768)
  (jK:ids= []∨ ∃I o,ia=some ⟨I,o,none⟩∧w.rangeAt I o (bg ids)):
  Calls prog 39 #[.slice ia ids.length c,v] w fun e w'=>Below w.heap.size w w'∧((lT l=0∧ ∃u,e= .returned (.tuple #[u,.int .i64 0])∧lW w' w.heap.size u (iJ ids l l.length))∨(lT l≠0∧e= .returned (.tuple #[.slice none 0 0,.int .i64 (lT l)]))):=by
 have h0:=h;obtain ⟨sa,cs,rfl,hok,hr⟩:=h;have hrs:l= []∨ ∃R o,sa=some ⟨R,o,none⟩∧w.rangeAt R o (dX l):=hr.imp_right fun ⟨R,o,e,_,h⟩=>⟨R,o,e,h⟩;have D:=uZ (n:=l.length) (k:=0) (i:=0) (e:=lT l) (x9:=0) (x10:=0) (x:=⟨0,1,false⟩) (iv:= .slice ia l.length c) (sv:= .slice sa l.length cs) (ov:=undef) (by omega) (by omega) (by omega) Aw;generalize uD l.length 0 0 (lT l) 0 0 ⟨0,1,false⟩ (.slice ia l.length c) (.slice sa l.length cs) undef=ρ at D;have hargs:RL ρ (aJ []) [iL [],sl1 []] [.slice ia ids.length c,.slice sa l.length cs]:=ai (hil▸Jc D.v0 D.d0) (ai (Gj D.v1 D.d0) RL.nil);by_cases hm:lT l=0
 ·obtain ⟨F0,wQ,hF1⟩:=JF h0;have NH:mq prog ρ w (fun _=>False) (rU sa l w.heap.size 1 undef [] (iJ ids l l.length)) Io:=by
   exact iU (Dw.enters_of (by kernel_rfl)) (by decide) [.slice sa l.length cs] (.int .i64 (lT l)) (fun j=>ai (Gj D.v1 D.d0) RL.nil) (fun j=>aA D.i7) fun w F q h=>KT (qV.v h.1 hok cs) hl
  refine yas (zvl (ρ:=ρ) (K:=fun _=>False) (g:=rU sa l w.heap.size 1 undef [] (iJ ids l l.length)) (bl:= []) (vals:= [.slice ia ids.length c,.slice sa l.length cs]) mixed zAq zDE (fun b h=>h.elim) trivial trivial ⟨F0,wQ,hF1,trivial⟩
   ⟨NH,trivial⟩ ⟨zEw (by omega) hnd (fun _ h=>h) jK hin (hil▸D.v0) (hil▸D.v1) (hil▸D.d0),zAY hl hil hok (fun _ h=>h) jK hrs D.v0 D.v1 D.d0,trivial⟩ trivial hargs
   (aZ.2 ⟨by rw [lU,dW,zag,D.i7,hm];rfl,aT.2 trivial⟩)) fun e w' hh=> ?_
  obtain ⟨p,hpm,hto,lf,hlf,j,he⟩:=hh;have hb:=fG he (fun _ h=>h);unfold zw1 at hpm;simp only [yac,yae,yav] at hpm;subst hpm;cases hlf;obtain ⟨F2,_,_,u,hu,hou,_⟩:=he.fO;refine ⟨hb,.inl ⟨hm,u,he.ret.trans ?_,hou⟩⟩;show Ending.returned (.tuple #[(AV.opq 1 none).val ρ (dH j),.int .i64 0])=_;rw [vK hu]
 ·obtain ⟨F0,wQ,hF1⟩:=JF h0;have NH:mq prog ρ w (fun _=>False) (xE sa l) Io:=by
   exact iU (Dw.enters_of (by kernel_rfl)) (by decide) [.slice sa l.length cs] (.int .i64 (lT l)) (fun j=>ai (Gj D.v1 D.d0) RL.nil) (fun j=>aA D.i7) fun w F q h=>KT (qV.v h hok cs) hl
  refine yas (eD (ρ:=ρ) (K:=fun _=>False) (g:=xE sa l) (bl:= []) (vals:= [.slice ia ids.length c,.slice sa l.length cs]) mixed zw3 zAt (fun b h=>h.elim) trivial trivial ⟨F0,wQ,hF1⟩ ⟨NH,trivial⟩ hargs
   (aZ.2 ⟨by rw [lU,dW,zag,D.i7];simpa using hm,aT.2 trivial⟩)) fun e w' hh=> ?_
  obtain ⟨_,j,he⟩:=iN hh;have hb:=fG he (fun _ h=>h);exact ⟨hb,.inr ⟨hm,he.ret.trans (by simp only [AV.val,AV.aP,dW,D.i7])⟩⟩
def Tryz.bytesOf (v:Int) (n:Nat):List Int:=(List.range n).map fun i=>v/2^(8*i)%256
theorem Tryz.zqi (v:Int) (n:Nat):bytesOf v (n+1)=bytesOf v n++ [v/2^(8*n)%256]:=by simp [bytesOf,ydH]
theorem Tryz.EC (v:Int) (n:Nat):(bytesOf v n).length=n:=by simp [bytesOf]
theorem Tryz.zrS (v:Int) (n:Nat): ∀x∈bytesOf v n,0≤x∧x<256:=fun x hx=>by
 obtain ⟨i,_,rfl⟩:=ya6.1 hx;exact ⟨ybo _ (by decide),ybg _ (by decide)⟩
def Tryz.iG (xs:List Int):List Value:=xs.map fun x=> .int .u8 x
theorem Tryz.zF5:(prog.info? 5).map (fun i=>(i.zero,i.size,i.bytes))=some (some (.int .u8 0),1,1):=by kernel_rfl
set_option maxRecDepth 100000 in
theorem Tryz.zAv {w:World} {b2:Nat} {b:Value} {xs:List Int} {v:Int} {n:Nat} (h:aG 5 1 w b2 b xs.length (iG xs)) (hb2:b2≤w.heap.size) (hn:n≤8) (hx:xs.length≤10000):
    Calls prog 77 #[b,.int .u64 v,.int .i64 n] w fun e w'=> ∃u,e= .returned u∧aG 5 1 w' b2 u (xs++bytesOf v n).length (iG (xs++bytesOf v n))∧Below b2 w w'∧Dw.Mv (fun y=>b.ownBlock=some y) w w'∧(∀y,u.ownBlock=some y→b.ownBlock=some y∨w.heap.size≤y):=by
  have hinfo:=zF5;cases hi:prog.info? 5 with
  | none=>rw [hi] at hinfo;cases hinfo
  | some i=>
  rw [hi] at hinfo;simp only [yaJ,ybP,ych] at hinfo;obtain ⟨i1,i2,i3⟩:=hinfo;go_enter func77,ntmps77;go_wp2;go_loopw [0,7] (fun c k wr=> ∃(q:Nat) (cv:Value),cv=c∧q≤n∧k= .int .i64 q∧aG 5 1 wr b2 cv (xs++bytesOf v q).length (iG (xs++bytesOf v q))∧Below b2 w wr∧Dw.Mv (fun y=>b.ownBlock=some y) w wr∧(∀y,cv.ownBlock=some y→b.ownBlock=some y∨w.heap.size≤y)) (fun _ k _=>n-(RowKit.intOf k).toNat)
  case atStart=>exact ⟨0,_,rfl,yax _,rfl,by simpa [bytesOf] using h,yag _ _,Dw.Mv.refl _ _,fun y hy=> .inl hy⟩
  case round=>
    obtain ⟨q,cv,hcv,hq,rfl,ho,hb,hm,hown⟩:=hrel;subst hcv;by_cases hqn:q<n
    · have hw8:=wrap_u8 (v/2^(8*q));have hsz:=hb.size;have hol:=aG.lt ho;have ho2: ∀t,(wr.alloc (.cells #[.int .u8 (v/2^(8*q)%256)] t)).ownsRow b2 5 1 cv (xs++bytesOf v q).length (iG (xs++bytesOf v q)):=fun t=>aG.kept ho fun b e=>(yce _ _).2 _ (hol b e).2;have hnew: ∀t j u,([Value.int .u8 (v/2^(8*q)%256)]:List Value)[j]? =some u→(wr.alloc (.cells #[.int .u8 (v/2^(8*q)%256)] t)).cell? ((⟨wr.heap.size,0,none⟩:Addr).add j)=some u:=fun t j u hu=>by
        rw [Dw.addr_add];exact (Cl.new wr #[.int .u8 (v/2^(8*q)%256)] t).cell (0+j) u (by rw [yaq];exact hu)
      have hlen:(xs++bytesOf v q).length≤10010:=by rw [yaQ,EC];omega
      go_wp2_with (first
        | (at_builtin;go_loud (refine ya4 _ rfl _ _ 77 rfl b2 5 i _ 1 1 (by kernel_rfl) hi i1 i2 i3 rfl (by decide) cv _ (iG (xs++bytesOf v q)) rfl (ho2 _) ⟨wr.heap.size,0,none⟩ 1 1 [.int .u8 (v/2^(8*q)%256)] rfl rfl (hnew _) (by intro y hy;rw [yaF] at hy;subst hy;rfl) (by unfold maxLen;omega) (by omega) (by simp;omega) ?_);intro u w' h2 h3 h4 h5;go_frame)
        | go_in)
      refine ⟨⟨q+1,u,rfl,by omega,by push_cast;rfl,?_,?_,?_,?_⟩,by simp only [RowKit.intOf];omega⟩
      · have e1:xs++bytesOf v (q+1)=(xs++bytesOf v q)++ [v/2^(8*q)%256]:=by rw [zqi,ybQ]
        have e2:iG (xs++bytesOf v (q+1))=iG (xs++bytesOf v q)++ [.int .u8 (v/2^(8*q)%256)]:=by rw [e1];simp [iG]
        rw [e2,e1,yaQ];exact h2
      · have hsz2:=h3.size;simp only [jB] at hsz2;exact ⟨h3.os.trans hb.os,h3.tape.trans hb.tape,h3.output.trans hb.output,by omega,fun y hy=>(h3.block y (by simp only [jB];omega) (fun e=>by have:=(hol y e.symm).1;omega)).trans (((yce _ _).2 y (by omega)).trans (hb.block y hy))⟩
      · have hsz2:=h3.size;simp only [jB] at hsz2;have hms:=hm.size;exact ⟨h3.os.trans hm.os,h3.tape.trans hm.tape,h3.output.trans hm.output,by omega,fun y hy hn=>(h3.block y (by simp only [jB];omega) (fun e=>by
          rcases hown y e.symm with h|h
          · exact hn h
          · omega)).trans (((yce _ _).2 y (by omega)).trans (hm.block y hy hn))⟩
      · intro y hy;have hms:=hm.size;rcases h5 with h5|h5
        · exact hown y (h5▸hy)
        · rw [hy] at h5;cases h5;right;simp only [jB];omega
    · have hqq:q=n:=by omega
      subst hqq;go_wp2;go_ret;exact ⟨_,rfl,ho,hb,hm,hown⟩
def Tryz.Eu (k:Nat) (s:AV) (e:SE) (n:Int):aK:=⟨77,[s,.int .u64 e,.int .i64 (.lit n)],k,k+2,1,.opq (k+2) none,k+1⟩
def Tryz.zFN:List aK:= [Eu 0 .bZ (af 3) 8,Eu 1 (.opq 2 none) (bM 4) 4,Eu 2 (.opq 3 none) (aF 5) 2,Eu 3 (.opq 4 none) (aF 6) 2]
def Tryz.UQ (b2:Nat) (L:Nat→List Int):aU where
 fact k q F w:=match k with|0=>True|k+1=> ∃u,q (k+2)=some u∧aG 5 1 w b2 u (L (k+1)).length (iG (L (k+1)))∧ ∀b,u.ownBlock=some b→F b
 loc:=fun k q q' F w w' h hq hb hs=>by
  match k,h with
  | 0,_=>trivial
  | k+1,⟨u,h7,h8,h9⟩=>exact ⟨u,hq _ _ h7,aG.kept h8 fun b e=>hb b (h9 b e),h9⟩
end Go.Proofs
namespace Go.Proofs
open Go.Dw
def Tryz.zs0:List aK:=zFN
def Tryz.zxv:List Sh:= []
def Tryz.zs1:List AV:= [.agg [.int .u64 (af 3),.int .u32 (bM 4),.int .u16 (aF 5),.int .u16 (aF 6)]]
def Tryz.zDU:List (SB×Bool):= []
def Tryz.VY:List Leaf:= [
 ⟨.opq 5 none,[],[],4,[]⟩]
def Tryz.zFL:List (List (SB×Bool)×Nat):= [
 ([], 0)]
theorem Tryz.zDT:(ev prog (bG zs0) 100000 (.call 37 zs1 (bn 0 zxv) (cK VY 0))).ways zDU=some zFL:=by kernel_rfl
theorem Tryz.zFM:(bJ zxv&&bI zs0&&AV.bQ zs1&&dx VY)=true:=by kernel_rfl
open Go.RowKit Go.Maps Go.Sort
theorem Tryz.Lb {ρ:Val} {w0:World} {K:Nat→Prop} {L:Nat→List Int} {k n:Nat} {s:AV} {e:SE} (hs:(k=0∧s= .bZ)∨(0<k∧s= .opq (k+1) none)) (h0:L 0= []) (hL:L (k+1)=L k++bytesOf (e.den ρ) n) (hn:n≤8) (hl:(L k).length≤10000):
  mq prog ρ w0 K (UQ w0.heap.size L) (Eu k s e n):=by
 refine ⟨Dw.enters_of (by kernel_rfl),fun j w1 vals F m hv hnone hb hF hsz hf _=> ?_⟩;have hb:m=k+2:=hb (by show (1:Nat)≠0;decide);subst hb;obtain ⟨us,_,rfl,fD,hv⟩:=hv;obtain ⟨x1,_,rfl,e1,hv⟩:=hv;obtain ⟨x2,_,rfl,e2,hv⟩:=hv;have hv:_= []:=hv;subst hv;have e1:x1= .int .u64 (e.den ρ):=e1;have e2:x2= .int .i64 (n:Int):=e2;subst e1 e2;have hown:aG 5 1 w1 w0.heap.size us (L k).length (iG (L k))∧ ∀b,us.ownBlock=some b→F b:=by
  rcases hs with ⟨rfl,rfl⟩|⟨hk,rfl⟩
  ·have:us= .slice none 0 0:=fD;subst this;rw [h0];exact ⟨aG.nil _ _ _ _,fun b h=>by cases h⟩
  ·obtain ⟨k',rfl⟩: ∃k',k=k'+1:=⟨k-1,by omega⟩;obtain ⟨u,hq,ho,hF'⟩:=hf;have:us=u:=by
    obtain ⟨⟨Lq,hj,hu⟩,_⟩:=fD;unfold gQ at hq;rw [hj] at hq;simp only [ybF] at hq;rw [hu] at hq;injection hq
   subst this;exact ⟨ho,hF'⟩
 obtain ⟨hown,SX⟩:=hown;refine yas (zAv (v:=e.den ρ) hown hsz hn hl) fun en w' hh=> ?_;obtain ⟨u,rfl,hu,hbl,hmv,hou⟩:=hh;rw [←hL] at hu;refine ⟨_,[u],fun b=>F b∨u.ownBlock=some b,rfl,rfl,⟨⟨⟨0,0,0,some u⟩,?_,rfl⟩,aG.one hu,fun _ h=>(by cases h)⟩,⟨u,rW,hu,fun b hb=> .inr hb⟩,?_,hmv.mono fun b hb=>⟨SX b hb,.inl (aG.lt hown b hb).1⟩⟩
 ·show jq j (k+2) _ (k+2)=_;unfold jq;rw [yak ⟨yab _,by simp⟩];simp
 ·rintro b (hb|hb)
  ·exact ⟨yad (hF b hb) hmv.size,.inl hb⟩
  ·refine ⟨(aG.lt hu b hb).2,?_⟩;rcases hou b hb with h|h
   ·exact .inl (SX b h)
   ·exact .inr h
def Tryz.Pt.bytes (p:Pt):List Int:=bytesOf p.a 8++bytesOf p.ln 4++bytesOf p.f 2++bytesOf p.nx 2
theorem Tryz.Pt.Sl (p:Pt):p.bytes.length=16:=by simp [Pt.bytes,EC]
theorem Tryz.Pt.Sk (p:Pt): ∀x∈p.bytes,0≤x∧x<256:=fun x hx=>by
 unfold Pt.bytes at hx;rw [yaT,yaT,yaT] at hx;rcases hx with ((h|h)|h)|h<;>exact zrS _ _ x h
structure Tryz.Pt.ok (p:Pt):Prop where
 a:0≤p.a∧p.a<18446744073709551616
 ln:0≤p.ln∧p.ln<4294967296
 f:0≤p.f∧p.f<65536
 nx:0≤p.nx∧p.nx<65536
theorem Tryz.zlz (p:Pt) (hp:p.ok) (w:World):
  Calls prog 37 #[.agg #[.int .u64 p.a,.int .u32 p.ln,.int .u16 p.f,.int .u16 p.nx]] w fun e w'=> ∃u,e= .returned u∧aG 5 1 w' w.heap.size u p.bytes.length (iG p.bytes)∧Below w.heap.size w w':=by
 obtain ⟨ρ,d3,d4,d5,d6⟩: ∃ρ:Val,(af 3).den ρ=p.a∧(bM 4).den ρ=p.ln∧(aF 5).den ρ=p.f∧(aF 6).den ρ=p.nx:=
  ⟨BH [0,0,0,p.a,p.ln,p.f,p.nx] [] [],iI hp.a.1 hp.a.2,pF hp.ln.1 hp.ln.2,jC hp.f.1 hp.f.2,jC hp.nx.1 hp.nx.2⟩
 let L:Nat→List Int:=fun k=>match k with
  | 0=> []|1=>bytesOf p.a 8|2=>bytesOf p.a 8++bytesOf p.ln 4|3=>bytesOf p.a 8++bytesOf p.ln 4++bytesOf p.f 2|_=>p.bytes
 have l1:(L 1).length=8:=by simp [L,EC]
 have l2:(L 2).length=12:=by simp [L,EC]
 have l3:(L 3).length=14:=by simp [L,EC]
 refine yas (eD (ρ:=ρ) (K:=fun _=>False) (g:=UQ w.heap.size L) (bl:= []) (vals:= [.agg #[.int .u64 p.a,.int .u32 p.ln,.int .u16 p.f,.int .u16 p.nx]]) mixed zDT zFM (fun b h=>h.elim) trivial trivial ⟨fun _=>False,fun _ h=>h.elim,trivial⟩
  ⟨Lb (n:=8) (.inl ⟨rfl,rfl⟩) rfl (by rw [d3];rfl) (by decide) (yax _),Lb (n:=4) (.inr ⟨by decide,rfl⟩) rfl (by rw [d4];rfl) (by decide) (by omega),Lb (n:=2) (.inr ⟨by decide,rfl⟩) rfl (by rw [d5];rfl) (by decide) (by omega),Lb (n:=2) (.inr ⟨by decide,rfl⟩) rfl (by rw [d6];rfl) (by decide) (by omega),trivial⟩
  (ai (OU (ai (aA d3) (ai (aA d4) (ai (aA d5) (ai (aA d6) RL.nil))))) RL.nil) (aT.2 trivial)) fun e w' hh=> ?_
 obtain ⟨_,j,he⟩:=iN hh;have hb:=fG he (fun _ h=>h);obtain ⟨F2,_,u,hu,hou,_⟩:=he.fO;exact ⟨u,he.ret.trans (by rw [vK hu]),hou,hb⟩
end Go.Proofs
namespace Go.Proofs
open Go.Dw Go.RowKit
def Tryz.zFU:AV:= .sx 1 (au 4) 3 []
open Go.Maps Go.Sort
theorem Tryz.WJ (ps:List Pt):(r9 ps).length=5*ps.length:=by
 induction ps with
 | nil=>rfl
 | cons p ps ih=>simp only [r9,ydn,yaQ,yaW] at ih ⊢;rw [ih];simp [Pt.cells];omega
theorem Tryz.YU: ∀(ps:List Pt) (k:Nat) (hk:k<ps.length) (j:Nat),j<5→(r9 ps)[5*k+j]? =ps[k].cells[j]?
 | p::ps,0,_,j,hj=>by
  simp only [r9,ydn,Nat.mul_zero,yaq,yc7];rw [yaX (by simp [Pt.cells];omega)]
 | p::ps,k+1,hk,j,hj=>by
  have:=YU ps k (by simpa using hk) j hj;simp only [r9,ydn,yb6] at this ⊢;rw [yaY (by simp [Pt.cells];omega),←this];congr 1;simp [Pt.cells];omega
theorem Tryz.zAZ {w:World} {G o:Nat} {ps:List Pt} (h:w.rangeAt G o (r9 ps)) (k:Nat) (hk:k<ps.length):w.rangeAt G (o+5*k) ps[k].cells:=fun j v hv=>by
 have hj:j<5:=by
  have:=(yay.1 hv).1;simpa [Pt.cells] using this
 have:=h (5*k+j) v (by rw [YU ps k hk j hj];exact hv);rw [show o+5*k+j=o+(5*k+j) by omega];exact this
theorem Tryz.zxw {ids:List Int} {l:List Sg} {m:Int} (hil:ids.length=l.length) (hok: ∀x∈l,x.ok) (hin: ∀x∈ids,0≤x∧x<m): ∀p∈iJ ids l l.length,p.ok∧0≤p.aR∧p.aR<m:=fun p hp=>by
 obtain ⟨k,hk,rfl⟩:=ya6.1 hp;have hk:k<l.length:=List.mem_range.1 hk;have h1:=hok l[k] (yaL hk);have h2:=hin ids[k] (yaL (by omega));have e1:l.getD k ⟨0,0,false⟩=l[k]:=by simp [yaD,hk]
 have e2:ids.getD k 0=ids[k]:=by simp [yaD,hil,hk]
 refine ⟨⟨?_,?_,?_,?_⟩,?_⟩
 ·simp only [putAt,e1];exact ⟨h1.1,h1.2.1⟩
 ·simp only [putAt,e1];exact ⟨h1.2.2.1,h1.2.2.2⟩
 ·simp only [putAt];split<;>split<;>omega
 ·simp only [putAt];split<;>omega
 ·simp only [putAt,e2];exact h2
end Go.Proofs
namespace Go.Proofs
open Go.Dw Go.RowKit
theorem Tryz.znv (x:Int): ∀tk:List (Int×List Sg),(mE x tk).length≤tk.length∧tk.length≤(mE x tk).length+1
 | [] => ⟨yab _,yax _⟩
 | e::r=>by
  unfold mE;have:=znv x r;split
  ·simp
  ·simp only [yaW];omega
theorem Tryz.aL.set {A A':Nat→Prop} {w:World} {v:Value} {l:List Sg} (h:aL A w v l) (hA: ∀b,b<w.heap.size→A' b→A b):aL A' w v l:=by
 obtain ⟨sa,c,e,hok,hr⟩:=h;refine ⟨sa,c,e,hok,?_⟩;by_cases h0:l= []
 ·exact .inl h0
 ·rcases hr with hr|⟨R,o,e1,h1,h2⟩
  ·exact .inl hr
  ·exact .inr ⟨R,o,e1,fun h=>h1 (hA R (uz h2 h0) h),h2⟩
theorem Tryz.mI.set {A A':Nat→Prop} {w:World} {S ph:Nat} {v:Value} (h:mI A w S ph v) (hA: ∀b,b<w.heap.size→A' b→A b):mI A' w S ph v:=by
 cases h with
 | idle h hv=>exact .idle h hv
 | gZ f h hv=>exact .gZ f h hv
 | fence f X Y h hv hX hY aX aY=>exact .fence f X Y h hv hX hY (fun h=>aX (hA X (yj hX) h)) (fun h=>aY (hA Y (yj hY) h))
theorem Tryz.kK.set {A A':Nat→Prop} {w:World} {M:Nat} {tk:List (Int×List Sg)} (h:kK A w M tk) (hA: ∀b,b<w.heap.size→A' b→A b):kK A' w M tk:=by
 obtain ⟨arr,clock,h1,h2,h3⟩:=h.map;refine ⟨⟨arr,clock,h1,h2,fun k=>⟨(h3 k).1,fun l hl=> ?_⟩⟩,h.keys,h.u16⟩;obtain ⟨v,h4,h5⟩:=(h3 k).2 l hl;exact ⟨v,h4,h5.set hA⟩
theorem Tryz.iq.set {A A':Nat→Prop} {w:World} {S P M:Nat} {r:Rg} {s:SS} (h:iq A w S P M r s) (hA: ∀b,b<w.heap.size→A' b→A b) (aS:A' S) (aM:A' M):iq A' w S P M r s:=by
 obtain ⟨nv,sv,h1,h2,h3⟩:=h.obj;exact ⟨⟨nv,sv,h1,h2.set hA,h3.set hA⟩,h.tk.set hA,h.ne,aS,aM,h.rg,h.nx,h.us,h.hd,h.wr⟩
theorem Tryz.SW.set {A A':Nat→Prop} {w:World} {S P L Bs B M N:Nat} {r:Rg} {s:SS} {g:Nat→Int} (h:SW A w S P L Bs B M N r s g) (hA: ∀b,b<w.heap.size→A' b→A b) (aS:A' S) (aM:A' M) (aB:A' B) (hl: ∀b,A' b→b<w.heap.size):SW A' w S P L Bs B M N r s g:=
 ⟨h.aj.set hA aS aM,h.mem,h.hN,h.sd,h.md,aB,hl,h.fit⟩
theorem Tryz.SW.kept {A:Nat→Prop} {w w':World} {S P L Bs B M N:Nat} {r:Rg} {s:SS} {g:Nat→Int} (h:SW A w S P L Bs B M N r s g) (hS:w'.heap[S]? =w.heap[S]?) (hM:w'.heap[M]? =w.heap[M]?) (hk: ∀k,k<w.heap.size→ ¬A k→w'.heap[k]? =w.heap[k]?) (hg: ∀k,(k=P∨k=L∨k=Bs∨k=B)→w'.heap[k]? =w.heap[k]?) (hs:w.heap.size≤w'.heap.size):SW A w' S P L Bs B M N r s g:=
 ⟨h.aj.kept hS hM hk,h.mem.kept (fun k _ hk=>hg k hk) hs,h.hN,h.sd,h.md,h.aB,fun b hb=>yad (h.lt b hb) hs,h.fit⟩
def Tryz.Wq:List AV:= [.int .i64 (.var 8),.int .i64 (.var 9),.int .u32 (bM 10),.int .u64 (af 11),.int .u32 (bM 12),.int .u16 (aF 13),.int .u16 (aF 14),zFU]
end Go.Proofs
end
