/-
  Proved: laws on the way to 'PserveScriptProof' (texts PsJ PsK0 PsK PsL PsM PsF PsN PsO PsP0 PsP PsQ PsR0 PsR PsS PsT PsU PsX PsY PtA0 PtA PtB PtC PtD PtE0 PtE PtF PtG PtH PtI PtJ PtK PtL PtM PtN PuB PvA PvB PuA0 PuA PuC PvC PuD PuE PuF PuG PuH PuI PuI2 PvD PvE); no condition.
-/
import Derived.Test.YtfoggkodmjnmcaaGreatM4
import Derived.Deep.RegionWith
import Derived.Deep.RegionHeld3
set_option linter.unusedSimpArgs false
set_option linter.unusedVariables false
set_option maxHeartbeats 4000000
noncomputable section
namespace Go.Proofs
open Go.Dw Go.RowKit Go.Maps Go.Sort Go.Deep
theorem Tryz.zw0 (n a:Int) (x y:Bool) (c:Int):(aZ n a x c).1=(aZ n a y c).1:=by unfold aZ;split<;>rfl
theorem Tryz.OA {n a c:Int} {x:Bool} (ha:0≤a∧a<n) (hc:0≤c∧c≤n):0≤(aZ n a x c).1∧(aZ n a x c).1<n:=by unfold aZ;split<;>(simp only;omega)
theorem Tryz.zCT {ρ:Val} {P L Bs B N:Nat} {n d v c i ct id nx Id F:Int} {tb wr iX:Bool} {sv:Value} {g:Nat→Int} {b2 W0:Nat} {l:List Sg} {a q1 q2 q3:Nat} {w0:World} {K:Nat→Prop} {A Ln:Int} (hd:sF ρ P n d v c i ct id A Ln Id F nx (gT N g A Ln).2 tb wr iX sv) (hN:N≤1048576) (h1:1≤N) (hA:0≤A∧A<18446744073709551616) (hL:0≤Ln∧Ln<4294967296) (hW:W0=w0.heap.size) (hb2:b2≤W0):
  jM prog ρ w0 K (kJ P L Bs B N g b2 W0 sv l a (gT N g A Ln).1 q1 q2 q3) (Ta q3):=by
 refine ⟨Dw.enters_of (by kernel_rfl),fun j w vals F n0 hv hn hb hF hsz hf _=> ?_⟩;have hv:=wu (show AV.kS [.cst 0 none,.int .u64 (aj 10),.int .u32 (aW 11)]=true by decide) hv (af (gY (ρ:=ρ) (j:=j) hd.dp rfl) (af (ai hd.dA) (af (ai hd.JW) RL.nil)));subst hv;have hb:n0=q3:=hb (by show (1:Nat)≠0;decide);subst hb;obtain ⟨⟨f1,f2,f3,f4,hm⟩,_⟩:=hf;refine yaq (ztL hm hN h1 hA hL) fun en w' hh=> ?_;obtain ⟨u,rfl,hu,hbl⟩:=hh;have hlt:=hu.lt;refine ⟨_,[u],fun b=>F b∨u.ownBlock=some b,rfl,rfl,kM (af ⟨⟨⟨0,0,0,some u⟩,?_,rfl⟩,hu.one,fun _ h=>(by cases h)⟩ (af (ai hd.de) RL.nil)),⟨⟨.inl f1,.inl f2,.inl f3,.inl f4,hm.below hbl⟩,u,tV,⟨hu.mono (by omega),fun b hb=> .inr hb⟩,fun b hb=> .inr (by have:=(hlt b hb).1;omega)⟩,?_,Dw.Mv.of_below hbl⟩
 ·show jq j n0 _ n0=_;unfold jq;rw [yaj ⟨yab _,by simp⟩];simp
 ·rintro b (hb|hb)
  ·exact ⟨yae (hF b hb) hbl.size,.inl hb⟩
  ·exact ⟨(hlt b hb).2.1,.inr (hlt b hb).1⟩
set_option maxRecDepth 100000 in
theorem Tryz.Zl {w:World} {P L Bs B N:Nat} {g:Nat→Int} {r:Rg} {aD:Int} {wr tb:Bool} (st:GM w P L Bs B N g) (hN:N≤1048576) (hr:jG r) (hfit:4104+16*r.n≤N) (hat:0≤aD∧aD<r.n):
  Calls prog 155 #[vp P,r.gJ,bQ aD wr,.bool tb] w fun e w'=> ∃u,e= .returned (.tuple #[.agg #[.int .i64 (fD N g r.n tb r.n.toNat aD 0 [] 0).id,.int .i64 (fD N g r.n tb r.n.toNat aD 0 [] 0).ct,u],.int .i64 (fD N g r.n tb r.n.toNat aD 0 [] 0).e])∧
   bG w' w.heap.size u (fD N g r.n tb r.n.toNat aD 0 [] 0).sg∧Below w.heap.size w w':=by
 obtain ⟨RES,ru⟩: ∃RES,fD N g r.n tb r.n.toNat aD 0 [] 0=RES:=⟨_,rfl⟩;rw [ru];unfold vp Rg.gJ bQ;go_enter func155,ntmps155;go_wp2;rename_i K hK;obtain ⟨⟨n1,n2⟩,hd,hv,hc⟩:=hr.nums;have hbn:=hr.bnd;have hd4:=hr.d;have hg:=st.byte;have hN1:1≤N:=by omega
 obtain ⟨nn,hnn⟩: ∃nn:Nat,r.n=nn:=⟨r.n.toNat,(ybz (by omega)).symm⟩;have QG:=st.pl;have QF:=st.ll;have QH:=st.sl;have QE:=st.bl;obtain ⟨R0,hR0⟩: ∃R0,R0=w.heap.size:=⟨_,rfl⟩;obtain ⟨W1,hW1⟩: ∃W,W=w.alloc (Obj.cells #[.bool true,.int .i64 r.n,.int .u64 r.d,.int .u64 r.v,.int .u64 r.c] 31):=⟨_,rfl⟩;have z1:W1.heap.size=R0+1:=by rw [hW1,hR0];simp
 have o1:Own W1 R0 [.bool true,.int .i64 r.n,.int .u64 r.d,.int .u64 r.v,.int .u64 r.c]:=by rw [hW1,hR0];exact AA w _ _
 have b1:Below R0 w W1:=by rw [hW1,hR0];exact (yah _ w).alloc (yab _) _
 rw [←hW1];clear hW1;obtain ⟨W2,hW2⟩: ∃W,W=W1.alloc (Obj.cells #[.int .i64 aD,.bool wr] 35):=⟨_,rfl⟩;have z2:W2.heap.size=R0+2:=by rw [hW2];simp [z1]
 have o2:Own W2 (R0+1) [.int .i64 aD,.bool wr]:=by rw [hW2,←z1];exact AA W1 _ _
 have k2: ∀b,b<R0+1→W2.heap[b]? =W1.heap[b]? :=fun b hb=>by rw [hW2];exact ycD W1 _ (h:=by omega)
 have b2:Below R0 w W2:=by rw [hW2];exact b1.alloc (by omega) _
 rw [←hW2];clear hW2;obtain ⟨W3,hW3⟩: ∃W,W=W2.alloc (Obj.cells #[.int .i64 0,.int .i64 0,.slice none 0 0] 122):=⟨_,rfl⟩;have z3:W3.heap.size=R0+3:=by rw [hW3];simp [z2]
 have o3:Own W3 (R0+2) [.int .i64 0,.int .i64 0,.slice none 0 0]:=by rw [hW3,←z2];exact AA W2 _ _
 have k3: ∀b,b<R0+2→W3.heap[b]? =W2.heap[b]? :=fun b hb=>by rw [hW3];exact ycD W2 _ (h:=by omega)
 have b3:Below R0 w W3:=by rw [hW3];exact b2.alloc (by omega) _
 rw [←hW3];clear hW3;have p2:Own W3 (R0+1) [.int .i64 aD,.bool wr]:=o2.kept (k3 _ (by omega));have p1:Own W3 R0 [.bool true,.int .i64 r.n,.int .u64 r.d,.int .u64 r.v,.int .u64 r.c]:=(o1.kept (k2 _ (by omega))).kept (k3 _ (by omega));rw [←hR0];clear o1 o2 k2 k3 b1 b2 z1 z2;have done: ∀ {a2:Act} {w2:World} {u:Value} {id ct e:Int},a2.defers= []→a2.tmps.getD 8 undef= .pointer (some ⟨R0+2,0,none⟩)→a2.tmps.getD 9 undef= .int .i64 e→Own w2 (R0+2) [.int .i64 id,.int .i64 ct,u]→id=RES.id→ct=RES.ct→e=RES.e→bG w2 R0 u RES.sg→Below R0 w w2→
   bodyPost prog f155 (fun e w'=> ∃u,e= .returned (.tuple #[.agg #[.int .i64 RES.id,.int .i64 RES.ct,u],.int .i64 RES.e])∧bG w' w.heap.size u RES.sg∧RowKit.Below w.heap.size w w') .ret a2 w2:=fun {a2 w2 u id ct e} q1 q2 q3 q4 q5 q6 q7 q8 q9=>by
  refine yaP (iq rfl _ _ (R0+2) [.int .i64 id,.int .i64 ct,u] _ q2 (fun j v hv=>by rw [yau];exact jK q4 hv) underlying122 rfl (by kernel_rfl)) q1 ⟨u,?_,hR0▸q8,hR0▸q9⟩;rw [q3,q5,q6,q7]
 refine jy (c':= .loop (bJ prog [0,0,0,1,155])) (by kernel_rfl) ?_;refine xX (fun (x:Nat×Int×Bool×List Sg×Value×Int) a' w'=>x.1≤nn∧a'.tmps.size=102∧a'.defers= []∧([0,3,5,6,8,9].map fun t=>a'.tmps.getD t undef)= [vp P,.bool tb,.pointer (some ⟨R0,0,none⟩),.pointer (some ⟨R0+1,0,none⟩),.pointer (some ⟨R0+2,0,none⟩),.int .i64 0]∧
   Own w' R0 [.bool true,.int .i64 r.n,.int .u64 r.d,.int .u64 r.v,.int .u64 r.c]∧Own w' (R0+1) [.int .i64 x.2.1,.bool x.2.2.1]∧Own w' (R0+2) [.int .i64 x.2.2.2.2.2,.int .i64 x.1,x.2.2.2.2.1]∧bG w' (R0+3) x.2.2.2.2.1 x.2.2.2.1∧Below R0 w w'∧R0+3≤w'.heap.size∧x.2.2.2.1.length=x.1∧(0≤x.2.1∧x.2.1<r.n)∧(0≤x.2.2.2.2.2∧x.2.2.2.2.2<65536)∧
   fD N g r.n tb (nn-x.1) x.2.1 x.1 x.2.2.2.1 x.2.2.2.2.2=RES)
  (fun x=>nn-x.1) (fun x a1 w1 hI=> ?_) (0,aD,wr,[],.slice none 0 0,0) _ _ ⟨yaE _,rfl,rfl,rfl,p1,p2,o3,⟨rfl,.inl ⟨rfl,rfl⟩⟩,b3,by omega,rfl,hat,⟨ybW 0,by show (0:Int)<65536;decide⟩,by
   rw [←ru,show nn-(0,aD,wr,([]:List Sg),Value.slice none 0 0,(0:Int)).1=r.n.toNat by show nn-0=_;omega];rfl⟩
 obtain ⟨k,aP,qH,l,v,id⟩:=x;obtain ⟨hk,q0,qd,hsl,oR,oP,oT,hown,hbl,xH,hlen,o8,hid,hrec⟩:=hI;simp only at hk hsl oP oT hown hlen o8 hid hrec;simp only [yaJ,yaZ,yaM,yaN] at hsl;obtain ⟨s0,s3,s5,s6,s8,s9⟩:=hsl;have hone:=hown.one;have hlt:=hown.lt;have st1:=st.below (hR0▸hbl);have hj1:aT [(R0,0),(R0+1,0),(R0+2,0)] 1=some ⟨R0,0,0,none⟩:=rfl;have hj2:aT [(R0,0),(R0+1,0),(R0+2,0)] 2=some ⟨R0+1,0,0,none⟩:=rfl;have hj3:aT [(R0,0),(R0+1,0),(R0+2,0)] 3=some ⟨R0+2,0,0,none⟩:=rfl;have hap:apart [(R0,0),(R0+1,0),(R0+2,0)] uG:=vR (by simp);have slots: ∀ {ρ:Val} {Id F Ad Ln nx e:Int} {iX:Bool},sF ρ P r.n r.d r.v r.c aP k id Ad Ln Id F nx e tb qH iX v→ ∀t∈uh,Dw.R ρ (aT [(R0,0),(R0+1,0),(R0+2,0)]) t.2 (a1.tmps.getD t.1 undef):=fun {ρ Id F Ad Ln nx e iX} D t ht=>by
  simp only [uh,yad,yag,yaB] at ht;rcases ht with rfl|rfl|rfl|rfl|rfl|rfl
  ·rw [s0];exact gY D.dp rfl
  ·rw [s3];exact aU D.yY
  ·rw [s5];exact ⟨_,hj1,rfl⟩
  ·rw [s6];exact ⟨_,hj2,rfl⟩
  ·rw [s8];exact ⟨_,hj3,rfl⟩
  ·rw [s9];exact ai rfl
 have iN: ∀ {ρ:Val} {Id F Ad Ln nx e:Int} {iX:Bool} {G:bg},sF ρ P r.n r.d r.v r.c aP k id Ad Ln Id F nx e tb qH iX v→qj ρ (aT [(R0,0),(R0+1,0),(R0+2,0)]) (iT w1 (fun b=>(b=R0∨b=R0+1∨b=R0+2)∨v.ownBlock=some b) G) [(R0,0),(R0+1,0),(R0+2,0)] uG:=fun {ρ Id F Ad Ln nx e iX G} D=>
  ⟨fe oR (af (aU rfl) (af (ai D.dn) (af (ai D.dd) (af (ai D.dv) (af (ai D.dc) RL.nil))))) (.inl (.inl rfl)),fe oP (af (ai D.di) (af (aU D.Qp) RL.nil)) (.inl (.inr (.inl rfl))),fe oT (af (ai D.did) (af (ai D.lH) (af (gY D.qX hone) RL.nil))) (.inl (.inr (.inr rfl))),trivial⟩
 have gP: ∀b,((b=R0∨b=R0+1∨b=R0+2)∨v.ownBlock=some b)→b<w1.heap.size:=fun b hb=>by
  rcases hb with (rfl|rfl|rfl)|hb
  ·omega
  ·omega
  ·omega
  ·exact (hlt b hb).2.1
 have below: ∀ {w2:World},Dw.Mv (fun b=>(b=R0∨b=R0+1∨b=R0+2)∨v.ownBlock=some b) w1 w2→Below R0 w w2:=fun {w2} hmv=>⟨hmv.os.trans hbl.os,hmv.tape.trans hbl.tape,hmv.output.trans hbl.output,yaw hbl.size hmv.size,fun b hb=>(hmv.block b (by omega) fun e=>by
  rcases e with (e|e|e)|e
  ·omega
  ·omega
  ·omega
  ·have:=(hlt b e).1;omega).trans (hbl.block b hb)⟩
 by_cases hkn:k<nn
 ·obtain ⟨a,ha⟩: ∃a:Nat,4096+16*aP=a:=⟨(4096+16*aP).toNat,(ybz (by omega)).symm⟩;have hin:a+16≤N:=by omega
  rw [show nn-k=(nn-(k+1))+1 by omega] at hrec;unfold fD at hrec;simp only [ha,ya0] at hrec;have bA:=mD g hg a 8;have bL:=mD g hg (a+8) 4;have bI:=mD g hg (a+12) 2;have bF:=mD g hg (a+14) 2;have hpg:=OA (n:=r.n) (a:=aP) (c:=1) (x:=qH) o8 ⟨by decide,by omega⟩;obtain ⟨we,RY⟩: ∃we,we=(gT N g (ax g a 8) (ax g (a+8) 4)).2:=⟨_,rfl⟩;rw [←RY] at hrec;obtain ⟨ρ,D⟩:=I7 (P:=P) (n:=r.n) (d:=r.d) (v:=r.v) (c:=r.c) (i:=aP) (ct:=k) (id:=id) (A:=ax g a 8) (Ln:=ax g (a+8) 4) (Id:=ax g (a+12) 2) (F:=ax g (a+14) 2) (nx:=(aZ r.n aP qH 1).1) (e:=we) (tb:=tb) (wr:=qH) (iX:=(aZ r.n aP qH 1).2) (sv:=v) ⟨n1,n2⟩ hd hv hc ⟨by omega,by omega⟩ ⟨by omega,by omega⟩ hid bA bL bI bF ⟨by omega,by omega⟩;have tK:(SB.cmp .lss (ah 5) (aF 0)).den ρ=true:=by rw [fF,D.lH,D.dn];exact yaG (by omega)
  have CK: ∀ {m:Nat} {x y:Int},(kg m).den ρ=x%2*y→y≠0→(SB.cmp .neq (kg m) (.lit 0)).den ρ=decide (x%2=1):=fun {m x y} h hy=>by
   rw [mY,h,aC];by_cases h:x%2=1
   ·rw [h,Int.one_mul,yaG rfl];exact ydU.2 hy
   ·rw [show x%2=0 by omega,Int.zero_mul];rfl
  have t2:=CK (m:=2) (x:=ax g (a+14) 2/4) (y:=4) D.Qk (by decide);have t0:=CK (m:=0) (x:=ax g (a+14) 2) (y:=1) (by rw [D.Qj,Int.mul_one]) (by decide);have Tv:(SB.cmp .eql (kg 0) (.lit 0)).den ρ=decide (ax g (a+14) 2%2=0):=by
   rw [iI,D.Qj,aC];by_cases h:ax g (a+14) 2%2=0
   ·rw [h];rfl
   ·rw [yar h];exact yaH.2 h
  have hwk:=Ec k (by omega);have Mg:(SB.cmp .gtr (.bin .add .i64 (ah 5) (.lit 1)) (.lit 1)).den ρ=decide ((1:Int)<k+1):=by
   rw [gZ,den_add,D.lH,aC,hwk];exact ycn.2 (by push_cast;omega)
  have hG:(kJ P L Bs B N g (R0+3) w1.heap.size v l a (gT N g (ax g a 8) (ax g (a+8) 4)).1 4 8 6).G 0 (aT [(R0,0),(R0+1,0),(R0+2,0)]) w1:=OB st1 hown fun x hx=>by
   simp only [yad,yag,yaB] at hx;rcases hx with rfl|rfl|rfl
   all_goals
    refine ⟨by show _≠_;omega,by show _≠_;omega,by show _≠_;omega,by show _≠_;omega,fun e=> ?_⟩;have:=(hlt _ e).1;simp only at this;omega
  have lo:P<R0+3∧L<R0+3∧Bs<R0+3∧B<R0+3:=⟨by omega,by omega,by omega,by omega⟩;have E1: ∀ {K:Nat→Prop},jM prog ρ w1 K (kJ P L Bs B N g (R0+3) w1.heap.size v l a (gT N g (ax g a 8) (ax g (a+8) 4)).1 4 8 6) (rJ 4):=fun {K}=>Pf D ⟨o8.1,by omega⟩ hd.1 (by rw [hd4];exact ha) hN hin;have E2: ∀ {K:Nat→Prop},jM prog ρ w1 K (kJ P L Bs B N g (R0+3) w1.heap.size v l a (gT N g (ax g a 8) (ax g (a+8) 4)).1 4 8 6) (rH 4):=fun {K}=>Pg D hg;have E3: ∀ {K:Nat→Prop} {G:bg},jM prog ρ w1 K G vL:=fun {K G}=>zDo D ⟨n1,n2⟩ o8;by_cases hF:ax g (a+14) 2/4%2=1
  ·rw [yaj hF] at hrec;by_cases htb:tb=false
   ·refine ya3 (iF (ρ:=ρ) (K:=fun b=>(b=R0∨b=R0+1∨b=R0+2)∨v.ownBlock=some b) (g:=kJ P L Bs B N g (R0+3) w1.heap.size v l a (gT N g (ax g a 8) (ax g (a+8) 4)).1 4 8 6) (bl:= [(R0,0),(R0+1,0),(R0+2,0)]) mixed zxf zAa gP (iN D) hap hG
     ⟨E1,E2,E3,trivial⟩ trivial trivial q0 qd (slots D) (aH.2 ⟨tK,aH.2 ⟨t2.trans (yaG hF),aH.2 ⟨by rw [bR,D.yY];exact htb,aR.2 trivial⟩⟩⟩)) fun ex a2 w2 hh=> ?_
    obtain ⟨q,hq,hto,lf,hlf,rfl,hsz2,j2,fA,he⟩:=hh;unfold zsy at hq;simp only [yad,yag,yaB] at hq;subst hq;cases hlf;have hs2:=fV he.ret;have jZ:=he.sub _ _ hj3;have nZ:=bE jZ;have j4:=(qI he.rows (yam _ (yam _ (yav ..))) _ jZ).2 (.inr (.inl (.inr (.inr rfl)))) rfl;have hb2:=below he.mv;obtain ⟨Fs,_,_,⟨hu,_⟩,_⟩:=he.eY;simp only [AV.aI,AV.val,aC,nZ,yaJ,yaZ,yaM,yaN] at hs2;simp only [AV.aI,AV.val,den_add,aC,D.wT,D.lH,D.qX,hwk] at j4;rw [yaj (.inl htb)] at hrec;exact done fA hs2.1 hs2.2 j4 (by rw [←hrec]) (by rw [←hrec];push_cast;rfl) (by rw [←hrec]) (by rw [←hrec];exact hu.mono (by omega)) hb2
   ·have Ld:tb=true:=by simpa using htb
    by_cases hc1:(1:Int)<k+1
    ·refine ya3 (iF (ρ:=ρ) (K:=fun b=>(b=R0∨b=R0+1∨b=R0+2)∨v.ownBlock=some b) (g:=kJ P L Bs B N g (R0+3) w1.heap.size v l a (gT N g (ax g a 8) (ax g (a+8) 4)).1 4 8 6) (bl:= [(R0,0),(R0+1,0),(R0+2,0)]) mixed zxd zz9 gP (iN D) hap hG
      ⟨E1,E2,E3,trivial⟩ trivial trivial q0 qd (slots D) (aH.2 ⟨tK,aH.2 ⟨t2.trans (yaG hF),aH.2 ⟨by rw [bR,D.yY];exact Ld,aH.2 ⟨Mg.trans (yaG hc1),aR.2 trivial⟩⟩⟩⟩)) fun ex a2 w2 hh=> ?_
     obtain ⟨q,hq,hto,lf,hlf,rfl,hsz2,j2,fA,he⟩:=hh;unfold zsw at hq;simp only [yad,yag,yaB] at hq;subst hq;cases hlf;have hs2:=fV he.ret;have jZ:=he.sub _ _ hj3;have nZ:=bE jZ;have j4:=(qI he.rows (yam _ (yam _ (yav ..))) _ jZ).2 (.inr (.inl (.inr (.inr rfl)))) rfl;have hb2:=below he.mv;obtain ⟨Fs,_,_,⟨hu,_⟩,_⟩:=he.eY;simp only [AV.aI,AV.val,aC,nZ,yaJ,yaZ,yaM,yaN] at hs2;simp only [AV.aI,AV.val,den_add,aC,D.wT,D.lH,D.qX,hwk] at j4;rw [yaj (.inr (.inl hc1))] at hrec;exact done fA hs2.1 hs2.2 j4 (by rw [←hrec]) (by rw [←hrec];push_cast;rfl) (by rw [←hrec]) (by rw [←hrec];exact hu.mono (by omega)) hb2
    ·by_cases hf0:ax g (a+14) 2%2=1
     ·refine ya3 (iF (ρ:=ρ) (K:=fun b=>(b=R0∨b=R0+1∨b=R0+2)∨v.ownBlock=some b) (g:=kJ P L Bs B N g (R0+3) w1.heap.size v l a (gT N g (ax g a 8) (ax g (a+8) 4)).1 4 8 6) (bl:= [(R0,0),(R0+1,0),(R0+2,0)]) mixed zxb zz8 gP (iN D) hap hG
       ⟨E1,E2,E3,trivial⟩ trivial trivial q0 qd (slots D) (aH.2 ⟨tK,aH.2 ⟨t2.trans (yaG hF),aH.2 ⟨by rw [bR,D.yY];exact Ld,aH.2 ⟨Mg.trans (yar hc1),aH.2 ⟨t0.trans (yaG hf0),aR.2 trivial⟩⟩⟩⟩⟩)) fun ex a2 w2 hh=> ?_
      obtain ⟨q,hq,hto,lf,hlf,rfl,hsz2,j2,fA,he⟩:=hh;unfold zsu at hq;simp only [yad,yag,yaB] at hq;subst hq;cases hlf;have hs2:=fV he.ret;have jZ:=he.sub _ _ hj3;have nZ:=bE jZ;have j4:=(qI he.rows (yam _ (yam _ (yav ..))) _ jZ).2 (.inr (.inl (.inr (.inr rfl)))) rfl;have hb2:=below he.mv;obtain ⟨Fs,_,_,⟨hu,_⟩,_⟩:=he.eY;simp only [AV.aI,AV.val,aC,nZ,yaJ,yaZ,yaM,yaN] at hs2;simp only [AV.aI,AV.val,den_add,aC,D.wT,D.lH,D.qX,hwk] at j4;rw [yaj (.inr (.inr hf0))] at hrec;exact done fA hs2.1 hs2.2 j4 (by rw [←hrec]) (by rw [←hrec];push_cast;rfl) (by rw [←hrec]) (by rw [←hrec];exact hu.mono (by omega)) hb2
     ·refine ya3 (iF (ρ:=ρ) (K:=fun b=>(b=R0∨b=R0+1∨b=R0+2)∨v.ownBlock=some b) (g:=kJ P L Bs B N g (R0+3) w1.heap.size v l a (gT N g (ax g a 8) (ax g (a+8) 4)).1 4 8 6) (bl:= [(R0,0),(R0+1,0),(R0+2,0)]) mixed zz6 zDe gP (iN D) hap hG
       ⟨E1,E2,E3,zCT (by rw [←RY];exact D) hN hN1 bA bL rfl xH,trivial⟩ trivial trivial q0 qd (slots D) (aH.2 ⟨tK,aH.2 ⟨t2.trans (yaG hF),aH.2 ⟨by rw [bR,D.yY];exact Ld,aH.2 ⟨Mg.trans (yar hc1),aH.2 ⟨t0.trans (yar hf0),aR.2 trivial⟩⟩⟩⟩⟩)) fun ex a2 w2 hh=> ?_
      obtain ⟨q,hq,hto,lf,hlf,rfl,hsz2,j2,fA,he⟩:=hh;unfold zw9 at hq;simp only [yad,yag,yaB] at hq;subst hq;cases hlf;have hs2:=fV he.ret;have jZ:=he.sub _ _ hj3;have nZ:=bE jZ;have j4:=(qI he.rows (yam _ (yam _ (yav ..))) _ jZ).2 (.inr (.inl (.inr (.inr rfl)))) rfl;have hb2:=below he.mv;obtain ⟨Fs,_,_,u,BR,⟨hu,_⟩,_⟩:=he.eY;have e6:(dZ j2 6).q.getD undef=u:=uj (ρ:=ρ) BR;simp only [AV.aI,AV.val,gV,D.de,nZ,yaJ,yaZ,yaM,yaN] at hs2;simp only [AV.aI,AV.val,den_add,aC,D.wT,D.lH,e6,hwk] at j4;rw [yai (by rintro (h|h|h);exact htb h;exact hc1 h;exact hf0 h)] at hrec;exact done fA hs2.1 hs2.2 j4 (by rw [←hrec]) (by rw [←hrec];push_cast;rfl) (by rw [←hrec]) (by rw [←hrec];exact hu.mono (by omega)) hb2
  ·rw [yai hF] at hrec;by_cases hf0:ax g (a+14) 2%2=0
   ·rw [yaj hf0] at hrec;refine ya3 (iF (ρ:=ρ) (K:=fun b=>(b=R0∨b=R0+1∨b=R0+2)∨v.ownBlock=some b) (g:=kJ P L Bs B N g (R0+3) w1.heap.size v l a (gT N g (ax g a 8) (ax g (a+8) 4)).1 4 8 6) (bl:= [(R0,0),(R0+1,0),(R0+2,0)]) mixed zDh zE7 gP (iN D) hap hG
     ⟨E1,E2,E3,trivial⟩ trivial ⟨Oz D lo rfl xH (fun b hb=> .inr hb) (by omega),trivial⟩ q0 qd (slots D) (aH.2 ⟨tK,aH.2 ⟨t2.trans (yar hF),aH.2 ⟨Tv.trans (yaG hf0),aR.2 trivial⟩⟩⟩)) fun ex a2 w2 hh=> ?_
    obtain ⟨q,hq,hto,lf,hlf,rfl,hsz2,j2,fA,he⟩:=hh;unfold Un at hq;simp only [yad,yag,yaB] at hq;subst hq;cases hlf;have hs2:=fV he.ret;have jZ:=he.sub _ _ hj3;have nZ:=bE jZ;have j4:=(qI he.rows (yam _ (yam _ (yav ..))) _ jZ).2 (.inr (.inl (.inr (.inr rfl)))) rfl;have hb2:=below he.mv;obtain ⟨Fs,_,_,u,hq8,⟨hu,_⟩,_⟩:=he.eY;have e8:(dZ j2 8).q.getD undef=u:=uj (ρ:=ρ) hq8;simp only [AV.aI,AV.val,aC,nZ,yaJ,yaZ,yaM,yaN] at hs2;simp only [AV.aI,AV.val,den_add,aC,D.wT,D.lH,e8,hwk] at j4;exact done fA hs2.1 hs2.2 j4 (by rw [←hrec]) (by rw [←hrec];push_cast;rfl) (by rw [←hrec]) (by rw [←hrec];exact hu.mono (by omega)) hb2
   ·rw [yai hf0] at hrec;refine ya3 (iF (ρ:=ρ) (K:=fun b=>(b=R0∨b=R0+1∨b=R0+2)∨v.ownBlock=some b) (g:=kJ P L Bs B N g (R0+3) w1.heap.size v l a (gT N g (ax g a 8) (ax g (a+8) 4)).1 4 8 6) (bl:= [(R0,0),(R0+1,0),(R0+2,0)]) mixed zDf zE6 gP (iN D) hap hG
     ⟨E1,E2,E3,trivial⟩ trivial ⟨Oz D lo rfl xH (fun b hb=> .inr hb) (by omega),trivial⟩ q0 qd (slots D) (aH.2 ⟨tK,aH.2 ⟨t2.trans (yar hF),aH.2 ⟨Tv.trans (yar hf0),aR.2 trivial⟩⟩⟩)) fun ex a2 w2 hh=> ?_
    obtain ⟨q,hq,hto,lf,hlf,rfl,hsz2,j2,fA,he⟩:=hh;unfold Ul at hq;simp only [yad,yag,yaB] at hq;subst hq;cases hlf;have hs2:=fV he.ret;have jZ:=he.sub _ _ hj3;have nZ:=bE jZ;have j4:=(qI he.rows (yam _ (yam _ (yav ..))) _ jZ).2 (.inr (.inl (.inr (.inr rfl)))) rfl;have hb2:=below he.mv;obtain ⟨Fs,_,_,u,hq8,⟨hu,_⟩,_⟩:=he.eY;have e8:(dZ j2 8).q.getD undef=u:=uj (ρ:=ρ) hq8;have aV:=he.sub _ _ hj1;have aY:=he.sub _ _ hj2;have dN:=bE aV;have dR:=bE aY;have Sm:=(qI he.rows (yav ..) _ aV).2 (.inr (.inl (.inl rfl))) rfl;have Sl:=(qI he.rows (yam _ (yav ..)) _ aY).2 (.inr (.inl (.inr (.inl rfl)))) rfl;simp only [AV.aI,AV.val,aC,bR,D.dp,D.yY,dN,dR,nZ] at hs2;simp only [AV.aI,AV.val,den_add,aC,D.wT,D.lH,e8,hwk] at j4;simp only [AV.aI,AV.val,jd,D.dn,D.dd,D.dv,D.dc] at Sm;simp only [AV.aI,AV.val,bR,D.Qo,D.Qn] at Sl;refine ⟨(k+1,(aZ r.n aP qH 1).1,(aZ r.n aP qH 1).2,l++ [jv g a],u,ax g (a+12) 2),by simp only;omega,hkn,hsz2,fA,hs2,Sm,Sl,j4,hu,hb2,yaw xH he.mv.size,by simp [hlen],hpg,bI,?_⟩;rw [←hrec];show fD N g r.n tb (nn-(k+1)) (aZ r.n aP qH 1).1 ((k+1:Nat):Int) (l++ [jv g a]) (ax g (a+12) 2)=_;rw [zw0 r.n aP qH true 1];push_cast;rfl
 ·have hkk:k=nn:=by omega
  have hG0:(kJ P L Bs B N g (R0+3) w1.heap.size v l 0 [] 4 8 6).G 0 (aT [(R0,0),(R0+1,0),(R0+2,0)]) w1:=OB st1 hown fun x hx=>by
   simp only [yad,yag,yaB] at hx;rcases hx with rfl|rfl|rfl
   all_goals
    refine ⟨by show _≠_;omega,by show _≠_;omega,by show _≠_;omega,by show _≠_;omega,fun e=> ?_⟩;have:=(hlt _ e).1;simp only at this;omega
  obtain ⟨ρ,D⟩:=I7 (P:=P) (n:=r.n) (d:=r.d) (v:=r.v) (c:=r.c) (i:=aP) (ct:=k) (id:=id) (A:=0) (Ln:=0) (Id:=0) (F:=0) (nx:=0) (e:=0) (tb:=tb) (wr:=qH) (iX:=false) (sv:=v) ⟨n1,n2⟩ hd hv hc ⟨by omega,by omega⟩ ⟨by omega,by omega⟩ hid ⟨by decide,by decide⟩ ⟨by decide,by decide⟩ ⟨by decide,by decide⟩ ⟨by decide,by decide⟩ ⟨by decide,by decide⟩;refine ya3 (iF (ρ:=ρ) (K:=fun b=>(b=R0∨b=R0+1∨b=R0+2)∨v.ownBlock=some b) (g:=kJ P L Bs B N g (R0+3) w1.heap.size v l 0 [] 4 8 6) (bl:= [(R0,0),(R0+1,0),(R0+2,0)]) mixed zDj zE8 gP (iN D) hap hG0 trivial trivial trivial q0 qd (slots D) (aH.2 ⟨by rw [fF,D.lH,D.dn];exact yar (by omega),aR.2 trivial⟩)) fun ex a2 w2 hh=> ?_;obtain ⟨q,hq,hto,lf,hlf,rfl,hsz2,j2,fA,he⟩:=hh;have hb2:=below he.mv;have jZ:=he.sub _ _ hj3;have nZ:=bE jZ;unfold Uq at hq;simp only [yad,yag,yaB] at hq;subst hq;cases hlf;have j4:=(qI he.rows (yam _ (yam _ (yav ..))) _ jZ).2 (.inr (.inl (.inr (.inr rfl)))) rfl;have hs2:=fV he.ret;simp only [AV.aI,AV.val,aC,nZ,yaJ,yaZ,yaM,yaN] at hs2;simp only [AV.aI,AV.val,D.did,D.lH,D.qX] at j4;obtain ⟨Fs,_,_,⟨hown2,_⟩⟩:=he.eY;show K a2 w2;refine hK _ _ ?_;refine jy (c':=bJ prog [1,1,155]) (by kernel_rfl) ?_;have hi1:aT [(R0+2,0)] 1=some ⟨R0+2,0,0,none⟩:=rfl;have acg:=he.mv.size;refine ya3 (iF (ρ:=ρ) (K:=fun b=>b=R0+2) (g:=bg.none) (bl:= [(R0+2,0)]) mixed zDc zE5 (fun b hb=>by omega) ⟨fe j4 (af (ai D.did) (af (ai D.lH) (af (gY D.qX hone) RL.nil))) rfl,trivial⟩ (vR (by simp)) fo trivial trivial trivial hsz2 fA (fun t ht=>by
   simp only [Hr,yad,yag,yaB] at ht;rcases ht with rfl|rfl
   ·rw [hs2.2.2.2.2.1];exact ⟨_,hi1,rfl⟩
   ·rw [hs2.2.2.2.2.2];exact ai rfl) (aR.2 trivial)) fun ex a3 w3 hh=> ?_
  obtain ⟨q,hq,hto,lf,hlf,rfl,ach,j3,E9,sU⟩:=hh;unfold Uj at hq;simp only [yad,yag,yaB] at hq;subst hq;cases hlf;have hs3:=fV sU.ret;have Ri:=sU.sub _ _ hi1;have dN:=bE Ri;have Sn:=(qI sU.rows (yav ..) _ Ri).2 (.inr rfl) rfl;simp only [AV.aI,AV.val,aC,dN,yaJ,yaZ,yaM,yaN] at hs3;simp only [AV.aI,AV.val,D.did,D.lH,D.qX] at Sn;rw [hkk,yb8] at hrec;unfold fD at hrec;refine done E9 hs3.1 hs3.2 Sn (by rw [←hrec]) (by rw [←hrec,hkk]) (by rw [←hrec]) ?_ ?_
  ·rw [←hrec];exact (hown2.kept fun b hb=>sU.mv.block b (hown2.lt b hb).2.1 fun e=>by have:=(hlt b hb).1;omega).mono (by omega)
  ·exact ⟨sU.mv.os.trans hb2.os,sU.mv.tape.trans hb2.tape,sU.mv.output.trans hb2.output,yaw hb2.size sU.mv.size,fun b hb=>(sU.mv.block b (by omega) fun e=>by omega).trans (hb2.block b hb)⟩
end Go.Proofs
namespace Go.Proofs
open Go.Dw Go.RowKit
def Tryz.zEZ:aG:=⟨75,[oh],0,0,0,.int .i64 (.lit 0),0⟩
def Tryz.zFM:aG:=⟨153,[.cst 0 none,oh,.bool (.lit true)],0,0,0,.int .i64 (.lit 0),0⟩
def Tryz.abt:aG:=⟨154,[.agg [.int .i64 (ah 4),.bool (.var 2)],.int .i64 (aF 0)],0,0,0,.int .i64 (.lit 0),0⟩
def Tryz.abr:aG:=⟨155,[.cst 0 none,oh,.agg [.int .i64 (ah 4),.bool (.var 2)],.bool (.var 1)],0,4,1,.ay [.agg [.int .i64 (aK 13),.int .i64 (ah 14),.opq 4 none],.int .i64 (.var 17)],1⟩
def Tryz.abp:aG:=⟨156,[.cst 0 none,.opq 4 none],1,6,1,.ay [.opq 6 none,.int .i64 (.var 18)],2⟩
end Go.Proofs
namespace Go.Proofs
open Go.Dw
def Tryz.zor:List aG:= []
def Tryz.zsE:List Sh:= []
def Tryz.zos:List AV:= [oh]
def Tryz.zAe:List (SB×Bool):= [((.cmp .neq (.aQ [⟨1,0,18446744073709551615,0,4,0⟩] 0) (.lit 0)),false),((.cmp .gtr (.bin .sub .u64 (.bin .mul .u64 (.lit 16) (aF 0)) (.lit 1)) (.bin .sub .u64 (.lit 18446744073709551615) (aj 1))),false),((.cmp .neq (.aQ [⟨2,0,18446744073709551615,0,2,0⟩] 0) (.lit 0)),false),((.cmp .gtr (.lit 3) (.bin .sub .u64 (.lit 18446744073709551615) (aj 2))),false),((.cmp .leq (aj 2) (aj 1)),false),((.cmp .lss (.bin .sub .u64 (aj 2) (aj 1)) (.bin .mul .u64 (.lit 16) (aF 0))),false),((.cmp .neq (.aQ [⟨3,0,18446744073709551615,0,2,0⟩] 0) (.lit 0)),false),((.cmp .gtr (.lit 3) (.bin .sub .u64 (.lit 18446744073709551615) (aj 3))),false),((.cmp .leq (aj 3) (aj 1)),false),((.cmp .lss (.bin .sub .u64 (aj 3) (aj 1)) (.bin .mul .u64 (.lit 16) (aF 0))),false),((.cmp .leq (aj 3) (aj 2)),false),((.cmp .lss (.bin .sub .u64 (aj 3) (aj 2)) (.lit 4)),false)]
def Tryz.zxs:List Leaf:= [
 ⟨.int .i64 (.lit 0),[],[],0,[]⟩]
def Tryz.zDq:List (List (SB×Bool)×Nat):= [
 ([], 0)]
theorem Tryz.zAd:(ev prog (bB zor) 100000 (.call 75 zos (bn 0 zsE) (cK zxs 0))).ways zAe=some zDq:=by kernel_rfl
theorem Tryz.zDr:(bD zsE&&zag zor&&AV.bK zos&&dh zxs)=true:=by kernel_rfl
def Tryz.Yp:List aG:= []
def Tryz.znI:List Sh:= []
def Tryz.Yq:List AV:= [oh]
def Tryz.zwJ:List (SB×Bool):= [((.cmp .neq (.aQ [⟨1,0,18446744073709551615,0,4,0⟩] 0) (.lit 0)),false),((.cmp .lss (.bin .add .u64 (aj 1) (.bin .sub .u64 (.bin .mul .u64 (.lit 16) (aF 0)) (.lit 1))) (aj 1)),false),((.cmp .neq (.aQ [⟨2,0,18446744073709551615,0,2,0⟩] 0) (.lit 0)),false),((.cmp .lss (.bin .add .u64 (aj 2) (.lit 3)) (aj 2)),false),((.cmp .leq (aj 2) (aj 1)),false),((.cmp .lss (.bin .sub .u64 (aj 2) (aj 1)) (.bin .mul .u64 (.lit 16) (aF 0))),false),((.cmp .neq (.aQ [⟨3,0,18446744073709551615,0,2,0⟩] 0) (.lit 0)),false),((.cmp .lss (.bin .add .u64 (aj 3) (.lit 3)) (aj 3)),false),((.cmp .leq (aj 3) (aj 1)),false),((.cmp .lss (.bin .sub .u64 (aj 3) (aj 1)) (.bin .mul .u64 (.lit 16) (aF 0))),false),((.cmp .leq (aj 3) (aj 2)),false),((.cmp .lss (.bin .sub .u64 (aj 3) (aj 2)) (.lit 4)),false)]
def Tryz.zsc:List Leaf:= [
 ⟨.int .i64 (.lit 0),[],[],0,[]⟩]
def Tryz.zzQ:List (List (SB×Bool)×Nat):= [
 ([], 0)]
theorem Tryz.zwI:(ev prog (bB Yp) 100000 (.call 71 Yq (bn 0 znI) (cK zsc 0))).ways zwJ=some zzQ:=by kernel_rfl
theorem Tryz.zzR:(bD znI&&zag Yp&&AV.bK Yq&&dh zsc)=true:=by kernel_rfl
def Tryz.znG:List aG:= [Te,zEZ]
def Tryz.zsb:List Sh:= []
def Tryz.znH:List AV:= [.cst 0 none,oh,.bool (.lit true)]
def Tryz.zzP:List (SB×Bool):= []
def Tryz.zwH:List Leaf:= [
 ⟨.int .i64 (.lit 0),[],[],0,[]⟩]
def Tryz.zC5:List (List (SB×Bool)×Nat):= [
 ([], 0)]
theorem Tryz.zzO:(ev prog (bB znG) 100000 (.call 153 znH (bn 0 zsb) (cK zwH 0))).ways zzP=some zC5:=by kernel_rfl
theorem Tryz.zC6:(bD zsb&&zag znG&&AV.bK znH&&dh zwH)=true:=by kernel_rfl
def Tryz.zsG:List aG:= [zFM,abt,abr,abp]
def Tryz.zxw:List Sh:= []
def Tryz.zsH:List AV:= [.cst 0 none,oh,.agg [.int .i64 (ah 4),.bool (.var 2)],.bool (.var 1)]
def Tryz.zDt:List (SB×Bool):= []
def Tryz.Ut:List Leaf:= [
 ⟨.ay [.agg [.int .i64 (.lit 0),.int .i64 (.lit 0),.cO],.int .i64 (.lit 4)],[],[],1,[]⟩,
 ⟨.ay [.agg [.int .i64 (.lit 0),.int .i64 (.lit 0),.cO],.int .i64 (.var 18)],[],[],2,[]⟩,
 ⟨.ay [.agg [.int .i64 (aK 13),.int .i64 (ah 14),.opq 6 none],.int .i64 (.lit 0)],[],[],2,[]⟩,
 ⟨.ay [.agg [.int .i64 (.lit 0),.int .i64 (.lit 0),.cO],.int .i64 (.var 17)],[],[],1,[]⟩]
def Tryz.Us:List (List (SB×Bool)×Nat):= [
 ([((.cmp .eql (.var 17) (.lit 0)),true),((.cmp .geq (aK 13) (aF 0)),true)],0),
 ([((.cmp .eql (.var 17) (.lit 0)),true),((.cmp .geq (aK 13) (aF 0)),false),((.cmp .neq (.var 18) (.lit 0)),true)],1),
 ([((.cmp .eql (.var 17) (.lit 0)),true),((.cmp .geq (aK 13) (aF 0)),false),((.cmp .neq (.var 18) (.lit 0)),false)],2),
 ([((.cmp .eql (.var 17) (.lit 0)),false)],3)]
theorem Tryz.zDs:(ev prog (bB zsG) 100000 (.call 122 zsH (bn 0 zxw) (cK Ut 0))).ways zDt=some Us:=by kernel_rfl
theorem Tryz.zFa:(bD zxw&&zag zsG&&AV.bK zsH&&dh Ut)=true:=by kernel_rfl
def Tryz.zr6:List aG:= []
def Tryz.zwC:List Sh:= []
def Tryz.zr7:List AV:= [.agg [.int .i64 (ah 4),.bool (.var 2)],.int .i64 (aF 0)]
def Tryz.zC2:List (SB×Bool):= [(.cmp .geq (ah 4) (aF 0),false)]
def Tryz.Ui:List Leaf:= [
 ⟨.int .i64 (.lit 0),[],[],0,[]⟩]
def Tryz.zEW:List (List (SB×Bool)×Nat):= [
 ([], 0)]
theorem Tryz.zC1:(ev prog (bB zr6) 100000 (.call 154 zr7 (bn 0 zwC) (cK Ui 0))).ways zC2=some zEW:=by kernel_rfl
theorem Tryz.zEX:(bD zwC&&zag zr6&&AV.bK zr7&&dh Ui)=true:=by kernel_rfl
open Go.RowKit
theorem Tryz.Yk {r:Rg} (h:jG r) (w:World):Calls prog 75 #[r.gJ] w fun e w'=>e= .returned (.int .i64 0)∧Below w.heap.size w w':=by
 obtain ⟨⟨n1,n2⟩,hd,hv,hc⟩:=h.nums;have hb:=h.bnd;have e1:=h.d;have e2:=h.v;have e3:=h.c;have d0:(aF 0).den (cB [r.n,r.d,r.v,r.c] [] [])=r.n:=uf n1 n2;have d1:(aj 1).den (cB [r.n,r.d,r.v,r.c] [] [])=r.d:=fM hd.1 hd.2;have d2:(aj 2).den (cB [r.n,r.d,r.v,r.c] [] [])=r.v:=fM hv.1 hv.2;have d3:(aj 3).den (cB [r.n,r.d,r.v,r.c] [] [])=r.c:=fM hc.1 hc.2;have q1:SE.den (cB [r.n,r.d,r.v,r.c] [] []) (.aQ [⟨1,0,18446744073709551615,0,4,0⟩] 0)=r.d%16:=Aj (n:=4) hd.1 hd.2;have q2:SE.den (cB [r.n,r.d,r.v,r.c] [] []) (.aQ [⟨2,0,18446744073709551615,0,2,0⟩] 0)=r.v%4:=Aj (n:=2) hv.1 hv.2;have q3:SE.den (cB [r.n,r.d,r.v,r.c] [] []) (.aQ [⟨3,0,18446744073709551615,0,2,0⟩] 0)=r.c%4:=Aj (n:=2) hc.1 hc.2;have m1:IntKind.wrap .u64 (16*r.n)=16*r.n:=cZ (by omega) (by omega);generalize cB [r.n,r.d,r.v,r.c] [] []=ρ at d0 d1 d2 d3 q1 q2 q3;refine yaq (zap (ρ:=ρ) (K:=fun _=>False) (g:=bg.none) (bl:= []) (vals:= [r.gJ]) mixed zAd zDr (fun b h=>h.elim) trivial trivial fo trivial (af (dO (af (aU rfl) (af (ai d0) (af (ai d1) (af (ai d2) (af (ai d3) RL.nil)))))) RL.nil)
  (aH.2 ⟨by rw [mY,q1,aC];exact yby.2 (by omega),aH.2 ⟨by rw [gZ,iG,iG,den_mul,aC,aC,aC,d0,d1,m1,cZ (by omega) (by omega),cZ (by omega) (by omega)];exact yar (by omega),aH.2 ⟨by rw [mY,q2,aC];exact yby.2 (by omega),aH.2 ⟨by rw [gZ,iG,aC,aC,d2,cZ (by omega) (by omega)];exact yar (by omega),aH.2 ⟨by rw [wF,d2,d1];exact yar (by omega),aH.2 ⟨by rw [fF,iG,den_mul,aC,d0,d1,d2,m1,cZ (by omega) (by omega)];exact yar (by omega),aH.2 ⟨by rw [mY,q3,aC];exact yby.2 (by omega),aH.2 ⟨by rw [gZ,iG,aC,aC,d3,cZ (by omega) (by omega)];exact yar (by omega),aH.2 ⟨by rw [wF,d3,d1];exact yar (by omega),aH.2 ⟨by rw [fF,iG,den_mul,aC,d0,d1,d3,m1,cZ (by omega) (by omega)];exact yar (by omega),aH.2 ⟨by rw [wF,d3,d2];exact yar (by omega),aH.2 ⟨by rw [fF,iG,aC,d3,d2,cZ (by omega) (by omega)];exact yar (by omega),aR.2 trivial⟩⟩⟩⟩⟩⟩⟩⟩⟩⟩⟩⟩)) fun e w' hh=> ?_
 obtain ⟨_,j,he⟩:=mE hh;exact ⟨he.ret,gF he (fun _ h=>h)⟩
theorem Tryz.XB {r:Rg} (h:jG r) (w:World):Calls prog 71 #[r.gJ] w fun e w'=>e= .returned (.int .i64 0)∧Below w.heap.size w w':=by
 obtain ⟨⟨n1,n2⟩,hd,hv,hc⟩:=h.nums;have hb:=h.bnd;have e1:=h.d;have e2:=h.v;have e3:=h.c;have d0:(aF 0).den (cB [r.n,r.d,r.v,r.c] [] [])=r.n:=uf n1 n2;have d1:(aj 1).den (cB [r.n,r.d,r.v,r.c] [] [])=r.d:=fM hd.1 hd.2;have d2:(aj 2).den (cB [r.n,r.d,r.v,r.c] [] [])=r.v:=fM hv.1 hv.2;have d3:(aj 3).den (cB [r.n,r.d,r.v,r.c] [] [])=r.c:=fM hc.1 hc.2;have q1:SE.den (cB [r.n,r.d,r.v,r.c] [] []) (.aQ [⟨1,0,18446744073709551615,0,4,0⟩] 0)=r.d%16:=Aj (n:=4) hd.1 hd.2;have q2:SE.den (cB [r.n,r.d,r.v,r.c] [] []) (.aQ [⟨2,0,18446744073709551615,0,2,0⟩] 0)=r.v%4:=Aj (n:=2) hv.1 hv.2;have q3:SE.den (cB [r.n,r.d,r.v,r.c] [] []) (.aQ [⟨3,0,18446744073709551615,0,2,0⟩] 0)=r.c%4:=Aj (n:=2) hc.1 hc.2;have m1:IntKind.wrap .u64 (16*r.n)=16*r.n:=cZ (by omega) (by omega);generalize cB [r.n,r.d,r.v,r.c] [] []=ρ at d0 d1 d2 d3 q1 q2 q3;refine yaq (zap (ρ:=ρ) (K:=fun _=>False) (g:=bg.none) (bl:= []) (vals:= [r.gJ]) mixed zwI zzR (fun b h=>h.elim) trivial trivial fo trivial (af (dO (af (aU rfl) (af (ai d0) (af (ai d1) (af (ai d2) (af (ai d3) RL.nil)))))) RL.nil)
  (aH.2 ⟨by rw [mY,q1,aC];exact yby.2 (by omega),aH.2 ⟨by rw [fF,den_add,iG,den_mul,aC,aC,d0,d1,m1,cZ (k:=16*r.n-1) (by omega) (by omega),cZ (by omega) (by omega)];exact yar (by omega),aH.2 ⟨by rw [mY,q2,aC];exact yby.2 (by omega),aH.2 ⟨by rw [fF,den_add,aC,d2,cZ (by omega) (by omega)];exact yar (by omega),aH.2 ⟨by rw [wF,d2,d1];exact yar (by omega),aH.2 ⟨by rw [fF,iG,den_mul,aC,d0,d1,d2,m1,cZ (by omega) (by omega)];exact yar (by omega),aH.2 ⟨by rw [mY,q3,aC];exact yby.2 (by omega),aH.2 ⟨by rw [fF,den_add,aC,d3,cZ (by omega) (by omega)];exact yar (by omega),aH.2 ⟨by rw [wF,d3,d1];exact yar (by omega),aH.2 ⟨by rw [fF,iG,den_mul,aC,d0,d1,d3,m1,cZ (by omega) (by omega)];exact yar (by omega),aH.2 ⟨by rw [wF,d3,d2];exact yar (by omega),aH.2 ⟨by rw [fF,iG,aC,d3,d2,cZ (by omega) (by omega)];exact yar (by omega),aR.2 trivial⟩⟩⟩⟩⟩⟩⟩⟩⟩⟩⟩⟩)) fun e w' hh=> ?_
 obtain ⟨_,j,he⟩:=mE hh;exact ⟨he.ret,gF he (fun _ h=>h)⟩
theorem Tryz.zqf {P L Bs B N:Nat} {g:Nat→Int} {r:Rg} {w:World} (st:GM w P L Bs B N g) (hr:jG r):
  Calls prog 153 #[vp P,r.gJ,.bool true] w fun e w'=>e= .returned (.int .i64 0)∧Below w.heap.size w w':=by
 obtain ⟨⟨n1,n2⟩,hd,hv,hc⟩:=hr.nums;have d0:(aF 0).den (cB [r.n,r.d,r.v,r.c] [] [vp P])=r.n:=uf n1 n2;have d1:(aj 1).den (cB [r.n,r.d,r.v,r.c] [] [vp P])=r.d:=fM hd.1 hd.2;have d2:(aj 2).den (cB [r.n,r.d,r.v,r.c] [] [vp P])=r.v:=fM hv.1 hv.2;have d3:(aj 3).den (cB [r.n,r.d,r.v,r.c] [] [vp P])=r.c:=fM hc.1 hc.2;have dp:(cB [r.n,r.d,r.v,r.c] [] [vp P]).v 0=vp P:=rfl;generalize cB [r.n,r.d,r.v,r.c] [] [vp P]=ρ at d0 d1 d2 d3 dp;have hR: ∀j,Dw.R ρ j oh r.gJ:=fun j=>dO (af (aU rfl) (af (ai d0) (af (ai d1) (af (ai d2) (af (ai d3) RL.nil)))));refine yaq (zap (ρ:=ρ) (K:=fun _=>False) (g:=jQ P L Bs B N [g]) (bl:= []) (vals:= [vp P,r.gJ,.bool true]) mixed zzO zC6 (fun b h=>h.elim) trivial trivial
  (mW st fun b _ hm=>by obtain ⟨k,L',h1,_⟩:=hm;cases k<;>cases h1) ⟨zCK dp (fun w F q hf=>by obtain ⟨_,_,_,_,g',e,hm'⟩:=hf;cases e;exact hm'),?_,trivial⟩ (af (gY dp rfl) (af (hR _) (af (aU rfl) RL.nil))) (aR.2 trivial)) fun e w' hh=> ?_
 ·exact iQ (Dw.enters_of (by kernel_rfl)) (by rfl) [r.gJ] (.int .i64 0) (fun j=>af (hR j) RL.nil) (fun j=>ai rfl) fun w F q hf=>Yk hr w
 ·obtain ⟨_,j,he⟩:=mE hh;exact ⟨he.ret,gF he (fun _ h=>h)⟩
theorem Tryz.zy3 {n a:Int} {x:Bool} (hn:1≤n∧n≤32768) (ha:0≤a∧a<n) (w:World):
  Calls prog 154 #[bQ a x,.int .i64 n] w fun e w'=>e= .returned (.int .i64 0)∧Below w.heap.size w w':=by
 have d0:(aF 0).den (cB [n,0,0,0,a] [false,false,x] [])=n:=uf hn.1 hn.2;have d4:(ah 4).den (cB [n,0,0,0,a] [false,false,x] [])=a:=dK ha.1 (by show a<_;omega);have b2:(cB [n,0,0,0,a] [false,false,x] []).b 2=x:=rfl;generalize cB [n,0,0,0,a] [false,false,x] []=ρ at d0 d4 b2;refine yaq (zap (ρ:=ρ) (K:=fun _=>False) (g:=bg.none) (bl:= []) (vals:= [bQ a x,.int .i64 n]) mixed zC1 zEX (fun b h=>h.elim) trivial trivial fo trivial (af (dO (af (ai d4) (af (aU b2) RL.nil))) (af (ai d0) RL.nil)) (aH.2 ⟨by rw [je,d4,d0];exact yar (by omega),aR.2 trivial⟩)) fun e w' hh=> ?_;obtain ⟨_,j,he⟩:=mE hh;exact ⟨he.ret,gF he (fun _ h=>h)⟩
theorem Tryz.zs2 {g:Nat→Int} (hg: ∀j,0≤g j∧g j<256): ∀(k a:Nat) (l:List Sg),(∀x∈l,x.ok)→(∀x∈(lW g a k l).1,x.ok)∧(lW g a k l).1.length≤l.length+k
 | 0,a,l,h=>⟨h,yab _⟩
 | k+1,a,l,h=>by
  unfold lW;split
  ·exact ⟨fun x hx=>(by cases hx),yaE _⟩
  ·have:=zs2 hg k (a+16) (l++ [jv g a]) fun x hx=>by
    rcases yaR.1 hx with hx|hx
    ·exact h x hx
    ·rw [yaD] at hx;subst hx;exact O5 hg a
   exact ⟨this.1,by have:=this.2;simp at this;omega⟩
theorem Tryz.X3 {N:Nat} {g:Nat→Int} (hg: ∀j,0≤g j∧g j<256) {A n:Int} (hn:0≤n):(∀x∈(gT N g A n).1,x.ok)∧(gT N g A n).1.length≤64:=by
 unfold gT;split
 ·exact ⟨fun x hx=>(by cases hx),yaE _⟩
 ·have h:=zs2 hg (fq N A n).1.toNat A.toNat [] fun x hx=>(by cases hx);refine ⟨h.1,yaw h.2 ?_⟩;rcases ztb (N:=N) (A:=A) hn with ⟨_,_,h2,_⟩|⟨_,h2⟩
  ·simp;omega
  ·rw [h2];simp
theorem Tryz.N7 {N:Nat} {g:Nat→Int} (hg: ∀j,0≤g j∧g j<256) {n:Int} {tb:Bool}: ∀(k:Nat) (a ct:Int) (l:List Sg) (id:Int),(0≤id∧id<65536)→0≤ct→(∀x∈l,x.ok)→
  (0≤(fD N g n tb k a ct l id).id∧(fD N g n tb k a ct l id).id<65536)∧(0≤(fD N g n tb k a ct l id).ct∧(fD N g n tb k a ct l id).ct≤ct+k∧((fD N g n tb k a ct l id).e=0→ct+1≤(fD N g n tb k a ct l id).ct))∧(∀x∈(fD N g n tb k a ct l id).sg,x.ok)∧(fD N g n tb k a ct l id).sg.length≤l.length+k+64
 | 0,a,ct,l,id,h1,h2,h3=>by unfold fD;exact ⟨h1,⟨h2,by simp,fun h=>by cases h⟩,h3,by show l.length≤_;omega⟩
 | k+1,a,ct,l,id,h1,h2,h3=>by
  unfold fD;have bI:=mD g hg ((4096+16*a).toNat+12) 2;have bI:0≤ax g ((4096+16*a).toNat+12) 2∧ax g ((4096+16*a).toNat+12) 2<65536:=bI;have hs:=O5 hg (4096+16*a).toNat;have hw:=X3 (N:=N) hg (A:=ax g (4096+16*a).toNat 8) (n:=ax g ((4096+16*a).toNat+8) 4) (mD g hg _ 4).1;have hap: ∀x∈l++ [jv g (4096+16*a).toNat],x.ok:=fun x hx=>by
   rcases yaR.1 hx with hx|hx
   ·exact h3 x hx
   ·rw [yaD] at hx;subst hx;exact hs
  simp only;split
  ·split
   ·exact ⟨bI,⟨by show 0≤ct+1;omega,by show ct+1≤_;push_cast;omega,fun h=>by cases h⟩,h3,by show l.length≤_;omega⟩
   ·exact ⟨bI,⟨by show 0≤ct+1;omega,by show ct+1≤_;push_cast;omega,fun _=>ybW _⟩,hw.1,by have:=hw.2;show (gT N g _ _).1.length≤_;omega⟩
  ·split
   ·exact ⟨bI,⟨by show 0≤ct+1;omega,by show ct+1≤_;push_cast;omega,fun _=>ybW _⟩,hap,by show (l++ [_]).length≤_;simp;omega⟩
   ·obtain ⟨q1,⟨q2,q3,q4⟩,q5,q6⟩:=N7 hg (N:=N) (n:=n) (tb:=tb) k (aZ n a true 1).1 (ct+1) (l++ [jv g (4096+16*a).toNat]) (ax g ((4096+16*a).toNat+12) 2) bI (by omega) hap;exact ⟨q1,⟨q2,by push_cast;omega,fun h=>by have:=q4 h;omega⟩,q5,by simp at q6;omega⟩
def Tryz.SH (P L Bs B N:Nat) (g:Nat→Int) (b2:Nat) (l1 l2:List Sg):bg where
 fact k q F w:=(F P∧F L∧F Bs∧F B∧GM w P L Bs B N g)∧(match k with|0=>True|1=> ∃u,q 4=some u∧jH b2 u l1 F w|_=> ∃u,q 6=some u∧jH b2 u l2 F w)
 loc:=fun k q q' F w w' h hq hb hs=>by
  obtain ⟨⟨h1,h2,h3,h4,h5⟩,h6⟩:=h;refine ⟨⟨h1,h2,h3,h4,h5.kept (fun b _ hb'=>by rcases hb' with rfl|rfl|rfl|rfl<;>exact hb _ (by assumption)) hs⟩,?_⟩
  match k,h6 with
  | 0,_=>trivial
  | 1,⟨u,h7,h8⟩=>exact ⟨u,hq _ _ h7,jH.kept h8 hb⟩
  | k+2,⟨u,h7,h8⟩=>exact ⟨u,hq _ _ h7,jH.kept h8 hb⟩
set_option maxRecDepth 10000 in
theorem Tryz.zvn {w:World} {P L Bs B N:Nat} {g:Nat→Int} {r:Rg} {aD:Int} {wr tb:Bool} (st:GM w P L Bs B N g) (hN:N≤1048576) (hr:jG r) (hfit:4104+16*r.n≤N) (hat:0≤aD∧aD<r.n):
    Calls prog 122 #[vp P,r.gJ,bQ aD wr,.bool tb] w fun e w'=> ∃u,e= .returned (.tuple #[.agg #[.int .i64 (bZ N g r.n aD tb).id,.int .i64 (bZ N g r.n aD tb).ct,u],.int .i64 (bZ N g r.n aD tb).e])∧
      bG w' w.heap.size u (bZ N g r.n aD tb).sg∧Below w.heap.size w w':=by
  obtain ⟨⟨n1,n2⟩,hd,hv,hc⟩:=hr.nums;have hbn:=hr.bnd;have hN1:1≤N:=by omega
  have hg:=st.byte;obtain ⟨b1,⟨b2,b3,b4⟩,b5,b6⟩:=N7 hg (N:=N) (n:=r.n) (tb:=tb) r.n.toNat aD 0 [] 0 ⟨by decide,by decide⟩ (by decide) fun x hx=>(by cases hx);have hpk:=Zl (wr:=wr) (tb:=tb) st hN hr hfit hat;have RA:=fun w1 (st1:GM w1 P L Bs B N g)=>Zl (wr:=wr) (tb:=tb) st1 hN hr hfit hat;clear hpk;unfold bZ;simp only;generalize fD N g r.n tb r.n.toNat aD 0 [] 0=t at b1 b2 b3 b4 b5 b6 RA ⊢;obtain ⟨ρ,d0,d1,d2,d3,d4,d13,d14,i17,i18,bb1,bb2,dp⟩: ∃ρ:Val,(aF 0).den ρ=r.n∧(aj 1).den ρ=r.d∧(aj 2).den ρ=r.v∧(aj 3).den ρ=r.c∧(ah 4).den ρ=aD∧(aK 13).den ρ=t.id∧(ah 14).den ρ=t.ct∧ρ.i 17=t.e∧ρ.i 18=iC N t.sg∧ρ.b 1=tb∧ρ.b 2=wr∧ρ.v 0=vp P:=
    ⟨cB [r.n,r.d,r.v,r.c,aD,0,0,0,0,0,0,0,0,t.id,t.ct,0,0,t.e,iC N t.sg] [false,tb,wr] [vp P],uf n1 n2,fM hd.1 hd.2,fM hv.1 hv.2,fM hc.1 hc.2,dK hat.1 (by show aD<_;omega),jC b1.1 b1.2,dK b2 (by show t.ct<_;omega),rfl,rfl,rfl,rfl,rfl⟩
  have hR: ∀j,Dw.R ρ j oh r.gJ:=fun j=>dO (af (aU rfl) (af (ai d0) (af (ai d1) (af (ai d2) (af (ai d3) RL.nil)))));have hG:(SH P L Bs B N g w.heap.size t.sg (if iC N t.sg=0 then t.sg else [])).G 0 (aT []) w:=
    ⟨fun b=>b=P∨b=L∨b=Bs∨b=B,fun b hb=>⟨by rcases hb with rfl|rfl|rfl|rfl;exact st.pl;exact st.ll;exact st.sl;exact st.bl,fun hm=>by obtain ⟨x,hx,_⟩:=ya2.1 (Ih hm);cases hx⟩,⟨.inl rfl,.inr (.inl rfl),.inr (.inr (.inl rfl)),.inr (.inr (.inr rfl)),st⟩,trivial⟩
  refine yaq (zap (ρ:=ρ) (K:=fun _=>False) (g:=SH P L Bs B N g w.heap.size t.sg (if iC N t.sg=0 then t.sg else [])) (bl:= []) (vals:= [vp P,r.gJ,bQ aD wr,.bool tb]) mixed zDs zFa (fun b h=>h.elim) trivial trivial hG
    ⟨iQ (Dw.enters_of (by kernel_rfl)) (by rfl) [vp P,r.gJ,.bool true] (.int .i64 0) (fun j=>af (gY dp rfl) (af (hR j) (af (aU rfl) RL.nil))) (fun j=>ai rfl) (fun w1 F q hf=>zqf hf.1.2.2.2.2 hr),
     iQ (Dw.enters_of (by kernel_rfl)) (by rfl) [bQ aD wr,.int .i64 r.n] (.int .i64 0) (fun j=>af (dO (af (ai d4) (af (aU bb2) RL.nil))) (af (ai d0) RL.nil)) (fun j=>ai rfl) (fun w1 F q hf=>zy3 ⟨n1,n2⟩ hat w1),?_,?_,trivial⟩
    (af (gY dp rfl) (af (hR _) (af (dO (af (ai d4) (af (aU bb2) RL.nil))) (af (aU bb1) RL.nil)))) (aR.2 trivial)) fun e w' hh=> ?_
  · refine ⟨Dw.enters_of (by kernel_rfl),fun j w1 vals F n0 hv hn hb hF hsz hf _=> ?_⟩;have hv:=wu (show AV.kS [.cst 0 none,oh,.agg [.int .i64 (ah 4),.bool (.var 2)],.bool (.var 1)]=true by rfl) hv (af (gY (ρ:=ρ) (j:=j) dp rfl) (af (hR j) (af (dO (af (ai d4) (af (aU bb2) RL.nil))) (af (aU bb1) RL.nil))));subst hv;have hb:n0=4:=hb (by show (1:Nat)≠0;decide);subst hb;obtain ⟨⟨f1,f2,f3,f4,hm⟩,_⟩:=hf;refine yaq (RA w1 hm) fun en w' hh=> ?_;obtain ⟨u,rfl,hu,hbl⟩:=hh;have hlt:=hu.lt;refine ⟨_,[u],fun b=>F b∨u.ownBlock=some b,rfl,rfl,kM (af (dO (af (ai d13) (af (ai d14) (af ⟨⟨⟨0,0,0,some u⟩,?_,rfl⟩,hu.one,fun _ h=>(by cases h)⟩ RL.nil)))) (af (ai i17) RL.nil)),⟨⟨.inl f1,.inl f2,.inl f3,.inl f4,hm.below hbl⟩,u,tV,hu.mono hsz,fun b hb=> .inr hb⟩,?_,Dw.Mv.of_below hbl⟩
    · show jq j 4 _ 4=_;unfold jq;rw [yaj ⟨yab _,by simp⟩];simp
    · rintro b (hb|hb)
      · exact ⟨yae (hF b hb) hbl.size,.inl hb⟩
      · exact ⟨(hlt b hb).2.1,.inr (hlt b hb).1⟩
  · refine ⟨Dw.enters_of (by kernel_rfl),fun j w1 vals F n0 hv hn hb hF hsz hf _=> ?_⟩;have hb:n0=6:=hb (by show (1:Nat)≠0;decide);subst hb;obtain ⟨⟨f1,f2,f3,f4,hm⟩,u,hq,hu,Lh⟩:=hf;obtain ⟨v1,m1,rfl,y1,hv⟩:=hv;obtain ⟨v2,m2,rfl,⟨⟨Lq,hj,rq⟩,_⟩,hm2⟩:=hv;have hm2:m2= []:=hm2;subst hm2;have y1:v1=vp P:=by rw [uN rfl y1];exact dp
    have hv2:v2=u:=by
      unfold iE at hq;rw [hj] at hq;simp only [ybC] at hq;rw [rq] at hq;exact yaC hq
    subst hv2 y1;obtain ⟨sa,c,hve,hrr⟩:=hu.xQ b5 (A:=fun _=>False) fun _ _ h=>h;have RU:=hu.lt;subst hve;refine yaq (zuX hm hN hN1 ⟨sa,c,rfl,hrr⟩ (by have h16:r.n.toNat≤16:=(by omega);simp at b6;omega) fun R o e=> ?_) fun en w' hh=> ?_
    · subst e;have hp1:=st.pl;have hp2:=st.ll;have hp3:=st.sl;have hp4:=st.bl;have:=(RU R rfl).1;omega
    · obtain ⟨rfl,hbl⟩:=hh;have hres: ∃u2,(if iC N t.sg=0 then Value.slice sa t.sg.length c else .slice none 0 0)=u2∧bG w' w.heap.size u2 (if iC N t.sg=0 then t.sg else [])∧ ∀b,u2.ownBlock=some b→F b:=by
        by_cases h:iC N t.sg=0
        · rw [yaj h,yaj h];exact ⟨_,rfl,hu.kept fun b hb=>hbl.block b (RU b hb).2.1,Lh⟩
        · rw [yai h,yai h];exact ⟨_,rfl,bG.nil _ _,fun b hb=>by cases hb⟩
      obtain ⟨u2,aa8,hu2,aa7⟩:=hres;rw [aa8];refine ⟨_,[u2],fun b=>F b,rfl,rfl,kM (af ⟨⟨⟨0,0,0,some u2⟩,?_,rfl⟩,hu2.one,fun _ h=>(by cases h)⟩ (af (ai i18) RL.nil)),⟨⟨f1,f2,f3,f4,hm.below hbl⟩,u2,tV,hu2,aa7⟩,fun b hb=>⟨yae (hF b hb) hbl.size,.inl hb⟩,Dw.Mv.of_below hbl⟩;show jq j 6 _ 6=_;unfold jq;rw [yaj ⟨yab _,by simp⟩];simp
  · obtain ⟨p,hpm,hto,lf,hlf,j,he⟩:=hh;have hbl:=gF he (fun _ h=>h);unfold Us at hpm;simp only [yad,yag,yaB] at hpm;rcases hpm with rfl|rfl|rfl|rfl
    all_goals
      simp only [aH,aR,iI,mY,je,gV,aC,d0,d13,i17,i18,ya7,yaH,ydU,ycX,yby,yat,yas,yaN] at hto;cases hlf;have hR:=he.ret
    · rw [yai (by omega),yaj (by omega)];exact ⟨.slice none 0 0,hR,bG.nil _ _,hbl⟩
    · rw [yai (by omega),yai (by omega),yaj hto.2.2];refine ⟨.slice none 0 0,hR.trans ?_,bG.nil _ _,hbl⟩;simp only [AV.val,AV.aI,gV,i18];rfl
    · rw [yai (by omega),yai (by omega),yai (by simpa using hto.2.2)];obtain ⟨Fs,_,_,u,BR,hu,_⟩:=he.eY;have e6:(dZ j 6).q.getD undef=u:=uj (ρ:=ρ) BR;rw [yaj hto.2.2] at hu;refine ⟨u,hR.trans ?_,hu,hbl⟩;simp only [AV.val,AV.aI,aC,d13,d14,e6,hto.1]
    · rw [yaj hto];refine ⟨.slice none 0 0,hR.trans ?_,bG.nil _ _,hbl⟩;simp only [AV.val,AV.aI,gV,i17];rfl
theorem Tryz.Ai {A:Nat→Prop} {w:World} {M:Nat} {n:Int} {tk:List (Int×bN)} {ρ:Val} {j:J} {K:Nat→Prop} {g:bg} {i:Nat} (h:jN A w M n tk) (hK:K M) {k:Int} {o:Option AV} {ov:Option Value} (hk:(aK i).den ρ=k) (ho:RO ρ j o ov) (hv: ∀arr clock,w.heap[M]? =some (.map arr clock)→dz arr k=ov):wQ ρ j (iT w K g) (M,0) (.dB [(.int .i64 (aK i),o)]):=by
 obtain ⟨arr,clock,h1,h2,_⟩:=h.map;refine ⟨hK,rfl,arr,clock,[(k,ov)],h1,h2,⟨k,ov,[],rfl,ai hk,ho,rfl⟩,fun k' o' hm=> ?_⟩;simp only [yad,ycH,yag,yaB] at hm;obtain ⟨rfl,rfl⟩:=hm;exact hv arr clock h1
theorem Tryz.zE3 {ρ:Val} {w0:World} {K:Nat→Prop} {g:bg} {n x u1 ct:Int} {u2 nd:Bool} (dn:(aF 0).den ρ=n) (e14:(ah 14).den ρ=ct) (e15:(ah 15).den ρ=u1) (b8:ρ.b 8=u2) (b9:ρ.b 9=nd) (f15:SE.den ρ (.aQ [⟨11,0,4294967295,0,15,0⟩] 0)=x%32768) (f1:SE.den ρ (.aQ [⟨11,0,4294967295,15,1,0⟩] 0)=x/32768%2)
  (hnd:nd=oO n (x%32768) (decide (x/32768%2=1)) u1 u2 ct) (hn:1≤n∧n≤32768) (hx:x%32768<n) (hu:0≤u1∧u1<n) (hc:0≤ct∧ct≤n):jM prog ρ w0 K g SX:=by
 have eb:SB.den ρ (.cmp .eql (.aQ [⟨11,0,4294967295,15,1,0⟩] 0) (.lit 1))=decide (x/32768%2=1):=by
  rw [iI,f1,aC];by_cases h:x/32768%2=1
  ·rw [h];rfl
  ·rw [yar h];exact yaH.2 h
 exact iQ (Dw.enters_of (by kernel_rfl)) (by rfl) [bQ (x%32768) (decide (x/32768%2=1)),bQ u1 u2,.int .i64 ct,.int .i64 n] (.tuple #[.bool nd,.int .i64 0]) (fun j=>af (dO (af (ai f15) (af (aU eb) RL.nil))) (af (dO (af (ai e15) (af (aU b8) RL.nil))) (af (ai e14) (af (ai dn) RL.nil)))) (fun j=>kM (af (aU b9) (af (ai rfl) RL.nil))) (fun w F q hf=>by rw [hnd];exact zAo hn ⟨by omega,hx⟩ hu hc w)
theorem Tryz.FW {g:Nat→Int} (hg: ∀j,0≤g j∧g j<256) (a:Nat):0≤ax g a 4∧ax g a 4<4294967296:=lg g hg a 4
theorem Tryz.zw4 {A:Nat→Prop} {w:World} {S P L Bs B M N:Nat} {r:Rg} {s:PS} {g:Nat→Int} (h:PW A w S P L Bs B M N r s g) (hb:s.br=false) (hp:s.ph=1):
  Calls prog 27 #[.pointer (some ⟨S,0,none⟩)] w fun e w'=>e= .returned (.tuple #[.agg #[.int .i64 2,.int .i64 1,.int .i64 s.nx],.int .i64 0])∧PW A w' S P L Bs B M N r (if mF g s then s.goto 5 else if s.ev then s.goto 2 else ({ s with nn:=true }:PS).stop) g∧Dw.Mv (sK S M B) w w':=by
 obtain ⟨sv,ho,hsv⟩:=h.obj;have hrg:=h.rg;have q1:=hrg.bnd;have q2:=hrg.d;have q3:=hrg.v;have q4:=hrg.c;have hpb:=h.pb;have hnx:=hpb.nx;have dG:=hpb.us;have hou:=hpb.ou;have hon:=ko h.tk.dH;have hN:=h.hN;have hf:=h.fit;obtain ⟨hx0,hx1⟩:=Vm h.mem.byte (4096+16*s.nx+14).toNat;obtain ⟨x,gI⟩: ∃x,x=ax g (4096+16*s.nx+14).toNat 2:=⟨_,rfl⟩;rw [←gI] at hx0 hx1;have fH:mF g s=kL x s.nw:=by unfold mF;rw [gI]
 have hd:=jT hrg hpb (by rw [hou.1];exact hon) [0,x] [kL x s.nw] (.pointer (some ⟨P,0,none⟩)) sv undef;have ex:(aK 11).den (bH r s [0,x] [kL x s.nw] (.pointer (some ⟨P,0,none⟩)) sv undef)=x:=jC hx0 hx1;have b7:((bH r s [0,x] [kL x s.nw] (.pointer (some ⟨P,0,none⟩)) sv undef)).b 7=kL x s.nw:=rfl;generalize bH r s [0,x] [kL x s.nw] (.pointer (some ⟨P,0,none⟩)) sv undef=ρ at hd ex b7;have hj2:aT [(S,0),(M,0)] 2=some ⟨M,0,0,none⟩:=rfl;have hj1:aT [(S,0),(M,0)] 1=some ⟨S,0,0,none⟩:=rfl;have hd4:=hd.d.trans q2;refine yaq (zap (ρ:=ρ) (K:=sK S M B) (g:=(jQ P L Bs B N [g])) (bl:= [(S,0),(M,0)]) (vals:= [.pointer (some ⟨S,0,none⟩)]) mixed zw2 zz4 h.gP
  ⟨fe ho (jS hd hb (by rw [hp];rfl) hsv.one hj2) (.inl rfl),nP h.tk (.inr (.inl rfl)),trivial⟩ h.apart (mW h.mem h.mine)
  ⟨zw5 hN hd.p (Dx hd4 hd.nx ⟨hnx.1,by omega⟩ ⟨by decide,by decide⟩) (by omega) (by omega) (ex.trans gI),
   iQ (Dw.enters_of (by kernel_rfl)) (by rfl) [.int .u16 x,.bool s.nw] (.bool (kL x s.nw)) (fun j=>af (ai ex) (af (aU hd.b2) RL.nil)) (fun j=>aU b7) (fun w F q hf=>TY ⟨hx0,hx1⟩ w),trivial⟩ (af (gM hj1) RL.nil) (aR.2 trivial)) fun e w' hh=> ?_
 obtain ⟨p,hpm,hto,l,hl,j,he⟩:=hh;have aV:=he.sub _ _ hj1;have aY:=he.sub _ _ hj2;have dN:=bE aV;have dR:=bE aY;have hmv:=he.mv;have bS:=h.kA hmv;obtain ⟨g',hg0,hgm⟩:=nM he.eY;unfold zsp at hpm;simp only [yad,yag,yaB] at hpm;rcases hpm with rfl|rfl|rfl
 all_goals
  simp only [aH,aR,bR,iI,gZ,je,aC,hd.n,hd.b0,hd.wr,b7,yat,yas,ya7,yaH,ycX,yaN] at hto;cases hl;have hO:=(he.rows.1 _ aV).2 (.inr (.inl rfl)) rfl;have hM:=he.maps.1 _ aY;cases hg0;simp only [AV.val,AV.aI,dN,dR,hd.n,hd.d,hd.v,hd.c,hd.nx,hd.us,hd.hd,hd.wr,hd.ou,hd.p,hd.sv,gV,aC,bR,jd,hd.op,hd.b0,hd.b1,hd.b2,hd.b3,hd.b4,hd.b5,hd.b6] at hO;have hR:=he.ret;simp only [AV.val,AV.aI,aC,hd.nx,hd.us] at hR
 ·rw [fH,yaj hto];exact ⟨hR,h.next hmv hgm ⟨_,hO,hsv.kept bS⟩ (h.tk.same bS hM) ⟨h.pb.nx,h.pb.us,h.pb.ou,h.pb.hd,h.pb.wr,by show 5≤11;decide,fun h7=>absurd h7 (by show¬7≤5;decide)⟩,hmv⟩
 ·rw [fH,yai (by rw [hto.1];decide),yaj hto.2];exact ⟨hR,h.next hmv hgm ⟨_,hO,hsv.kept bS⟩ (h.tk.same bS hM) ⟨h.pb.nx,h.pb.us,h.pb.ou,h.pb.hd,h.pb.wr,by show 2≤11;decide,fun h7=>absurd h7 (by show¬7≤2;decide)⟩,hmv⟩
 ·rw [fH,yai (by rw [hto.1];decide),yai (by rw [hto.2];decide)];exact ⟨hR,h.next hmv hgm ⟨_,hO,hsv.kept bS⟩ (h.tk.same bS hM) ⟨h.pb.nx,h.pb.us,h.pb.ou,h.pb.hd,h.pb.wr,by show 0≤11;decide,fun h7=>absurd h7 (by show¬7≤0;decide)⟩,hmv⟩
theorem Tryz.zuM {A:Nat→Prop} {w:World} {S P L Bs B M N:Nat} {r:Rg} {s:PS} {g:Nat→Int} (h:PW A w S P L Bs B M N r s g) (hb:s.br=false) (hp:s.ph=4):
  Calls prog 27 #[.pointer (some ⟨S,0,none⟩)] w fun e w'=>e= .returned (.tuple #[.agg #[.int .i64 2,.int .i64 1,.int .i64 s.nx],.int .i64 0])∧PW A w' S P L Bs B M N r (if mF g s then s.goto 5 else ({ s with nn:=true }:PS).stop) g∧Dw.Mv (sK S M B) w w':=by
 obtain ⟨sv,ho,hsv⟩:=h.obj;have hrg:=h.rg;have q1:=hrg.bnd;have q2:=hrg.d;have q3:=hrg.v;have q4:=hrg.c;have hpb:=h.pb;have hnx:=hpb.nx;have dG:=hpb.us;have hou:=hpb.ou;have hon:=ko h.tk.dH;have hN:=h.hN;have hf:=h.fit;obtain ⟨hx0,hx1⟩:=Vm h.mem.byte (4096+16*s.nx+14).toNat;obtain ⟨x,gI⟩: ∃x,x=ax g (4096+16*s.nx+14).toNat 2:=⟨_,rfl⟩;rw [←gI] at hx0 hx1;have fH:mF g s=kL x s.nw:=by unfold mF;rw [gI]
 have hd:=jT hrg hpb (by rw [hou.1];exact hon) [0,x] [kL x s.nw] (.pointer (some ⟨P,0,none⟩)) sv undef;have ex:(aK 11).den (bH r s [0,x] [kL x s.nw] (.pointer (some ⟨P,0,none⟩)) sv undef)=x:=jC hx0 hx1;have b7:((bH r s [0,x] [kL x s.nw] (.pointer (some ⟨P,0,none⟩)) sv undef)).b 7=kL x s.nw:=rfl;generalize bH r s [0,x] [kL x s.nw] (.pointer (some ⟨P,0,none⟩)) sv undef=ρ at hd ex b7;have hj2:aT [(S,0),(M,0)] 2=some ⟨M,0,0,none⟩:=rfl;have hj1:aT [(S,0),(M,0)] 1=some ⟨S,0,0,none⟩:=rfl;have hd4:=hd.d.trans q2;refine yaq (zap (ρ:=ρ) (K:=sK S M B) (g:=(jQ P L Bs B N [g])) (bl:= [(S,0),(M,0)]) (vals:= [.pointer (some ⟨S,0,none⟩)]) mixed zuK zxu h.gP
  ⟨fe ho (jS hd hb (by rw [hp];rfl) hsv.one hj2) (.inl rfl),nP h.tk (.inr (.inl rfl)),trivial⟩ h.apart (mW h.mem h.mine)
  ⟨zw5 hN hd.p (Dx hd4 hd.nx ⟨hnx.1,by omega⟩ ⟨by decide,by decide⟩) (by omega) (by omega) (ex.trans gI),
   iQ (Dw.enters_of (by kernel_rfl)) (by rfl) [.int .u16 x,.bool s.nw] (.bool (kL x s.nw)) (fun j=>af (ai ex) (af (aU hd.b2) RL.nil)) (fun j=>aU b7) (fun w F q hf=>TY ⟨hx0,hx1⟩ w),trivial⟩ (af (gM hj1) RL.nil) (aR.2 trivial)) fun e w' hh=> ?_
 obtain ⟨p,hpm,hto,l,hl,j,he⟩:=hh;have aV:=he.sub _ _ hj1;have aY:=he.sub _ _ hj2;have dN:=bE aV;have dR:=bE aY;have hmv:=he.mv;have bS:=h.kA hmv;obtain ⟨g',hg0,hgm⟩:=nM he.eY;unfold zow at hpm;simp only [yad,yag,yaB] at hpm;rcases hpm with rfl|rfl
 all_goals
  simp only [aH,aR,bR,iI,gZ,je,aC,hd.n,hd.b0,hd.wr,b7,yat,yas,ya7,yaH,ycX,yaN] at hto;cases hl;have hO:=(he.rows.1 _ aV).2 (.inr (.inl rfl)) rfl;have hM:=he.maps.1 _ aY;cases hg0;simp only [AV.val,AV.aI,dN,dR,hd.n,hd.d,hd.v,hd.c,hd.nx,hd.us,hd.hd,hd.wr,hd.ou,hd.p,hd.sv,gV,aC,bR,jd,hd.op,hd.b0,hd.b1,hd.b2,hd.b3,hd.b4,hd.b5,hd.b6] at hO;have hR:=he.ret;simp only [AV.val,AV.aI,aC,hd.nx,hd.us] at hR
 ·rw [fH,yai (by rw [hto];decide)];exact ⟨hR,h.next hmv hgm ⟨_,hO,hsv.kept bS⟩ (h.tk.same bS hM) ⟨h.pb.nx,h.pb.us,h.pb.ou,h.pb.hd,h.pb.wr,by show 0≤11;decide,fun h7=>absurd h7 (by show¬7≤0;decide)⟩,hmv⟩
 ·rw [fH,yaj hto];exact ⟨hR,h.next hmv hgm ⟨_,hO,hsv.kept bS⟩ (h.tk.same bS hM) ⟨h.pb.nx,h.pb.us,h.pb.ou,h.pb.hd,h.pb.wr,by show 5≤11;decide,fun h7=>absurd h7 (by show¬7≤5;decide)⟩,hmv⟩
theorem Tryz.zqv {A:Nat→Prop} {w:World} {S P L Bs B M N:Nat} {r:Rg} {s:PS} {g:Nat→Int} (h:PW A w S P L Bs B M N r s g) (hb:s.br=false) (hp:s.ph=3):
  Calls prog 27 #[.pointer (some ⟨S,0,none⟩)] w fun e w'=>e= .returned (.tuple #[.agg #[.int .i64 4,.int .i64 0,.int .i64 0],.int .i64 0])∧PW A w' S P L Bs B M N r (s.goto 4) g∧Dw.Mv (sK S M B) w w':=by
 obtain ⟨sv,ho,hsv⟩:=h.obj;have hrg:=h.rg;have q1:=hrg.bnd;have q2:=hrg.d;have q3:=hrg.v;have q4:=hrg.c;have hpb:=h.pb;have hnx:=hpb.nx;have dG:=hpb.us;have hou:=hpb.ou;have hon:=ko h.tk.dH;have hN:=h.hN;have hf:=h.fit;have hd:=jT hrg hpb (by rw [hou.1];exact hon) [] [] (.pointer (some ⟨P,0,none⟩)) sv undef;generalize bH r s [] [] (.pointer (some ⟨P,0,none⟩)) sv undef=ρ at hd;have hj2:aT [(S,0),(M,0)] 2=some ⟨M,0,0,none⟩:=rfl;have hj1:aT [(S,0),(M,0)] 1=some ⟨S,0,0,none⟩:=rfl;have hd4:=hd.d.trans q2;refine yaq (zap (ρ:=ρ) (K:=sK S M B) (g:=(jQ P L Bs B N [g])) (bl:= [(S,0),(M,0)]) (vals:= [.pointer (some ⟨S,0,none⟩)]) mixed zuw zxp h.gP
  ⟨fe ho (jS hd hb (by rw [hp];rfl) hsv.one hj2) (.inl rfl),nP h.tk (.inr (.inl rfl)),trivial⟩ h.apart (mW h.mem h.mine)
  trivial (af (gM hj1) RL.nil) (aR.2 trivial)) fun e w' hh=> ?_
 obtain ⟨p,hpm,hto,l,hl,j,he⟩:=hh;have aV:=he.sub _ _ hj1;have aY:=he.sub _ _ hj2;have dN:=bE aV;have dR:=bE aY;have hmv:=he.mv;have bS:=h.kA hmv;obtain ⟨g',hg0,hgm⟩:=nM he.eY;unfold zog at hpm;simp only [yad,yag,yaB] at hpm;rcases hpm with rfl
 all_goals
  simp only [aH,aR,bR,iI,gZ,je,aC,hd.n,hd.b0,hd.wr,yat,yas,ya7,yaH,ycX,yaN] at hto;cases hl;have hO:=(he.rows.1 _ aV).2 (.inr (.inl rfl)) rfl;have hM:=he.maps.1 _ aY;cases hg0;simp only [AV.val,AV.aI,dN,dR,hd.n,hd.d,hd.v,hd.c,hd.nx,hd.us,hd.hd,hd.wr,hd.ou,hd.p,hd.sv,gV,aC,bR,jd,hd.op,hd.b0,hd.b1,hd.b2,hd.b3,hd.b4,hd.b5,hd.b6] at hO;have hR:=he.ret;simp only [AV.val,AV.aI,aC,hd.nx,hd.us] at hR
 ·exact ⟨hR,h.next hmv hgm ⟨_,hO,hsv.kept bS⟩ (h.tk.same bS hM) ⟨h.pb.nx,h.pb.us,h.pb.ou,h.pb.hd,h.pb.wr,by show 4≤11;decide,fun h7=>absurd h7 (by show¬7≤4;decide)⟩,hmv⟩
theorem Tryz.zqu {A:Nat→Prop} {w:World} {S P L Bs B M N:Nat} {r:Rg} {s:PS} {g:Nat→Int} (h:PW A w S P L Bs B M N r s g) (hb:s.br=false) (hp:s.ph=5):
  Calls prog 27 #[.pointer (some ⟨S,0,none⟩)] w fun e w'=>e= .returned (.tuple #[.agg #[.int .i64 4,.int .i64 0,.int .i64 0],.int .i64 0])∧PW A w' S P L Bs B M N r (s.goto 6) g∧Dw.Mv (sK S M B) w w':=by
 obtain ⟨sv,ho,hsv⟩:=h.obj;have hrg:=h.rg;have q1:=hrg.bnd;have q2:=hrg.d;have q3:=hrg.v;have q4:=hrg.c;have hpb:=h.pb;have hnx:=hpb.nx;have dG:=hpb.us;have hou:=hpb.ou;have hon:=ko h.tk.dH;have hN:=h.hN;have hf:=h.fit;have hd:=jT hrg hpb (by rw [hou.1];exact hon) [] [] (.pointer (some ⟨P,0,none⟩)) sv undef;generalize bH r s [] [] (.pointer (some ⟨P,0,none⟩)) sv undef=ρ at hd;have hj2:aT [(S,0),(M,0)] 2=some ⟨M,0,0,none⟩:=rfl;have hj1:aT [(S,0),(M,0)] 1=some ⟨S,0,0,none⟩:=rfl;have hd4:=hd.d.trans q2;refine yaq (zap (ρ:=ρ) (K:=sK S M B) (g:=(jQ P L Bs B N [g])) (bl:= [(S,0),(M,0)]) (vals:= [.pointer (some ⟨S,0,none⟩)]) mixed zqs zuz h.gP
  ⟨fe ho (jS hd hb (by rw [hp];rfl) hsv.one hj2) (.inl rfl),nP h.tk (.inr (.inl rfl)),trivial⟩ h.apart (mW h.mem h.mine)
  trivial (af (gM hj1) RL.nil) (aR.2 trivial)) fun e w' hh=> ?_
 obtain ⟨p,hpm,hto,l,hl,j,he⟩:=hh;have aV:=he.sub _ _ hj1;have aY:=he.sub _ _ hj2;have dN:=bE aV;have dR:=bE aY;have hmv:=he.mv;have bS:=h.kA hmv;obtain ⟨g',hg0,hgm⟩:=nM he.eY;unfold Yh at hpm;simp only [yad,yag,yaB] at hpm;rcases hpm with rfl
 all_goals
  simp only [aH,aR,bR,iI,gZ,je,aC,hd.n,hd.b0,hd.wr,yat,yas,ya7,yaH,ycX,yaN] at hto;cases hl;have hO:=(he.rows.1 _ aV).2 (.inr (.inl rfl)) rfl;have hM:=he.maps.1 _ aY;cases hg0;simp only [AV.val,AV.aI,dN,dR,hd.n,hd.d,hd.v,hd.c,hd.nx,hd.us,hd.hd,hd.wr,hd.ou,hd.p,hd.sv,gV,aC,bR,jd,hd.op,hd.b0,hd.b1,hd.b2,hd.b3,hd.b4,hd.b5,hd.b6] at hO;have hR:=he.ret;simp only [AV.val,AV.aI,aC,hd.nx,hd.us] at hR
 ·exact ⟨hR,h.next hmv hgm ⟨_,hO,hsv.kept bS⟩ (h.tk.same bS hM) ⟨h.pb.nx,h.pb.us,h.pb.ou,h.pb.hd,h.pb.wr,by show 6≤11;decide,fun h7=>absurd h7 (by show¬7≤6;decide)⟩,hmv⟩
theorem Tryz.zqr {A:Nat→Prop} {w:World} {S P L Bs B M N:Nat} {r:Rg} {s:PS} {g:Nat→Int} (h:PW A w S P L Bs B M N r s g) (hb:s.br=false) (hp:s.ph=8):
  Calls prog 27 #[.pointer (some ⟨S,0,none⟩)] w fun e w'=>e= .returned (.tuple #[.agg #[.int .i64 4,.int .i64 0,.int .i64 0],.int .i64 0])∧PW A w' S P L Bs B M N r (s.goto 9) g∧Dw.Mv (sK S M B) w w':=by
 obtain ⟨sv,ho,hsv⟩:=h.obj;have hrg:=h.rg;have q1:=hrg.bnd;have q2:=hrg.d;have q3:=hrg.v;have q4:=hrg.c;have hpb:=h.pb;have hnx:=hpb.nx;have dG:=hpb.us;have hou:=hpb.ou;have hon:=ko h.tk.dH;have hN:=h.hN;have hf:=h.fit;have hd:=jT hrg hpb (by rw [hou.1];exact hon) [] [] (.pointer (some ⟨P,0,none⟩)) sv undef;generalize bH r s [] [] (.pointer (some ⟨P,0,none⟩)) sv undef=ρ at hd;have hj2:aT [(S,0),(M,0)] 2=some ⟨M,0,0,none⟩:=rfl;have hj1:aT [(S,0),(M,0)] 1=some ⟨S,0,0,none⟩:=rfl;have hd4:=hd.d.trans q2;refine yaq (zap (ρ:=ρ) (K:=sK S M B) (g:=(jQ P L Bs B N [g])) (bl:= [(S,0),(M,0)]) (vals:= [.pointer (some ⟨S,0,none⟩)]) mixed zqp zuy h.gP
  ⟨fe ho (jS hd hb (by rw [hp];rfl) hsv.one hj2) (.inl rfl),nP h.tk (.inr (.inl rfl)),trivial⟩ h.apart (mW h.mem h.mine)
  trivial (af (gM hj1) RL.nil) (aR.2 trivial)) fun e w' hh=> ?_
 obtain ⟨p,hpm,hto,l,hl,j,he⟩:=hh;have aV:=he.sub _ _ hj1;have aY:=he.sub _ _ hj2;have dN:=bE aV;have dR:=bE aY;have hmv:=he.mv;have bS:=h.kA hmv;obtain ⟨g',hg0,hgm⟩:=nM he.eY;unfold Yf at hpm;simp only [yad,yag,yaB] at hpm;rcases hpm with rfl
 all_goals
  simp only [aH,aR,bR,iI,gZ,je,aC,hd.n,hd.b0,hd.wr,yat,yas,ya7,yaH,ycX,yaN] at hto;cases hl;have hO:=(he.rows.1 _ aV).2 (.inr (.inl rfl)) rfl;have hM:=he.maps.1 _ aY;cases hg0;simp only [AV.val,AV.aI,dN,dR,hd.n,hd.d,hd.v,hd.c,hd.nx,hd.us,hd.hd,hd.wr,hd.ou,hd.p,hd.sv,gV,aC,bR,jd,hd.op,hd.b0,hd.b1,hd.b2,hd.b3,hd.b4,hd.b5,hd.b6] at hO;have hR:=he.ret;simp only [AV.val,AV.aI,aC,hd.nx,hd.us] at hR
 ·exact ⟨hR,h.next hmv hgm ⟨_,hO,hsv.kept bS⟩ (h.tk.same bS hM) ⟨h.pb.nx,h.pb.us,h.pb.ou,h.pb.hd,h.pb.wr,by show 9≤11;decide,fun _=>h.pb.ret (by omega)⟩,hmv⟩
theorem Tryz.zok {A:Nat→Prop} {w:World} {S P L Bs B M N:Nat} {r:Rg} {s:PS} {g:Nat→Int} (h:PW A w S P L Bs B M N r s g) (hb:s.br=false) (hp:s.ph=10):
  Calls prog 27 #[.pointer (some ⟨S,0,none⟩)] w fun e w'=>e= .returned (.tuple #[.agg #[.int .i64 4,.int .i64 0,.int .i64 0],.int .i64 0])∧PW A w' S P L Bs B M N r (s.goto 11) g∧Dw.Mv (sK S M B) w w':=by
 obtain ⟨sv,ho,hsv⟩:=h.obj;have hrg:=h.rg;have q1:=hrg.bnd;have q2:=hrg.d;have q3:=hrg.v;have q4:=hrg.c;have hpb:=h.pb;have hnx:=hpb.nx;have dG:=hpb.us;have hou:=hpb.ou;have hon:=ko h.tk.dH;have hN:=h.hN;have hf:=h.fit;have hd:=jT hrg hpb (by rw [hou.1];exact hon) [] [] (.pointer (some ⟨P,0,none⟩)) sv undef;generalize bH r s [] [] (.pointer (some ⟨P,0,none⟩)) sv undef=ρ at hd;have hj2:aT [(S,0),(M,0)] 2=some ⟨M,0,0,none⟩:=rfl;have hj1:aT [(S,0),(M,0)] 1=some ⟨S,0,0,none⟩:=rfl;have hd4:=hd.d.trans q2;refine yaq (zap (ρ:=ρ) (K:=sK S M B) (g:=(jQ P L Bs B N [g])) (bl:= [(S,0),(M,0)]) (vals:= [.pointer (some ⟨S,0,none⟩)]) mixed zoi zqw h.gP
  ⟨fe ho (jS hd hb (by rw [hp];rfl) hsv.one hj2) (.inl rfl),nP h.tk (.inr (.inl rfl)),trivial⟩ h.apart (mW h.mem h.mine)
  trivial (af (gM hj1) RL.nil) (aR.2 trivial)) fun e w' hh=> ?_
 obtain ⟨p,hpm,hto,l,hl,j,he⟩:=hh;have aV:=he.sub _ _ hj1;have aY:=he.sub _ _ hj2;have dN:=bE aV;have dR:=bE aY;have hmv:=he.mv;have bS:=h.kA hmv;obtain ⟨g',hg0,hgm⟩:=nM he.eY;unfold Xi at hpm;simp only [yad,yag,yaB] at hpm;rcases hpm with rfl
 all_goals
  simp only [aH,aR,bR,iI,gZ,je,aC,hd.n,hd.b0,hd.wr,yat,yas,ya7,yaH,ycX,yaN] at hto;cases hl;have hO:=(he.rows.1 _ aV).2 (.inr (.inl rfl)) rfl;have hM:=he.maps.1 _ aY;cases hg0;simp only [AV.val,AV.aI,dN,dR,hd.n,hd.d,hd.v,hd.c,hd.nx,hd.us,hd.hd,hd.wr,hd.ou,hd.p,hd.sv,gV,aC,bR,jd,hd.op,hd.b0,hd.b1,hd.b2,hd.b3,hd.b4,hd.b5,hd.b6] at hO;have hR:=he.ret;simp only [AV.val,AV.aI,aC,hd.nx,hd.us] at hR
 ·exact ⟨hR,h.next hmv hgm ⟨_,hO,hsv.kept bS⟩ (h.tk.same bS hM) ⟨h.pb.nx,h.pb.us,h.pb.ou,h.pb.hd,h.pb.wr,by show 11≤11;decide,fun _=>h.pb.ret (by omega)⟩,hmv⟩
theorem Tryz.zuC {A:Nat→Prop} {w:World} {S P L Bs B M N:Nat} {r:Rg} {s:PS} {g:Nat→Int} (h:PW A w S P L Bs B M N r s g) (hb:s.br=false) (hp:s.ph=2):
  Calls prog 27 #[.pointer (some ⟨S,0,none⟩)] w fun e w'=>e= .returned (.tuple #[.agg #[.int .i64 3,.int .i64 11,.int .i64 0],.int .i64 0])∧PW A w' S P L Bs B M N r (s.goto 3) (dS g r.c.toNat 4 (mU s.nx s.nw+131072))∧Dw.Mv (sK S M B) w w':=by
 obtain ⟨sv,ho,hsv⟩:=h.obj;have hrg:=h.rg;have q1:=hrg.bnd;have q2:=hrg.d;have q3:=hrg.v;have q4:=hrg.c;have hpb:=h.pb;have hnx:=hpb.nx;have dG:=hpb.us;have hou:=hpb.ou;have hon:=ko h.tk.dH;have hN:=h.hN;have hf:=h.fit;have hx0:0≤mU s.nx s.nw∧mU s.nx s.nw<65536:=by unfold mU;split<;>omega
 obtain ⟨x,gI⟩: ∃x,x=mU s.nx s.nw:=⟨_,rfl⟩;rw [←gI] at hx0;have hd:=jT hrg hpb (by rw [hou.1];exact hon) [0,0,0,0,0,0,0,0,x] [] (.pointer (some ⟨P,0,none⟩)) sv undef;have ex:(aK 18).den (bH r s [0,0,0,0,0,0,0,0,x] [] (.pointer (some ⟨P,0,none⟩)) sv undef)=x:=jC hx0.1 hx0.2;have ei:((bH r s [0,0,0,0,0,0,0,0,x] [] (.pointer (some ⟨P,0,none⟩)) sv undef)).i 18=x:=rfl;generalize bH r s [0,0,0,0,0,0,0,0,x] [] (.pointer (some ⟨P,0,none⟩)) sv undef=ρ at hd ex ei;have hj2:aT [(S,0),(M,0)] 2=some ⟨M,0,0,none⟩:=rfl;have hj1:aT [(S,0),(M,0)] 1=some ⟨S,0,0,none⟩:=rfl;have hd4:=hd.d.trans q2;refine yaq (zap (ρ:=ρ) (K:=sK S M B) (g:=(jQ P L Bs B N [g,dS g r.c.toNat 4 (x+131072)])) (bl:= [(S,0),(M,0)]) (vals:= [.pointer (some ⟨S,0,none⟩)]) mixed zuA zxq h.gP
  ⟨fe ho (jS hd hb (by rw [hp];rfl) hsv.one hj2) (.inl rfl),nP h.tk (.inr (.inl rfl)),trivial⟩ h.apart (mW h.mem h.mine)
  ⟨iQ (Dw.enters_of (by kernel_rfl)) (by rfl) [bQ s.nx s.nw] (.int .u16 x) (fun j=>af (dO (af (ai hd.nx) (af (aU hd.b2) RL.nil))) RL.nil) (fun j=>ai ex) (fun w F q hf=>by have:=zz2 (a:=s.nx) (x:=s.nw) ⟨hnx.1,by omega⟩ w;rw [←gI] at this;exact this),
   PD (k:=4) hN hd.p hd.c (by omega) (.inr (.inr (.inl rfl))) (by omega) (Am (k:=2) (n:=16) (hi:=65535) (c:=131072) ei hx0.1 (by show x≤65535;omega) hx0.2 rfl) (.inr (.inr rfl)),trivial⟩ (af (gM hj1) RL.nil) (aR.2 trivial)) fun e w' hh=> ?_
 obtain ⟨p,hpm,hto,l,hl,j,he⟩:=hh;have aV:=he.sub _ _ hj1;have aY:=he.sub _ _ hj2;have dN:=bE aV;have dR:=bE aY;have hmv:=he.mv;have bS:=h.kA hmv;obtain ⟨g',hg0,hgm⟩:=nM he.eY;unfold zol at hpm;simp only [yad,yag,yaB] at hpm;rcases hpm with rfl
 all_goals
  simp only [aH,aR,bR,iI,gZ,je,aC,hd.n,hd.b0,hd.wr,yat,yas,ya7,yaH,ycX,yaN] at hto;cases hl;have hO:=(he.rows.1 _ aV).2 (.inr (.inl rfl)) rfl;have hM:=he.maps.1 _ aY;cases hg0;simp only [AV.val,AV.aI,dN,dR,hd.n,hd.d,hd.v,hd.c,hd.nx,hd.us,hd.hd,hd.wr,hd.ou,hd.p,hd.sv,gV,aC,bR,jd,hd.op,hd.b0,hd.b1,hd.b2,hd.b3,hd.b4,hd.b5,hd.b6] at hO;have hR:=he.ret;simp only [AV.val,AV.aI,aC,hd.nx,hd.us] at hR
 ·rw [←gI];exact ⟨hR,h.next hmv hgm ⟨_,hO,hsv.kept bS⟩ (h.tk.same bS hM) ⟨h.pb.nx,h.pb.us,h.pb.ou,h.pb.hd,h.pb.wr,by show 3≤11;decide,fun h7=>absurd h7 (by show¬7≤3;decide)⟩,hmv⟩
theorem Tryz.zqo {A:Nat→Prop} {w:World} {S P L Bs B M N:Nat} {r:Rg} {s:PS} {g:Nat→Int} (h:PW A w S P L Bs B M N r s g) (hb:s.br=false) (hp:s.ph=9) (hw: ¬0<s.wr):
  Calls prog 27 #[.pointer (some ⟨S,0,none⟩)] w fun e w'=>e= .returned (.tuple #[.agg #[.int .i64 3,.int .i64 1,.int .i64 s.us],.int .i64 0])∧PW A w' S P L Bs B M N r (s.goto 10) (dS g (4096+16*s.us+14).toNat 2 (0+if s.uw then 32896 else 0))∧Dw.Mv (sK S M B) w w':=by
 obtain ⟨sv,ho,hsv⟩:=h.obj;have hrg:=h.rg;have q1:=hrg.bnd;have q2:=hrg.d;have q3:=hrg.v;have q4:=hrg.c;have hpb:=h.pb;have hnx:=hpb.nx;have dG:=hpb.us;have hou:=hpb.ou;have hon:=ko h.tk.dH;have hN:=h.hN;have hf:=h.fit;obtain ⟨x,gI⟩: ∃x:Int,x=0+(if s.uw then 32896 else 0):=⟨_,rfl⟩;have hx0:0≤x∧x<65536:=by rw [gI];split<;>omega
 rw [←gI];have hd:=jT hrg hpb (by rw [hou.1];exact hon) [0,0,0,0,0,0,0,0,x] [] (.pointer (some ⟨P,0,none⟩)) sv undef;have ex:(aK 18).den (bH r s [0,0,0,0,0,0,0,0,x] [] (.pointer (some ⟨P,0,none⟩)) sv undef)=x:=jC hx0.1 hx0.2;generalize bH r s [0,0,0,0,0,0,0,0,x] [] (.pointer (some ⟨P,0,none⟩)) sv undef=ρ at hd ex;have hj2:aT [(S,0),(M,0)] 2=some ⟨M,0,0,none⟩:=rfl;have hj1:aT [(S,0),(M,0)] 1=some ⟨S,0,0,none⟩:=rfl;have hd4:=hd.d.trans q2;refine yaq (zap (ρ:=ρ) (K:=sK S M B) (g:=(jQ P L Bs B N [g,dS g (4096+16*s.us+14).toNat 2 x])) (bl:= [(S,0),(M,0)]) (vals:= [.pointer (some ⟨S,0,none⟩)]) mixed zqm zuv h.gP
  ⟨fe ho (jS hd hb (by rw [hp];rfl) hsv.one hj2) (.inl rfl),nP h.tk (.inr (.inl rfl)),trivial⟩ h.apart (mW h.mem h.mine)
  ⟨iQ (Dw.enters_of (by kernel_rfl)) (by rfl) [.int .u16 0,.bool s.uw,.bool true] (.int .u16 x) (fun j=>af (ai rfl) (af (aU hd.b6) (af (aU rfl) RL.nil))) (fun j=>ai ex) (fun w F q hf=>by rw [gI];exact zsT (.inl rfl) w),
   PD (k:=2) hN hd.p (Dx hd4 hd.us ⟨dG.1,by omega⟩ ⟨by decide,by decide⟩) (by omega) (.inr (.inl rfl)) (by omega) ex (.inr (.inr rfl)),trivial⟩ (af (gM hj1) RL.nil) (aH.2 ⟨by rw [gZ,hd.wr,aC];exact yar hw,aR.2 trivial⟩)) fun e w' hh=> ?_
 obtain ⟨p,hpm,hto,l,hl,j,he⟩:=hh;have aV:=he.sub _ _ hj1;have aY:=he.sub _ _ hj2;have dN:=bE aV;have dR:=bE aY;have hmv:=he.mv;have bS:=h.kA hmv;obtain ⟨g',hg0,hgm⟩:=nM he.eY;unfold YM at hpm;simp only [yad,yag,yaB] at hpm;rcases hpm with rfl
 all_goals
  simp only [aH,aR,bR,iI,gZ,je,aC,hd.n,hd.b0,hd.wr,yat,yas,ya7,yaH,ycX,yaN] at hto;cases hl;have hO:=(he.rows.1 _ aV).2 (.inr (.inl rfl)) rfl;have hM:=he.maps.1 _ aY;cases hg0;simp only [AV.val,AV.aI,dN,dR,hd.n,hd.d,hd.v,hd.c,hd.nx,hd.us,hd.hd,hd.wr,hd.ou,hd.p,hd.sv,gV,aC,bR,jd,hd.op,hd.b0,hd.b1,hd.b2,hd.b3,hd.b4,hd.b5,hd.b6] at hO;have hR:=he.ret;simp only [AV.val,AV.aI,aC,hd.nx,hd.us] at hR
 ·exact ⟨hR,h.next hmv hgm ⟨_,hO,hsv.kept bS⟩ (h.tk.same bS hM) ⟨h.pb.nx,h.pb.us,h.pb.ou,h.pb.hd,h.pb.wr,by show 10≤11;decide,fun _=>h.pb.ret (by omega)⟩,hmv⟩
theorem Tryz.zql {A:Nat→Prop} {w:World} {S P L Bs B M N:Nat} {r:Rg} {s:PS} {g:Nat→Int} (h:PW A w S P L Bs B M N r s g) (hb:s.br=false) (hp:s.ph=9) (hw:0<s.wr):
  Calls prog 27 #[.pointer (some ⟨S,0,none⟩)] w fun e w'=>e= .returned (.tuple #[.agg #[.int .i64 3,.int .i64 1,.int .i64 s.us],.int .i64 0])∧PW A w' S P L Bs B M N r (s.goto 10) (dS g (4096+16*s.us+14).toNat 2 (2+if s.uw then 32896 else 0))∧Dw.Mv (sK S M B) w w':=by
 obtain ⟨sv,ho,hsv⟩:=h.obj;have hrg:=h.rg;have q1:=hrg.bnd;have q2:=hrg.d;have q3:=hrg.v;have q4:=hrg.c;have hpb:=h.pb;have hnx:=hpb.nx;have dG:=hpb.us;have hou:=hpb.ou;have hon:=ko h.tk.dH;have hN:=h.hN;have hf:=h.fit;obtain ⟨x,gI⟩: ∃x:Int,x=2+(if s.uw then 32896 else 0):=⟨_,rfl⟩;have hx0:0≤x∧x<65536:=by rw [gI];split<;>omega
 rw [←gI];have hd:=jT hrg hpb (by rw [hou.1];exact hon) [0,0,0,0,0,0,0,0,x] [] (.pointer (some ⟨P,0,none⟩)) sv undef;have ex:(aK 18).den (bH r s [0,0,0,0,0,0,0,0,x] [] (.pointer (some ⟨P,0,none⟩)) sv undef)=x:=jC hx0.1 hx0.2;generalize bH r s [0,0,0,0,0,0,0,0,x] [] (.pointer (some ⟨P,0,none⟩)) sv undef=ρ at hd ex;have hj2:aT [(S,0),(M,0)] 2=some ⟨M,0,0,none⟩:=rfl;have hj1:aT [(S,0),(M,0)] 1=some ⟨S,0,0,none⟩:=rfl;have hd4:=hd.d.trans q2;refine yaq (zap (ρ:=ρ) (K:=sK S M B) (g:=(jQ P L Bs B N [g,dS g (4096+16*s.us+14).toNat 2 x])) (bl:= [(S,0),(M,0)]) (vals:= [.pointer (some ⟨S,0,none⟩)]) mixed zqj zuu h.gP
  ⟨fe ho (jS hd hb (by rw [hp];rfl) hsv.one hj2) (.inl rfl),nP h.tk (.inr (.inl rfl)),trivial⟩ h.apart (mW h.mem h.mine)
  ⟨iQ (Dw.enters_of (by kernel_rfl)) (by rfl) [.int .u16 2,.bool s.uw,.bool true] (.int .u16 x) (fun j=>af (ai rfl) (af (aU hd.b6) (af (aU rfl) RL.nil))) (fun j=>ai ex) (fun w F q hf=>by rw [gI];exact zsT (.inr rfl) w),
   PD (k:=2) hN hd.p (Dx hd4 hd.us ⟨dG.1,by omega⟩ ⟨by decide,by decide⟩) (by omega) (.inr (.inl rfl)) (by omega) ex (.inr (.inr rfl)),trivial⟩ (af (gM hj1) RL.nil) (aH.2 ⟨by rw [gZ,hd.wr,aC];exact yaG hw,aR.2 trivial⟩)) fun e w' hh=> ?_
 obtain ⟨p,hpm,hto,l,hl,j,he⟩:=hh;have aV:=he.sub _ _ hj1;have aY:=he.sub _ _ hj2;have dN:=bE aV;have dR:=bE aY;have hmv:=he.mv;have bS:=h.kA hmv;obtain ⟨g',hg0,hgm⟩:=nM he.eY;unfold YK at hpm;simp only [yad,yag,yaB] at hpm;rcases hpm with rfl
 all_goals
  simp only [aH,aR,bR,iI,gZ,je,aC,hd.n,hd.b0,hd.wr,yat,yas,ya7,yaH,ycX,yaN] at hto;cases hl;have hO:=(he.rows.1 _ aV).2 (.inr (.inl rfl)) rfl;have hM:=he.maps.1 _ aY;cases hg0;simp only [AV.val,AV.aI,dN,dR,hd.n,hd.d,hd.v,hd.c,hd.nx,hd.us,hd.hd,hd.wr,hd.ou,hd.p,hd.sv,gV,aC,bR,jd,hd.op,hd.b0,hd.b1,hd.b2,hd.b3,hd.b4,hd.b5,hd.b6] at hO;have hR:=he.ret;simp only [AV.val,AV.aI,aC,hd.nx,hd.us] at hR
 ·exact ⟨hR,h.next hmv hgm ⟨_,hO,hsv.kept bS⟩ (h.tk.same bS hM) ⟨h.pb.nx,h.pb.us,h.pb.ou,h.pb.hd,h.pb.wr,by show 10≤11;decide,fun _=>h.pb.ret (by omega)⟩,hmv⟩
theorem Tryz.zuj {A:Nat→Prop} {w:World} {S P L Bs B M N:Nat} {r:Rg} {s:PS} {g:Nat→Int} (h:PW A w S P L Bs B M N r s g) (hb:s.br=false) (hp:s.ph=11) {t:bN} (ht:bY s.hd s.tk=some t) (h0:(ax g r.v.toNat 4)/65536%4=0):
  Calls prog 27 #[.pointer (some ⟨S,0,none⟩)] w fun e w'=>e= .returned (.tuple #[.agg #[.int .i64 2,.int .i64 10,.int .i64 0],.int .i64 0])∧PW A w' S P L Bs B M N r (({ s with us:=(aZ r.n s.us s.uw t.ct).1,uw:=(aZ r.n s.us s.uw t.ct).2,it:=lD r.n (aZ r.n s.us s.uw t.ct).1 (aZ r.n s.us s.uw t.ct).2 t.ct (ax g r.v.toNat 4) s.it,tk:=iB s.hd s.tk,ou:=s.ou-t.ct }:PS).stop) g∧Dw.Mv (sK S M B) w w':=by
 obtain ⟨sv,ho,hsv⟩:=h.obj;have hrg:=h.rg;have q1:=hrg.bnd;have q2:=hrg.d;have q3:=hrg.v;have q4:=hrg.c;have hpb:=h.pb;have hnx:=hpb.nx;have dG:=hpb.us;have hou:=hpb.ou;have hon:=ko h.tk.dH;have hN:=h.hN;have hf:=h.fit;have htr:1≤t.ct∧t.ct≤r.n:=(h.tk.dH _ (qJ ht)).2;obtain ⟨hx0,hx1⟩:=FW h.mem.byte r.v.toNat;obtain ⟨x,gI⟩: ∃x,x=ax g r.v.toNat 4:=⟨_,rfl⟩;rw [←gI] at hx0 hx1 h0 ⊢;obtain ⟨u,kH⟩: ∃u,u=aZ r.n s.us s.uw t.ct:=⟨_,rfl⟩;rw [←kH];have hu:0≤u.1∧u.1<r.n:=by rw [kH];unfold aZ;split<;>(simp only;omega)
 obtain ⟨u1,u2⟩:=u;simp only at hu ⊢;obtain ⟨nd,hnd⟩: ∃nd,nd=oO r.n (x%32768) (decide (x/32768%2=1)) u1 u2 t.ct:=⟨_,rfl⟩;obtain ⟨v2,hv2,sZ⟩: ∃v2,(∀arr clock,w.heap[M]? =some (.map arr clock)→dz arr s.hd=some (.agg #[.int .i64 s.hd,.int .i64 t.ct,v2]))∧v2.oneCell'=true:=by
  obtain ⟨oZ,clock1,g1,g2,g3⟩:=h.tk.map;obtain ⟨v0,h1,h2⟩:=(g3 s.hd).2 t ht;exact ⟨v0,fun arr clock hm=>by rw [g1] at hm;cases hm;exact h1,h2.one⟩
 have hct:IntKind.wrap .i64 (s.ou-t.ct)=s.ou-t.ct:=gy (by omega) (by omega);have hd:=jT hrg hpb (by rw [hou.1];exact hon) [0,x,0,0,t.ct,u1] [false,u2,nd] (.pointer (some ⟨P,0,none⟩)) sv v2;have ex:(aW 11).den (bH r s [0,x,0,0,t.ct,u1] [false,u2,nd] (.pointer (some ⟨P,0,none⟩)) sv v2)=x:=lU hx0 hx1;have ei:((bH r s [0,x,0,0,t.ct,u1] [false,u2,nd] (.pointer (some ⟨P,0,none⟩)) sv v2)).i 11=x:=rfl;have e14:(ah 14).den (bH r s [0,x,0,0,t.ct,u1] [false,u2,nd] (.pointer (some ⟨P,0,none⟩)) sv v2)=t.ct:=dK (by show 0≤t.ct;omega) (by show t.ct<_;omega);have e15:(ah 15).den (bH r s [0,x,0,0,t.ct,u1] [false,u2,nd] (.pointer (some ⟨P,0,none⟩)) sv v2)=u1:=dK hu.1 (by show u1<_;omega);have b8:((bH r s [0,x,0,0,t.ct,u1] [false,u2,nd] (.pointer (some ⟨P,0,none⟩)) sv v2)).b 8=u2:=rfl;have b9:((bH r s [0,x,0,0,t.ct,u1] [false,u2,nd] (.pointer (some ⟨P,0,none⟩)) sv v2)).b 9=nd:=rfl;have nA:((bH r s [0,x,0,0,t.ct,u1] [false,u2,nd] (.pointer (some ⟨P,0,none⟩)) sv v2)).v 2=v2:=rfl;generalize bH r s [0,x,0,0,t.ct,u1] [false,u2,nd] (.pointer (some ⟨P,0,none⟩)) sv v2=ρ at hd ex ei e14 e15 b8 b9 nA;have hj2:aT [(S,0),(M,0)] 2=some ⟨M,0,0,none⟩:=rfl;have hj1:aT [(S,0),(M,0)] 1=some ⟨S,0,0,none⟩:=rfl;have hd4:=hd.d.trans q2;have f16:SE.den ρ (.aQ [⟨11,0,4294967295,16,2,0⟩] 0)=x/65536%4:=(jB (by rw [ei];exact hx0) (by rw [ei];show x≤4294967295;omega)).trans (by rw [ei];show x/65536%4*1=_;omega);have f15:SE.den ρ (.aQ [⟨11,0,4294967295,0,15,0⟩] 0)=x%32768:=(jB (by rw [ei];exact hx0) (by rw [ei];show x≤4294967295;omega)).trans (by rw [ei];show x/1%32768*1=_;omega);have f1:SE.den ρ (.aQ [⟨11,0,4294967295,15,1,0⟩] 0)=x/32768%2:=(jB (by rw [ei];exact hx0) (by rw [ei];show x≤4294967295;omega)).trans (by rw [ei];show x/32768%2*1=_;omega);refine yaq (zap (ρ:=ρ) (K:=sK S M B) (g:=(jQ P L Bs B N [g])) (bl:= [(S,0),(M,0)]) (vals:= [.pointer (some ⟨S,0,none⟩)]) mixed zuh zwr h.gP
  ⟨fe ho (jS hd hb (by rw [hp];rfl) hsv.one hj2) (.inl rfl),Ai h.tk (.inr (.inl rfl)) hd.hd (o:=some (.agg [.int .i64 (aK 7),.int .i64 (ah 14),.cst 2 none])) (ov:=some (.agg #[.int .i64 s.hd,.int .i64 t.ct,v2])) ⟨_,rfl,dO (af (ai hd.hd) (af (ai e14) (af (gY nA sZ) RL.nil)))⟩ hv2,trivial⟩ h.apart (mW h.mem h.mine)
  ⟨IG hN hd.p hd.v (by omega) (by omega) (ex.trans gI),
   iQ (Dw.enters_of (by kernel_rfl)) (by rfl) [bQ s.us s.uw,.int .i64 t.ct,.int .i64 r.n] (.tuple #[bQ u1 u2,.int .i64 0]) (fun j=>af (dO (af (ai hd.us) (af (aU hd.b6) RL.nil))) (af (ai e14) (af (ai hd.n) RL.nil))) (fun j=>kM (af (dO (af (ai e15) (af (aU b8) RL.nil))) (af (ai rfl) RL.nil))) (fun w F q hf=>by have:=AU (n:=r.n) (a:=s.us) (c:=t.ct) (x:=s.uw) ⟨q1.1,by omega⟩ dG ⟨by omega,htr.2⟩ w;rw [←kH] at this;exact this),trivial⟩ (af (gM hj1) RL.nil) (aH.2 ⟨by rw [iI,f16,aC];exact ya7.2 h0,aR.2 trivial⟩)) fun e w' hh=> ?_
 obtain ⟨p,hpm,hto,l,hl,j,he⟩:=hh;have aV:=he.sub _ _ hj1;have aY:=he.sub _ _ hj2;have dN:=bE aV;have dR:=bE aY;have hmv:=he.mv;have bS:=h.kA hmv;obtain ⟨g',hg0,hgm⟩:=nM he.eY;unfold znr at hpm;simp only [yad,yag,yaB] at hpm;rcases hpm with rfl
 all_goals
  simp only [aH,aR,bR,iI,gZ,je,aC,hd.n,hd.b0,hd.wr,f16,f15,yat,yas,ya7,yaH,ycX,yaN] at hto;cases hl;have hO:=(he.rows.1 _ aV).2 (.inr (.inl rfl)) rfl;have hM:=he.maps.1 _ aY;cases hg0;simp only [AV.val,AV.aI,dN,dR,hd.n,hd.d,hd.v,hd.c,hd.nx,hd.us,hd.hd,hd.wr,hd.ou,hd.p,hd.sv,gV,aC,bR,jd,hd.op,hd.b0,hd.b1,hd.b2,hd.b3,hd.b4,hd.b5,hd.b6,den_add,iG,e14,e15,b8,b9,hct] at hO;have hR:=he.ret;simp only [AV.val,AV.aI,aC,hd.nx,hd.us] at hR
 ·rw [show lD r.n u1 u2 t.ct x s.it=true from by unfold lD;rw [yaj h0]];refine ⟨hR,h.next hmv hgm ⟨_,hO,hsv.kept bS⟩ (h.tk.del bS ?_) ⟨h.pb.nx,hu,⟨?_,?_⟩,h.pb.hd,h.pb.wr,by show 0≤11;decide,fun h7=>absurd h7 (by show¬7≤0;decide)⟩,hmv⟩
  ·obtain ⟨arr,clock,dm,eU,m1,m2,m3,m4⟩:=hM;refine ⟨arr,clock,dm,eU,m1,m2,m3,fun k=> ?_⟩;rw [m4 k];simp only [uD,AV.val,hd.hd,Dw.intOf,yaK,ya8,nG]
  ·show s.ou-t.ct=gX (iB s.hd s.tk);rw [Dm ht,hou.1]
  ·show s.ou-t.ct≤r.n;omega
theorem Tryz.zp9 {A:Nat→Prop} {w:World} {S P L Bs B M N:Nat} {r:Rg} {s:PS} {g:Nat→Int} (h:PW A w S P L Bs B M N r s g) (hb:s.br=false) (hp:s.ph=11) {t:bN} (ht:bY s.hd s.tk=some t) (h0: ¬(ax g r.v.toNat 4)/65536%4=0) (h2:(ax g r.v.toNat 4)/65536%4=2) (h3:r.n≤(ax g r.v.toNat 4)%32768):
  Calls prog 27 #[.pointer (some ⟨S,0,none⟩)] w fun e w'=>e= .returned (.tuple #[.agg #[.int .i64 2,.int .i64 10,.int .i64 0],.int .i64 0])∧PW A w' S P L Bs B M N r (({ s with us:=(aZ r.n s.us s.uw t.ct).1,uw:=(aZ r.n s.us s.uw t.ct).2,it:=lD r.n (aZ r.n s.us s.uw t.ct).1 (aZ r.n s.us s.uw t.ct).2 t.ct (ax g r.v.toNat 4) s.it,tk:=iB s.hd s.tk,ou:=s.ou-t.ct }:PS).stop) g∧Dw.Mv (sK S M B) w w':=by
 obtain ⟨sv,ho,hsv⟩:=h.obj;have hrg:=h.rg;have q1:=hrg.bnd;have q2:=hrg.d;have q3:=hrg.v;have q4:=hrg.c;have hpb:=h.pb;have hnx:=hpb.nx;have dG:=hpb.us;have hou:=hpb.ou;have hon:=ko h.tk.dH;have hN:=h.hN;have hf:=h.fit;have htr:1≤t.ct∧t.ct≤r.n:=(h.tk.dH _ (qJ ht)).2;obtain ⟨hx0,hx1⟩:=FW h.mem.byte r.v.toNat;obtain ⟨x,gI⟩: ∃x,x=ax g r.v.toNat 4:=⟨_,rfl⟩;rw [←gI] at hx0 hx1 h0 h2 h3 ⊢;obtain ⟨u,kH⟩: ∃u,u=aZ r.n s.us s.uw t.ct:=⟨_,rfl⟩;rw [←kH];have hu:0≤u.1∧u.1<r.n:=by rw [kH];unfold aZ;split<;>(simp only;omega)
 obtain ⟨u1,u2⟩:=u;simp only at hu ⊢;obtain ⟨nd,hnd⟩: ∃nd,nd=oO r.n (x%32768) (decide (x/32768%2=1)) u1 u2 t.ct:=⟨_,rfl⟩;obtain ⟨v2,hv2,sZ⟩: ∃v2,(∀arr clock,w.heap[M]? =some (.map arr clock)→dz arr s.hd=some (.agg #[.int .i64 s.hd,.int .i64 t.ct,v2]))∧v2.oneCell'=true:=by
  obtain ⟨oZ,clock1,g1,g2,g3⟩:=h.tk.map;obtain ⟨v0,h1,h2⟩:=(g3 s.hd).2 t ht;exact ⟨v0,fun arr clock hm=>by rw [g1] at hm;cases hm;exact h1,h2.one⟩
 have hct:IntKind.wrap .i64 (s.ou-t.ct)=s.ou-t.ct:=gy (by omega) (by omega);have hd:=jT hrg hpb (by rw [hou.1];exact hon) [0,x,0,0,t.ct,u1] [false,u2,nd] (.pointer (some ⟨P,0,none⟩)) sv v2;have ex:(aW 11).den (bH r s [0,x,0,0,t.ct,u1] [false,u2,nd] (.pointer (some ⟨P,0,none⟩)) sv v2)=x:=lU hx0 hx1;have ei:((bH r s [0,x,0,0,t.ct,u1] [false,u2,nd] (.pointer (some ⟨P,0,none⟩)) sv v2)).i 11=x:=rfl;have e14:(ah 14).den (bH r s [0,x,0,0,t.ct,u1] [false,u2,nd] (.pointer (some ⟨P,0,none⟩)) sv v2)=t.ct:=dK (by show 0≤t.ct;omega) (by show t.ct<_;omega);have e15:(ah 15).den (bH r s [0,x,0,0,t.ct,u1] [false,u2,nd] (.pointer (some ⟨P,0,none⟩)) sv v2)=u1:=dK hu.1 (by show u1<_;omega);have b8:((bH r s [0,x,0,0,t.ct,u1] [false,u2,nd] (.pointer (some ⟨P,0,none⟩)) sv v2)).b 8=u2:=rfl;have b9:((bH r s [0,x,0,0,t.ct,u1] [false,u2,nd] (.pointer (some ⟨P,0,none⟩)) sv v2)).b 9=nd:=rfl;have nA:((bH r s [0,x,0,0,t.ct,u1] [false,u2,nd] (.pointer (some ⟨P,0,none⟩)) sv v2)).v 2=v2:=rfl;generalize bH r s [0,x,0,0,t.ct,u1] [false,u2,nd] (.pointer (some ⟨P,0,none⟩)) sv v2=ρ at hd ex ei e14 e15 b8 b9 nA;have hj2:aT [(S,0),(M,0)] 2=some ⟨M,0,0,none⟩:=rfl;have hj1:aT [(S,0),(M,0)] 1=some ⟨S,0,0,none⟩:=rfl;have hd4:=hd.d.trans q2;have f16:SE.den ρ (.aQ [⟨11,0,4294967295,16,2,0⟩] 0)=x/65536%4:=(jB (by rw [ei];exact hx0) (by rw [ei];show x≤4294967295;omega)).trans (by rw [ei];show x/65536%4*1=_;omega);have f15:SE.den ρ (.aQ [⟨11,0,4294967295,0,15,0⟩] 0)=x%32768:=(jB (by rw [ei];exact hx0) (by rw [ei];show x≤4294967295;omega)).trans (by rw [ei];show x/1%32768*1=_;omega);have f1:SE.den ρ (.aQ [⟨11,0,4294967295,15,1,0⟩] 0)=x/32768%2:=(jB (by rw [ei];exact hx0) (by rw [ei];show x≤4294967295;omega)).trans (by rw [ei];show x/32768%2*1=_;omega);refine yaq (zap (ρ:=ρ) (K:=sK S M B) (g:=(jQ P L Bs B N [g])) (bl:= [(S,0),(M,0)]) (vals:= [.pointer (some ⟨S,0,none⟩)]) mixed zp7 zuf h.gP
  ⟨fe ho (jS hd hb (by rw [hp];rfl) hsv.one hj2) (.inl rfl),Ai h.tk (.inr (.inl rfl)) hd.hd (o:=some (.agg [.int .i64 (aK 7),.int .i64 (ah 14),.cst 2 none])) (ov:=some (.agg #[.int .i64 s.hd,.int .i64 t.ct,v2])) ⟨_,rfl,dO (af (ai hd.hd) (af (ai e14) (af (gY nA sZ) RL.nil)))⟩ hv2,trivial⟩ h.apart (mW h.mem h.mine)
  ⟨IG hN hd.p hd.v (by omega) (by omega) (ex.trans gI),
   iQ (Dw.enters_of (by kernel_rfl)) (by rfl) [bQ s.us s.uw,.int .i64 t.ct,.int .i64 r.n] (.tuple #[bQ u1 u2,.int .i64 0]) (fun j=>af (dO (af (ai hd.us) (af (aU hd.b6) RL.nil))) (af (ai e14) (af (ai hd.n) RL.nil))) (fun j=>kM (af (dO (af (ai e15) (af (aU b8) RL.nil))) (af (ai rfl) RL.nil))) (fun w F q hf=>by have:=AU (n:=r.n) (a:=s.us) (c:=t.ct) (x:=s.uw) ⟨q1.1,by omega⟩ dG ⟨by omega,htr.2⟩ w;rw [←kH] at this;exact this),trivial⟩ (af (gM hj1) RL.nil) (aH.2 ⟨by rw [iI,f16,aC];exact yaH.2 h0,(aH.2 ⟨by rw [iI,f16,aC];exact ya7.2 h2,(aH.2 ⟨by rw [je,f15,hd.n];exact yaG (by omega),aR.2 trivial⟩)⟩)⟩)) fun e w' hh=> ?_
 obtain ⟨p,hpm,hto,l,hl,j,he⟩:=hh;have aV:=he.sub _ _ hj1;have aY:=he.sub _ _ hj2;have dN:=bE aV;have dR:=bE aY;have hmv:=he.mv;have bS:=h.kA hmv;obtain ⟨g',hg0,hgm⟩:=nM he.eY;unfold Y0 at hpm;simp only [yad,yag,yaB] at hpm;rcases hpm with rfl
 all_goals
  simp only [aH,aR,bR,iI,gZ,je,aC,hd.n,hd.b0,hd.wr,f16,f15,yat,yas,ya7,yaH,ycX,yaN] at hto;cases hl;have hO:=(he.rows.1 _ aV).2 (.inr (.inl rfl)) rfl;have hM:=he.maps.1 _ aY;cases hg0;simp only [AV.val,AV.aI,dN,dR,hd.n,hd.d,hd.v,hd.c,hd.nx,hd.us,hd.hd,hd.wr,hd.ou,hd.p,hd.sv,gV,aC,bR,jd,hd.op,hd.b0,hd.b1,hd.b2,hd.b3,hd.b4,hd.b5,hd.b6,den_add,iG,e14,e15,b8,b9,hct] at hO;have hR:=he.ret;simp only [AV.val,AV.aI,aC,hd.nx,hd.us] at hR
 ·rw [show lD r.n u1 u2 t.ct x s.it=true from by unfold lD;rw [yai h0,yaj h2,yai (by omega)]];refine ⟨hR,h.next hmv hgm ⟨_,hO,hsv.kept bS⟩ (h.tk.del bS ?_) ⟨h.pb.nx,hu,⟨?_,?_⟩,h.pb.hd,h.pb.wr,by show 0≤11;decide,fun h7=>absurd h7 (by show¬7≤0;decide)⟩,hmv⟩
  ·obtain ⟨arr,clock,dm,eU,m1,m2,m3,m4⟩:=hM;refine ⟨arr,clock,dm,eU,m1,m2,m3,fun k=> ?_⟩;rw [m4 k];simp only [uD,AV.val,hd.hd,Dw.intOf,yaK,ya8,nG]
  ·show s.ou-t.ct=gX (iB s.hd s.tk);rw [Dm ht,hou.1]
  ·show s.ou-t.ct≤r.n;omega
theorem Tryz.zqc {A:Nat→Prop} {w:World} {S P L Bs B M N:Nat} {r:Rg} {s:PS} {g:Nat→Int} (h:PW A w S P L Bs B M N r s g) (hb:s.br=false) (hp:s.ph=11) {t:bN} (ht:bY s.hd s.tk=some t) (h0: ¬(ax g r.v.toNat 4)/65536%4=0) (h2:(ax g r.v.toNat 4)/65536%4=2) (h3:(ax g r.v.toNat 4)%32768<r.n):
  Calls prog 27 #[.pointer (some ⟨S,0,none⟩)] w fun e w'=>e= .returned (.tuple #[.agg #[.int .i64 2,.int .i64 10,.int .i64 0],.int .i64 0])∧PW A w' S P L Bs B M N r (({ s with us:=(aZ r.n s.us s.uw t.ct).1,uw:=(aZ r.n s.us s.uw t.ct).2,it:=lD r.n (aZ r.n s.us s.uw t.ct).1 (aZ r.n s.us s.uw t.ct).2 t.ct (ax g r.v.toNat 4) s.it,tk:=iB s.hd s.tk,ou:=s.ou-t.ct }:PS).stop) g∧Dw.Mv (sK S M B) w w':=by
 obtain ⟨sv,ho,hsv⟩:=h.obj;have hrg:=h.rg;have q1:=hrg.bnd;have q2:=hrg.d;have q3:=hrg.v;have q4:=hrg.c;have hpb:=h.pb;have hnx:=hpb.nx;have dG:=hpb.us;have hou:=hpb.ou;have hon:=ko h.tk.dH;have hN:=h.hN;have hf:=h.fit;have htr:1≤t.ct∧t.ct≤r.n:=(h.tk.dH _ (qJ ht)).2;obtain ⟨hx0,hx1⟩:=FW h.mem.byte r.v.toNat;obtain ⟨x,gI⟩: ∃x,x=ax g r.v.toNat 4:=⟨_,rfl⟩;rw [←gI] at hx0 hx1 h0 h2 h3 ⊢;obtain ⟨u,kH⟩: ∃u,u=aZ r.n s.us s.uw t.ct:=⟨_,rfl⟩;rw [←kH];have hu:0≤u.1∧u.1<r.n:=by rw [kH];unfold aZ;split<;>(simp only;omega)
 obtain ⟨u1,u2⟩:=u;simp only at hu ⊢;obtain ⟨nd,hnd⟩: ∃nd,nd=oO r.n (x%32768) (decide (x/32768%2=1)) u1 u2 t.ct:=⟨_,rfl⟩;obtain ⟨v2,hv2,sZ⟩: ∃v2,(∀arr clock,w.heap[M]? =some (.map arr clock)→dz arr s.hd=some (.agg #[.int .i64 s.hd,.int .i64 t.ct,v2]))∧v2.oneCell'=true:=by
  obtain ⟨oZ,clock1,g1,g2,g3⟩:=h.tk.map;obtain ⟨v0,h1,h2⟩:=(g3 s.hd).2 t ht;exact ⟨v0,fun arr clock hm=>by rw [g1] at hm;cases hm;exact h1,h2.one⟩
 have hct:IntKind.wrap .i64 (s.ou-t.ct)=s.ou-t.ct:=gy (by omega) (by omega);have hd:=jT hrg hpb (by rw [hou.1];exact hon) [0,x,0,0,t.ct,u1] [false,u2,nd] (.pointer (some ⟨P,0,none⟩)) sv v2;have ex:(aW 11).den (bH r s [0,x,0,0,t.ct,u1] [false,u2,nd] (.pointer (some ⟨P,0,none⟩)) sv v2)=x:=lU hx0 hx1;have ei:((bH r s [0,x,0,0,t.ct,u1] [false,u2,nd] (.pointer (some ⟨P,0,none⟩)) sv v2)).i 11=x:=rfl;have e14:(ah 14).den (bH r s [0,x,0,0,t.ct,u1] [false,u2,nd] (.pointer (some ⟨P,0,none⟩)) sv v2)=t.ct:=dK (by show 0≤t.ct;omega) (by show t.ct<_;omega);have e15:(ah 15).den (bH r s [0,x,0,0,t.ct,u1] [false,u2,nd] (.pointer (some ⟨P,0,none⟩)) sv v2)=u1:=dK hu.1 (by show u1<_;omega);have b8:((bH r s [0,x,0,0,t.ct,u1] [false,u2,nd] (.pointer (some ⟨P,0,none⟩)) sv v2)).b 8=u2:=rfl;have b9:((bH r s [0,x,0,0,t.ct,u1] [false,u2,nd] (.pointer (some ⟨P,0,none⟩)) sv v2)).b 9=nd:=rfl;have nA:((bH r s [0,x,0,0,t.ct,u1] [false,u2,nd] (.pointer (some ⟨P,0,none⟩)) sv v2)).v 2=v2:=rfl;generalize bH r s [0,x,0,0,t.ct,u1] [false,u2,nd] (.pointer (some ⟨P,0,none⟩)) sv v2=ρ at hd ex ei e14 e15 b8 b9 nA;have hj2:aT [(S,0),(M,0)] 2=some ⟨M,0,0,none⟩:=rfl;have hj1:aT [(S,0),(M,0)] 1=some ⟨S,0,0,none⟩:=rfl;have hd4:=hd.d.trans q2;have f16:SE.den ρ (.aQ [⟨11,0,4294967295,16,2,0⟩] 0)=x/65536%4:=(jB (by rw [ei];exact hx0) (by rw [ei];show x≤4294967295;omega)).trans (by rw [ei];show x/65536%4*1=_;omega);have f15:SE.den ρ (.aQ [⟨11,0,4294967295,0,15,0⟩] 0)=x%32768:=(jB (by rw [ei];exact hx0) (by rw [ei];show x≤4294967295;omega)).trans (by rw [ei];show x/1%32768*1=_;omega);have f1:SE.den ρ (.aQ [⟨11,0,4294967295,15,1,0⟩] 0)=x/32768%2:=(jB (by rw [ei];exact hx0) (by rw [ei];show x≤4294967295;omega)).trans (by rw [ei];show x/32768%2*1=_;omega);refine yaq (zap (ρ:=ρ) (K:=sK S M B) (g:=(jQ P L Bs B N [g])) (bl:= [(S,0),(M,0)]) (vals:= [.pointer (some ⟨S,0,none⟩)]) mixed zqa zug h.gP
  ⟨fe ho (jS hd hb (by rw [hp];rfl) hsv.one hj2) (.inl rfl),Ai h.tk (.inr (.inl rfl)) hd.hd (o:=some (.agg [.int .i64 (aK 7),.int .i64 (ah 14),.cst 2 none])) (ov:=some (.agg #[.int .i64 s.hd,.int .i64 t.ct,v2])) ⟨_,rfl,dO (af (ai hd.hd) (af (ai e14) (af (gY nA sZ) RL.nil)))⟩ hv2,trivial⟩ h.apart (mW h.mem h.mine)
  ⟨IG hN hd.p hd.v (by omega) (by omega) (ex.trans gI),
   iQ (Dw.enters_of (by kernel_rfl)) (by rfl) [bQ s.us s.uw,.int .i64 t.ct,.int .i64 r.n] (.tuple #[bQ u1 u2,.int .i64 0]) (fun j=>af (dO (af (ai hd.us) (af (aU hd.b6) RL.nil))) (af (ai e14) (af (ai hd.n) RL.nil))) (fun j=>kM (af (dO (af (ai e15) (af (aU b8) RL.nil))) (af (ai rfl) RL.nil))) (fun w F q hf=>by have:=AU (n:=r.n) (a:=s.us) (c:=t.ct) (x:=s.uw) ⟨q1.1,by omega⟩ dG ⟨by omega,htr.2⟩ w;rw [←kH] at this;exact this),
   zE3 hd.n e14 e15 b8 b9 f15 f1 hnd ⟨q1.1,by omega⟩ h3 hu ⟨by omega,htr.2⟩,trivial⟩ (af (gM hj1) RL.nil) (aH.2 ⟨by rw [iI,f16,aC];exact yaH.2 h0,(aH.2 ⟨by rw [iI,f16,aC];exact ya7.2 h2,(aH.2 ⟨by rw [je,f15,hd.n];exact yar (by omega),aR.2 trivial⟩)⟩)⟩)) fun e w' hh=> ?_
 obtain ⟨p,hpm,hto,l,hl,j,he⟩:=hh;have aV:=he.sub _ _ hj1;have aY:=he.sub _ _ hj2;have dN:=bE aV;have dR:=bE aY;have hmv:=he.mv;have bS:=h.kA hmv;obtain ⟨g',hg0,hgm⟩:=nM he.eY;unfold Y2 at hpm;simp only [yad,yag,yaB] at hpm;rcases hpm with rfl
 all_goals
  simp only [aH,aR,bR,iI,gZ,je,aC,hd.n,hd.b0,hd.wr,f16,f15,yat,yas,ya7,yaH,ycX,yaN] at hto;cases hl;have hO:=(he.rows.1 _ aV).2 (.inr (.inl rfl)) rfl;have hM:=he.maps.1 _ aY;cases hg0;simp only [AV.val,AV.aI,dN,dR,hd.n,hd.d,hd.v,hd.c,hd.nx,hd.us,hd.hd,hd.wr,hd.ou,hd.p,hd.sv,gV,aC,bR,jd,hd.op,hd.b0,hd.b1,hd.b2,hd.b3,hd.b4,hd.b5,hd.b6,den_add,iG,e14,e15,b8,b9,hct] at hO;have hR:=he.ret;simp only [AV.val,AV.aI,aC,hd.nx,hd.us] at hR
 ·rw [show lD r.n u1 u2 t.ct x s.it=nd from by unfold lD;rw [yai h0,yaj h2,yaj h3,←hnd]];refine ⟨hR,h.next hmv hgm ⟨_,hO,hsv.kept bS⟩ (h.tk.del bS ?_) ⟨h.pb.nx,hu,⟨?_,?_⟩,h.pb.hd,h.pb.wr,by show 0≤11;decide,fun h7=>absurd h7 (by show¬7≤0;decide)⟩,hmv⟩
  ·obtain ⟨arr,clock,dm,eU,m1,m2,m3,m4⟩:=hM;refine ⟨arr,clock,dm,eU,m1,m2,m3,fun k=> ?_⟩;rw [m4 k];simp only [uD,AV.val,hd.hd,Dw.intOf,yaK,ya8,nG]
  ·show s.ou-t.ct=gX (iB s.hd s.tk);rw [Dm ht,hou.1]
  ·show s.ou-t.ct≤r.n;omega
theorem Tryz.zue {A:Nat→Prop} {w:World} {S P L Bs B M N:Nat} {r:Rg} {s:PS} {g:Nat→Int} (h:PW A w S P L Bs B M N r s g) (hb:s.br=false) (hp:s.ph=11) {t:bN} (ht:bY s.hd s.tk=some t) (h0: ¬(ax g r.v.toNat 4)/65536%4=0) (h2: ¬(ax g r.v.toNat 4)/65536%4=2):
  Calls prog 27 #[.pointer (some ⟨S,0,none⟩)] w fun e w'=>e= .returned (.tuple #[.agg #[.int .i64 2,.int .i64 10,.int .i64 0],.int .i64 0])∧PW A w' S P L Bs B M N r (({ s with us:=(aZ r.n s.us s.uw t.ct).1,uw:=(aZ r.n s.us s.uw t.ct).2,it:=lD r.n (aZ r.n s.us s.uw t.ct).1 (aZ r.n s.us s.uw t.ct).2 t.ct (ax g r.v.toNat 4) s.it,tk:=iB s.hd s.tk,ou:=s.ou-t.ct }:PS).stop) g∧Dw.Mv (sK S M B) w w':=by
 obtain ⟨sv,ho,hsv⟩:=h.obj;have hrg:=h.rg;have q1:=hrg.bnd;have q2:=hrg.d;have q3:=hrg.v;have q4:=hrg.c;have hpb:=h.pb;have hnx:=hpb.nx;have dG:=hpb.us;have hou:=hpb.ou;have hon:=ko h.tk.dH;have hN:=h.hN;have hf:=h.fit;have htr:1≤t.ct∧t.ct≤r.n:=(h.tk.dH _ (qJ ht)).2;obtain ⟨hx0,hx1⟩:=FW h.mem.byte r.v.toNat;obtain ⟨x,gI⟩: ∃x,x=ax g r.v.toNat 4:=⟨_,rfl⟩;rw [←gI] at hx0 hx1 h0 h2 ⊢;obtain ⟨u,kH⟩: ∃u,u=aZ r.n s.us s.uw t.ct:=⟨_,rfl⟩;rw [←kH];have hu:0≤u.1∧u.1<r.n:=by rw [kH];unfold aZ;split<;>(simp only;omega)
 obtain ⟨u1,u2⟩:=u;simp only at hu ⊢;obtain ⟨nd,hnd⟩: ∃nd,nd=oO r.n (x%32768) (decide (x/32768%2=1)) u1 u2 t.ct:=⟨_,rfl⟩;obtain ⟨v2,hv2,sZ⟩: ∃v2,(∀arr clock,w.heap[M]? =some (.map arr clock)→dz arr s.hd=some (.agg #[.int .i64 s.hd,.int .i64 t.ct,v2]))∧v2.oneCell'=true:=by
  obtain ⟨oZ,clock1,g1,g2,g3⟩:=h.tk.map;obtain ⟨v0,h1,h2⟩:=(g3 s.hd).2 t ht;exact ⟨v0,fun arr clock hm=>by rw [g1] at hm;cases hm;exact h1,h2.one⟩
 have hct:IntKind.wrap .i64 (s.ou-t.ct)=s.ou-t.ct:=gy (by omega) (by omega);have hd:=jT hrg hpb (by rw [hou.1];exact hon) [0,x,0,0,t.ct,u1] [false,u2,nd] (.pointer (some ⟨P,0,none⟩)) sv v2;have ex:(aW 11).den (bH r s [0,x,0,0,t.ct,u1] [false,u2,nd] (.pointer (some ⟨P,0,none⟩)) sv v2)=x:=lU hx0 hx1;have ei:((bH r s [0,x,0,0,t.ct,u1] [false,u2,nd] (.pointer (some ⟨P,0,none⟩)) sv v2)).i 11=x:=rfl;have e14:(ah 14).den (bH r s [0,x,0,0,t.ct,u1] [false,u2,nd] (.pointer (some ⟨P,0,none⟩)) sv v2)=t.ct:=dK (by show 0≤t.ct;omega) (by show t.ct<_;omega);have e15:(ah 15).den (bH r s [0,x,0,0,t.ct,u1] [false,u2,nd] (.pointer (some ⟨P,0,none⟩)) sv v2)=u1:=dK hu.1 (by show u1<_;omega);have b8:((bH r s [0,x,0,0,t.ct,u1] [false,u2,nd] (.pointer (some ⟨P,0,none⟩)) sv v2)).b 8=u2:=rfl;have b9:((bH r s [0,x,0,0,t.ct,u1] [false,u2,nd] (.pointer (some ⟨P,0,none⟩)) sv v2)).b 9=nd:=rfl;have nA:((bH r s [0,x,0,0,t.ct,u1] [false,u2,nd] (.pointer (some ⟨P,0,none⟩)) sv v2)).v 2=v2:=rfl;generalize bH r s [0,x,0,0,t.ct,u1] [false,u2,nd] (.pointer (some ⟨P,0,none⟩)) sv v2=ρ at hd ex ei e14 e15 b8 b9 nA;have hj2:aT [(S,0),(M,0)] 2=some ⟨M,0,0,none⟩:=rfl;have hj1:aT [(S,0),(M,0)] 1=some ⟨S,0,0,none⟩:=rfl;have hd4:=hd.d.trans q2;have f16:SE.den ρ (.aQ [⟨11,0,4294967295,16,2,0⟩] 0)=x/65536%4:=(jB (by rw [ei];exact hx0) (by rw [ei];show x≤4294967295;omega)).trans (by rw [ei];show x/65536%4*1=_;omega);have f15:SE.den ρ (.aQ [⟨11,0,4294967295,0,15,0⟩] 0)=x%32768:=(jB (by rw [ei];exact hx0) (by rw [ei];show x≤4294967295;omega)).trans (by rw [ei];show x/1%32768*1=_;omega);have f1:SE.den ρ (.aQ [⟨11,0,4294967295,15,1,0⟩] 0)=x/32768%2:=(jB (by rw [ei];exact hx0) (by rw [ei];show x≤4294967295;omega)).trans (by rw [ei];show x/32768%2*1=_;omega);refine yaq (zap (ρ:=ρ) (K:=sK S M B) (g:=(jQ P L Bs B N [g])) (bl:= [(S,0),(M,0)]) (vals:= [.pointer (some ⟨S,0,none⟩)]) mixed zuc zwq h.gP
  ⟨fe ho (jS hd hb (by rw [hp];rfl) hsv.one hj2) (.inl rfl),Ai h.tk (.inr (.inl rfl)) hd.hd (o:=some (.agg [.int .i64 (aK 7),.int .i64 (ah 14),.cst 2 none])) (ov:=some (.agg #[.int .i64 s.hd,.int .i64 t.ct,v2])) ⟨_,rfl,dO (af (ai hd.hd) (af (ai e14) (af (gY nA sZ) RL.nil)))⟩ hv2,trivial⟩ h.apart (mW h.mem h.mine)
  ⟨IG hN hd.p hd.v (by omega) (by omega) (ex.trans gI),
   iQ (Dw.enters_of (by kernel_rfl)) (by rfl) [bQ s.us s.uw,.int .i64 t.ct,.int .i64 r.n] (.tuple #[bQ u1 u2,.int .i64 0]) (fun j=>af (dO (af (ai hd.us) (af (aU hd.b6) RL.nil))) (af (ai e14) (af (ai hd.n) RL.nil))) (fun j=>kM (af (dO (af (ai e15) (af (aU b8) RL.nil))) (af (ai rfl) RL.nil))) (fun w F q hf=>by have:=AU (n:=r.n) (a:=s.us) (c:=t.ct) (x:=s.uw) ⟨q1.1,by omega⟩ dG ⟨by omega,htr.2⟩ w;rw [←kH] at this;exact this),trivial⟩ (af (gM hj1) RL.nil) (aH.2 ⟨by rw [iI,f16,aC];exact yaH.2 h0,(aH.2 ⟨by rw [iI,f16,aC];exact yaH.2 h2,aR.2 trivial⟩)⟩)) fun e w' hh=> ?_
 obtain ⟨p,hpm,hto,l,hl,j,he⟩:=hh;have aV:=he.sub _ _ hj1;have aY:=he.sub _ _ hj2;have dN:=bE aV;have dR:=bE aY;have hmv:=he.mv;have bS:=h.kA hmv;obtain ⟨g',hg0,hgm⟩:=nM he.eY;unfold znp at hpm;simp only [yad,yag,yaB] at hpm;rcases hpm with rfl
 all_goals
  simp only [aH,aR,bR,iI,gZ,je,aC,hd.n,hd.b0,hd.wr,f16,f15,yat,yas,ya7,yaH,ycX,yaN] at hto;cases hl;have hO:=(he.rows.1 _ aV).2 (.inr (.inl rfl)) rfl;have hM:=he.maps.1 _ aY;cases hg0;simp only [AV.val,AV.aI,dN,dR,hd.n,hd.d,hd.v,hd.c,hd.nx,hd.us,hd.hd,hd.wr,hd.ou,hd.p,hd.sv,gV,aC,bR,jd,hd.op,hd.b0,hd.b1,hd.b2,hd.b3,hd.b4,hd.b5,hd.b6,den_add,iG,e14,e15,b8,b9,hct] at hO;have hR:=he.ret;simp only [AV.val,AV.aI,aC,hd.nx,hd.us] at hR
 ·rw [show lD r.n u1 u2 t.ct x s.it=s.it from by unfold lD;rw [yai h0,yai h2]];refine ⟨hR,h.next hmv hgm ⟨_,hO,hsv.kept bS⟩ (h.tk.del bS ?_) ⟨h.pb.nx,hu,⟨?_,?_⟩,h.pb.hd,h.pb.wr,by show 0≤11;decide,fun h7=>absurd h7 (by show¬7≤0;decide)⟩,hmv⟩
  ·obtain ⟨arr,clock,dm,eU,m1,m2,m3,m4⟩:=hM;refine ⟨arr,clock,dm,eU,m1,m2,m3,fun k=> ?_⟩;rw [m4 k];simp only [uD,AV.val,hd.hd,Dw.intOf,yaK,ya8,nG]
  ·show s.ou-t.ct=gX (iB s.hd s.tk);rw [Dm ht,hou.1]
  ·show s.ou-t.ct≤r.n;omega
open Go.Maps Go.Sort
theorem Tryz.ztU (a:Option Addr) (n c:Nat) (w:World):(binOp .eql 40 (.slice a n c) (.slice none 0 0)).run prog w= .ok (.bool a.isNone) w:=by
 simp only [binOp];simp [ydk w 40 43 _ _ _ underlying40]
set_option maxRecDepth 100000 in
theorem Tryz.GD {A:Nat→Prop} {w:World} {v:Value} {l:List Sg} (h:aX A w v l) (hl:l.length≤1000000):
    Calls prog 57 #[v] w fun e w'=> ∃u,e= .returned u∧bG w' w.heap.size u l∧Below w.heap.size w w':=by
  obtain ⟨sa,c,rfl,hok,hr⟩:=h;have hq:=ztU;obtain ⟨i0,hi0,hz0,hz1,hzb⟩:=ybo D8;have xG:=M5 l;cases sa with
  | none=>
    have h0:l= []:=by
      rcases hr with h|⟨R,o,h,_⟩
      · exact h
      · cases h
    subst h0;go_enter func57,ntmps57;go_wp2;go_ret;exact ⟨_,rfl,bG.nil _ _,yah _ _⟩
  | some ad=>
    have qz:=ycZ (base:=w.heap.size) (e:=43) (size:=3) w #[] 0 (yab _) (by unfold maxLen;omega) rfl;have hb0:=(yah w.heap.size w).alloc (yab _) (.cells #[] 43);have hnews: ∀j u,(dV l)[j]? =some u→(w.alloc (.cells #[] 43)).cell? (ad.add j)=some u:=fun j u hj=>by
      rcases hr with h|⟨R,o,h,_,hr⟩
      · subst h;cases hj
      · cases h;have hlt:R<w.heap.size:=World.block_lt_of_cell? w _ (hr j u hj);rw [Dw.addr_add];exact (yan (a:=⟨R,o+j,none⟩) (ybU w _ R hlt)).trans (hr j u hj)
    have hlen:=CS l;go_enter func57,ntmps57;go_wp2_with (first
      | (at_builtin;go_loud (refine ycj _ rfl _ _ 40 rfl w.heap.size 43 i0 _ 3 16 (by kernel_rfl) hi0 hz0 hz1 hzb rfl (by decide) _ _ _ rfl qz ad l.length c (dV l) rfl (by omega) hnews xG (by unfold maxLen;omega) (by omega) (by simp) ?_);intro v' w3 hown' hg3 _;go_frame)
      | go_in)
    go_ret;have hown2:bG w3 w.heap.size v' l:=by unfold bG;simpa using hown'
    refine ⟨_,rfl,hown2,hb0.grown hg3 (by simp) (fun j hj=> ?_)⟩;exact (qz.lt j hj).1
theorem Tryz.OC {N:Nat} {g:Nat→Int} (hg: ∀j,0≤g j∧g j<256) {n aD:Int} {tb:Bool} (hn:1≤n):(bZ N g n aD tb).e=0→(0≤(bZ N g n aD tb).id∧(bZ N g n aD tb).id<n)∧(1≤(bZ N g n aD tb).ct∧(bZ N g n aD tb).ct≤n)∧(∀x∈(bZ N g n aD tb).sg,x.ok)∧(bZ N g n aD tb).sg.length≤64:=by
 obtain ⟨b1,⟨b2,b3,b4⟩,b5,b6⟩:=N7 hg (N:=N) (n:=n) (tb:=tb) n.toNat aD 0 [] 0 ⟨by decide,by decide⟩ (by decide) fun x hx=>(by cases hx);unfold bZ;simp only;generalize fD N g n tb n.toNat aD 0 [] 0=t at b1 b2 b3 b4 b5 b6 ⊢;intro h;by_cases h1:t.e≠0
 ·rw [yaj h1] at h;exact absurd h h1
 ·rw [yai h1] at h ⊢;by_cases h2:n≤t.id
  ·rw [yaj h2] at h;cases h
  ·rw [yai h2] at h ⊢;by_cases h3:iC N t.sg≠0
   ·rw [yaj h3] at h;exact absurd h h3
   ·rw [yai h3];have hc:=b4 (by simpa using h1);refine ⟨⟨b1.1,by omega⟩,⟨by omega,by omega⟩,b5,?_⟩;have h3:iC N t.sg=0:=by simpa using h3
    unfold iC at h3;split at h3
    ·cases h3
    ·rename_i hh;exact GZ (by simpa using fun e=>hh (.inr e))
theorem Tryz.zxv {N:Nat} {g:Nat→Int} {n aD:Int} {tb:Bool}:(bZ N g n aD tb).e≠0→(bZ N g n aD tb).id=0∧(bZ N g n aD tb).ct=0∧(bZ N g n aD tb).sg= []:=by
 unfold bZ;simp only;generalize fD N g n tb n.toNat aD 0 [] 0=t;intro h;split
 ·exact ⟨rfl,rfl,rfl⟩
 ·split
  ·exact ⟨rfl,rfl,rfl⟩
  ·split
   ·exact ⟨rfl,rfl,rfl⟩
   ·rename_i h1 h2 h3;rw [yai h1,yai h2,yai h3] at h;exact absurd h h1
def Tryz.vK (P L Bs B N:Nat) (g:Nat→Int) (b2:Nat) (l:List Sg):bg where
 fact k q F w:=(F P∧F L∧F Bs∧F B∧GM w P L Bs B N g)∧(match k with|0=>True|1=> ∃u,q 9=some u∧jH b2 u l F w|_=> ∃u u2,q 9=some u∧q 11=some u2∧jH b2 u l F w∧jH b2 u2 l F w)
 loc:=fun k q q' F w w' h hq hb hs=>by
  obtain ⟨⟨h1,h2,h3,h4,h5⟩,h6⟩:=h;refine ⟨⟨h1,h2,h3,h4,h5.kept (fun b _ hb'=>by rcases hb' with rfl|rfl|rfl|rfl<;>exact hb _ (by assumption)) hs⟩,?_⟩
  match k,h6 with
  | 0,_=>trivial
  | 1,⟨u,h7,h8⟩=>exact ⟨u,hq _ _ h7,jH.kept h8 hb⟩
  | k+2,⟨u,u2,h7,h8,h9,h10⟩=>exact ⟨u,u2,hq _ _ h7,hq _ _ h8,jH.kept h9 hb,jH.kept h10 hb⟩
theorem Tryz.NI {P L Bs B N:Nat} {g:Nat→Int} {b2:Nat} {l:List Sg} {bl:List (Nat×Nat)} {w:World} (h:GM w P L Bs B N g) (hn: ∀b,b=P∨b=L∨b=Bs∨b=B→ ¬Mine (aT bl) b):(vK P L Bs B N g b2 l).G 0 (aT bl) w:=
 ⟨fun b=>b=P∨b=L∨b=Bs∨b=B,fun b hb=>⟨by rcases hb with rfl|rfl|rfl|rfl;exact h.pl;exact h.ll;exact h.sl;exact h.bl,hn b hb⟩,⟨.inl rfl,.inr (.inl rfl),.inr (.inr (.inl rfl)),.inr (.inr (.inr rfl)),h⟩,trivial⟩
theorem Tryz.zC9 {ρ:Val} {w0:World} {K:Nat→Prop} {P L Bs B N:Nat} {g:Nat→Int} {r:Rg} {aD:Int} {wr tb:Bool} {e:SE} (hN:N≤1048576) (hr:jG r) (hfit:4104+16*r.n≤N) (hat:0≤aD∧aD<r.n) (hR: ∀j,Dw.R ρ j oh r.gJ) (hp:ρ.v 0=vp P) (d4:(ah 4).den ρ=aD) (b2:ρ.b 2=wr) (b1:ρ.b 1=tb)
  (d13:(aK 13).den ρ=(bZ N g r.n aD tb).id) (d14:(ah 14).den ρ=(bZ N g r.n aD tb).ct) (de:e.den ρ=(bZ N g r.n aD tb).e):
  jM prog ρ w0 K (vK P L Bs B N g w0.heap.size (bZ N g r.n aD tb).sg) (CB e):=by
 refine ⟨Dw.enters_of (by kernel_rfl),fun j w1 vals F n0 hv hn hb hF hsz hf _=> ?_⟩;have hv:=wu (show AV.kS [.cst 0 none,oh,.agg [.int .i64 (ah 4),.bool (.var 2)],.bool (.var 1)]=true by rfl) hv (af (gY (ρ:=ρ) (j:=j) hp rfl) (af (hR j) (af (dO (af (ai d4) (af (aU b2) RL.nil))) (af (aU b1) RL.nil))));subst hv;have hb:n0=9:=hb (by show (1:Nat)≠0;decide);subst hb;obtain ⟨⟨f1,f2,f3,f4,hm⟩,_⟩:=hf;refine yaq (zvn (wr:=wr) (tb:=tb) hm hN hr hfit hat) fun en w' hh=> ?_;obtain ⟨u,rfl,hu,hbl⟩:=hh;have hlt:=hu.lt;refine ⟨_,[u],fun b=>F b∨u.ownBlock=some b,rfl,rfl,kM (af (dO (af (ai d13) (af (ai d14) (af ⟨⟨⟨0,0,0,some u⟩,?_,rfl⟩,hu.one,fun _ h=>(by cases h)⟩ RL.nil)))) (af (ai de) RL.nil)),⟨⟨.inl f1,.inl f2,.inl f3,.inl f4,hm.below hbl⟩,u,tV,hu.mono hsz,fun b hb=> .inr hb⟩,?_,Dw.Mv.of_below hbl⟩
 ·show jq j 9 _ 9=_;unfold jq;rw [yaj ⟨yab _,by simp⟩];simp
 ·rintro b (hb|hb)
  ·exact ⟨yae (hF b hb) hbl.size,.inl hb⟩
  ·exact ⟨(hlt b hb).2.1,.inr (hlt b hb).1⟩
theorem Tryz.zDp {ρ:Val} {w0:World} {K:Nat→Prop} {P L Bs B N:Nat} {g:Nat→Int} {l:List Sg} (hok: ∀y∈l,y.ok) (hl:l.length≤1000000):jM prog ρ w0 K (vK P L Bs B N g w0.heap.size l) SN:=by
 refine ⟨Dw.enters_of (by kernel_rfl),fun j w1 vals F n hv hnone hb hF hsz hf _=> ?_⟩;have hb:n=11:=hb (by show (1:Nat)≠0;decide);subst hb;obtain ⟨⟨f1,f2,f3,f4,hm1⟩,u,hq,hu,Lh⟩:=hf;obtain ⟨v2,m2,rfl,⟨⟨Lq,hj,rq⟩,_⟩,hm2⟩:=hv;have hm2:m2= []:=hm2;subst hm2;have hv2:v2=u:=by
  unfold iE at hq;rw [hj] at hq;simp only [ybC] at hq;rw [rq] at hq;exact yaC hq
 subst hv2;refine yaq (GD (hu.xQ hok (A:=fun _=>False) fun _ _ h=>h) hl) fun en w' hh=> ?_;obtain ⟨u2,rfl,hu2,hbl⟩:=hh;have hlt:=hu2.lt;have BR:iE (jq j 11 [u2]) 9=some v2:=by
  unfold iE at hq ⊢;have e:jq j 11 [u2] 9=j 9:=by unfold jq;rw [yai (by simp)]
  rw [e];exact hq
 refine ⟨_,[u2],fun b=>F b∨u2.ownBlock=some b,rfl,rfl,⟨⟨⟨0,0,0,some u2⟩,?_,rfl⟩,hu2.one,fun _ h=>(by cases h)⟩,⟨⟨.inl f1,.inl f2,.inl f3,.inl f4,hm1.below hbl⟩,v2,u2,BR,tV,⟨hu.kept fun b hb=>hbl.block b (hu.lt b hb).2.1,fun b hb=> .inl (Lh b hb)⟩,hu2.mono hsz,fun b hb=> .inr hb⟩,?_,Dw.Mv.of_below hbl⟩
 ·show jq j 11 _ 11=_;unfold jq;rw [yaj ⟨yab _,by simp⟩];simp
 ·rintro b (hb|hb)
  ·exact ⟨yae (hF b hb) hbl.size,.inl hb⟩
  ·exact ⟨(hlt b hb).2.1,.inr (hlt b hb).1⟩
set_option maxRecDepth 10000 in
theorem Tryz.zuF {A:Nat→Prop} {w:World} {S P L Bs B M N:Nat} {r:Rg} {s:PS} {g:Nat→Int} (h:PW A w S P L Bs B M N r s g) (hb:s.br=false) (hp:s.ph=6):
  Calls prog 27 #[.pointer (some ⟨S,0,none⟩)] w fun e w'=>e= .returned (.tuple #[(iA N r s g 6).1,.int .i64 (iA N r s g 6).2.1])∧PW A w' S P L Bs B M N r (iA N r s g 6).2.2.1 (iA N r s g 6).2.2.2∧Dw.Mv (sK S M B) w w':=by
 obtain ⟨sv,ho,hsv⟩:=h.obj;have hrg:=h.rg;have q1:=hrg.bnd;have hpb:=h.pb;have hnx:=hpb.nx;have hou:=hpb.ou;have hon:=ko h.tk.dH;have hN:=h.hN;have hf:=h.fit;have hg:=h.mem.byte;have hj2:aT [(S,0),(M,0)] 2=some ⟨M,0,0,none⟩:=rfl;have hj1:aT [(S,0),(M,0)] 1=some ⟨S,0,0,none⟩:=rfl;have Qw: ∀b,w.heap.size≤b→ ¬A b:=fun b hb ha=>by have:=h.lt b ha;omega
 have hok:=OC (N:=N) hg (n:=r.n) (aD:=s.nx) (tb:=s.tb) q1.1;have Q0:=zxv (N:=N) (g:=g) (n:=r.n) (aD:=s.nx) (tb:=s.tb);have EU: ∀ {ρ:Val} {K:Nat→Prop} {e:SE},Be ρ r s (.pointer (some ⟨P,0,none⟩)) sv→(aK 13).den ρ=(bZ N g r.n s.nx s.tb).id→(ah 14).den ρ=(bZ N g r.n s.nx s.tb).ct→e.den ρ=(bZ N g r.n s.nx s.tb).e→jM prog ρ w K (vK P L Bs B N g w.heap.size (bZ N g r.n s.nx s.tb).sg) (CB e):=fun {ρ K e} hd d13 d14 de=>
  zC9 hN hrg hf hnx (fun j=>dO (af (aU rfl) (af (ai hd.n) (af (ai hd.d) (af (ai hd.v) (af (ai hd.c) RL.nil)))))) hd.p hd.nx hd.b2 hd.b1 d13 d14 de
 have hbd:0≤(bZ N g r.n s.nx s.tb).id∧(bZ N g r.n s.nx s.tb).id<65536∧0≤(bZ N g r.n s.nx s.tb).ct∧(bZ N g r.n s.nx s.tb).ct≤r.n:=by
  by_cases he:(bZ N g r.n s.nx s.tb).e=0
  ·obtain ⟨q,q',_⟩:=hok he;omega
  ·obtain ⟨q,q',_⟩:=Q0 he;omega
 unfold iA;simp only;generalize bZ N g r.n s.nx s.tb=t at hok Q0 EU hbd ⊢;have fail: ∀ {ρ:Val} {e:Ending} {w':World} {j:J} {ls:Leaf},Be ρ r s (.pointer (some ⟨P,0,none⟩)) sv→wO ρ w (sK S M B) (vK P L Bs B N g w.heap.size t.sg) [(S,0),(M,0)] ls e w' j→
   ls=⟨.ay [.agg [.int .i64 (.lit 1),.int .i64 (.lit 0),.int .i64 (.lit 0)],.int .i64 (.lit 4)],[(1,[.cst 0 none,.bool (.lit true),.int .i64 (aF 0),.int .u64 (aj 1),.int .u64 (aj 2),.int .u64 (aj 3),.bool (.var 0),.bool (.var 1),.bool (.lit true),.int .i64 (ah 4),.bool (.var 2),.int .i64 (ah 5),.bool (.var 6),.map 2,.int .i64 (ah 9),.int .i64 (.lit 0),.int .i64 (.lit 0),.bool (.lit false),.int .i64 (.lit 0),.cO,.int .u32 (.lit 0),.bool (.lit false),.bool (.var 5),.bool (.lit true)])],[(2,[])],1,[1]⟩→
   e= .returned (.tuple #[.agg #[.int .i64 1,.int .i64 0,.int .i64 0],.int .i64 4])∧PW A w' S P L Bs B M N r s.brk g∧Dw.Mv (sK S M B) w w':=fun {ρ e w' j ls} hd he hls=>by
  subst hls;have aV:=he.sub _ _ hj1;have aY:=he.sub _ _ hj2;have dN:=bE aV;have dR:=bE aY;have hmv:=he.mv;have bS:=h.kA hmv;obtain ⟨Fs,_,⟨_,_,_,_,hgm⟩,_⟩:=he.eY;have hO:=(he.rows.1 _ aV).2 (.inr (.inl rfl)) rfl;have hM:=he.maps.1 _ aY;simp only [AV.val,AV.aI,dN,dR,hd.n,hd.d,hd.v,hd.c,hd.nx,hd.us,hd.hd,hd.wr,hd.ou,hd.p,hd.sv,gV,aC,bR,jd,hd.op,hd.b0,hd.b1,hd.b2,hd.b3,hd.b4,hd.b5,hd.b6] at hO;exact ⟨he.ret,h.next hmv hgm ⟨_,hO,aX.none⟩ (h.tk.same bS hM) ⟨h.pb.nx,h.pb.us,h.pb.ou,FV,z32,by show 0≤11;decide,fun h7=>absurd h7 (by show¬7≤0;decide)⟩,hmv⟩
 by_cases hE:t.e=0
 ·obtain ⟨hid,hct,hsg,hsl⟩:=hok hE;cases htk:bY t.id s.tk with
  | some t0=>
   rw [yaj (.inr (.inl (by simp)))];have htr:1≤t0.ct∧t0.ct≤r.n:=(h.tk.dH _ (qJ htk)).2;obtain ⟨v2,hv2,sZ⟩: ∃v2,(∀arr clock,w.heap[M]? =some (.map arr clock)→dz arr t.id=some (.agg #[.int .i64 t.id,.int .i64 t0.ct,v2]))∧v2.oneCell'=true:=by
    obtain ⟨oZ,clock1,g1,g2,g3⟩:=h.tk.map;obtain ⟨v0,h1,h2⟩:=(g3 t.id).2 t0 htk;exact ⟨v0,fun arr clock hm=>by rw [g1] at hm;cases hm;exact h1,h2.one⟩
   have hd:=jT hrg hpb (by rw [hou.1];exact hon) [0,0,0,t.id,t.ct,0,0,t.e,0,t0.ct] [] (.pointer (some ⟨P,0,none⟩)) sv v2;have d13:(aK 13).den (bH r s [0,0,0,t.id,t.ct,0,0,t.e,0,t0.ct] [] (.pointer (some ⟨P,0,none⟩)) sv v2)=t.id:=jC hid.1 (by show t.id<_;omega);have d14:(ah 14).den (bH r s [0,0,0,t.id,t.ct,0,0,t.e,0,t0.ct] [] (.pointer (some ⟨P,0,none⟩)) sv v2)=t.ct:=dK (by show 0≤t.ct;omega) (by show t.ct<_;omega);have d19:(ah 19).den (bH r s [0,0,0,t.id,t.ct,0,0,t.e,0,t0.ct] [] (.pointer (some ⟨P,0,none⟩)) sv v2)=t0.ct:=dK (by show 0≤t0.ct;omega) (by show t0.ct<_;omega);have nA:(bH r s [0,0,0,t.id,t.ct,0,0,t.e,0,t0.ct] [] (.pointer (some ⟨P,0,none⟩)) sv v2).v 2=v2:=rfl;generalize bH r s [0,0,0,t.id,t.ct,0,0,t.e,0,t0.ct] [] (.pointer (some ⟨P,0,none⟩)) sv v2=ρ at hd d13 d14 d19 nA;refine yaq (zap (ρ:=ρ) (K:=sK S M B) (g:=vK P L Bs B N g w.heap.size t.sg) (bl:= [(S,0),(M,0)]) (vals:= [.pointer (some ⟨S,0,none⟩)]) mixed zqA zuH h.gP
    ⟨fe ho (jS hd hb (by rw [hp];rfl) hsv.one hj2) (.inl rfl),Ai h.tk (.inr (.inl rfl)) d13 (o:=some (.agg [.int .i64 (aK 13),.int .i64 (ah 19),.cst 2 none])) (ov:=some (.agg #[.int .i64 t.id,.int .i64 t0.ct,v2])) ⟨_,rfl,dO (af (ai d13) (af (ai d19) (af (gY nA sZ) RL.nil)))⟩ hv2,trivial⟩ h.apart (NI h.mem h.mine)
    ⟨EU hd d13 d14 (by rw [hE];rfl),trivial⟩ (af (gM hj1) RL.nil) (aR.2 trivial)) fun e w' hh=> ?_
   obtain ⟨_,j,he⟩:=mE hh;exact fail hd he rfl
  | none=>
   have hv0: ∀arr clock,w.heap[M]? =some (.map arr clock)→dz arr t.id=none:=fun arr clock hm=>by
    obtain ⟨oZ,clock1,g1,g2,g3⟩:=h.tk.map;rw [g1] at hm;cases hm;exact (g3 t.id).1 htk
   obtain ⟨u,kH⟩: ∃u,u=aZ r.n s.nx s.nw t.ct:=⟨_,rfl⟩;rw [←kH];have hu:=OA (n:=r.n) (a:=s.nx) (c:=t.ct) (x:=s.nw) hnx ⟨by omega,hct.2⟩;rw [←kH] at hu;obtain ⟨u1,u2⟩:=u;simp only at hu ⊢;have hd:=jT hrg hpb (by rw [hou.1];exact hon) [0,0,0,t.id,t.ct,u1,0,t.e] [false,u2] (.pointer (some ⟨P,0,none⟩)) sv undef;have d13:(aK 13).den (bH r s [0,0,0,t.id,t.ct,u1,0,t.e] [false,u2] (.pointer (some ⟨P,0,none⟩)) sv undef)=t.id:=jC hid.1 (by show t.id<_;omega);have d14:(ah 14).den (bH r s [0,0,0,t.id,t.ct,u1,0,t.e] [false,u2] (.pointer (some ⟨P,0,none⟩)) sv undef)=t.ct:=dK (by show 0≤t.ct;omega) (by show t.ct<_;omega);have d15:(ah 15).den (bH r s [0,0,0,t.id,t.ct,u1,0,t.e] [false,u2] (.pointer (some ⟨P,0,none⟩)) sv undef)=u1:=dK hu.1 (by show u1<_;omega);have b8:(bH r s [0,0,0,t.id,t.ct,u1,0,t.e] [false,u2] (.pointer (some ⟨P,0,none⟩)) sv undef).b 8=u2:=rfl;generalize bH r s [0,0,0,t.id,t.ct,u1,0,t.e] [false,u2] (.pointer (some ⟨P,0,none⟩)) sv undef=ρ at hd d13 d14 d15 b8;have w1:IntKind.wrap .i64 (t.ct+s.ou)=t.ct+s.ou:=gy (by omega) (by omega);have w2:IntKind.wrap .i64 (s.ou+t.ct)=s.ou+t.ct:=gy (by omega) (by omega);refine yaq (zap (ρ:=ρ) (K:=sK S M B) (g:=vK P L Bs B N g w.heap.size t.sg) (bl:= [(S,0),(M,0)]) (vals:= [.pointer (some ⟨S,0,none⟩)]) mixed zuD zxt h.gP
    ⟨fe ho (jS hd hb (by rw [hp];rfl) hsv.one hj2) (.inl rfl),Ai h.tk (.inr (.inl rfl)) d13 (o:=none) (ov:=none) rfl hv0,trivial⟩ h.apart (NI h.mem h.mine)
    ⟨EU hd d13 d14 (by rw [hE];rfl),zDp hsg (by omega),iQ (Dw.enters_of (by kernel_rfl)) (by rfl) [bQ s.nx s.nw,.int .i64 t.ct,.int .i64 r.n] (.tuple #[bQ u1 u2,.int .i64 0]) (fun j=>af (dO (af (ai hd.nx) (af (aU hd.b2) RL.nil))) (af (ai d14) (af (ai hd.n) RL.nil))) (fun j=>kM (af (dO (af (ai d15) (af (aU b8) RL.nil))) (af (ai rfl) RL.nil))) (fun w F q hf=>by have:=AU (n:=r.n) (a:=s.nx) (c:=t.ct) (x:=s.nw) ⟨q1.1,by omega⟩ hnx ⟨by omega,hct.2⟩ w;rw [←kH] at this;exact this),trivial⟩
    (af (gM hj1) RL.nil) (aR.2 trivial)) fun e w' hh=> ?_
   obtain ⟨p,hpm,hto,l,hl,j,he⟩:=hh;unfold zot at hpm;simp only [yad,yag,yaB] at hpm;rcases hpm with rfl|rfl
   all_goals
    simp only [aH,aR,gZ,den_add,hd.n,hd.ou,d14,w1,yat,yas,yaN] at hto;cases hl
   ·rw [yaj (.inr (.inr (by omega)))];exact fail hd he rfl
   ·rw [yai (by rintro (h1|h1|h1);exact h1 hE;exact h1 rfl;omega)];have aV:=he.sub _ _ hj1;have aY:=he.sub _ _ hj2;have dN:=bE aV;have dR:=bE aY;have hmv:=he.mv;have bS:=h.kA hmv;obtain ⟨Fs,_,⟨_,_,_,_,hgm⟩,v9,v11,hq9,hq11,⟨hu9,_⟩,aa6,_⟩:=he.eY;have e9:(dZ j 9).q.getD undef=v9:=uj (ρ:=ρ) hq9;have e11:(dZ j 11).q.getD undef=v11:=uj (ρ:=ρ) hq11;have hO:=(he.rows.1 _ aV).2 (.inr (.inl rfl)) rfl;have hM:=he.maps.1 _ aY;simp only [AV.val,AV.aI,dN,dR,hd.n,hd.d,hd.v,hd.c,hd.nx,hd.us,hd.hd,hd.wr,hd.ou,hd.p,hd.sv,den_add,gV,aC,bR,jd,hd.op,hd.b0,hd.b1,hd.b2,hd.b3,hd.b4,hd.b5,hd.b6,d13,d14,d15,b8,e11,w2] at hO;refine ⟨he.ret,h.next hmv hgm ⟨_,hO,aa6.xQ hsg Qw⟩ (h.tk.put bS htk ⟨hid,hct⟩ (t:=⟨t.ct,t.sg⟩) (hu9.xQ hsg Qw) ?_) ⟨hu,h.pb.us,⟨?_,by show s.ou+t.ct≤r.n;omega⟩,⟨hid.1,by show t.id<65536;omega⟩,h.pb.wr,by show 0≤11;decide,fun h7=>absurd h7 (by show¬7≤0;decide)⟩,hmv⟩
    ·obtain ⟨arr,clock,dm,eU,m1,m2,m3,m4⟩:=hM;refine ⟨arr,clock,dm,eU,m1,m2,m3,fun k=> ?_⟩;rw [m4 k];simp only [uD,AV.val,AV.aI,d13,d14,Dw.intOf,yaK,nG,e9]
    ·show s.ou+t.ct=gX (s.tk++ [(t.id,⟨t.ct,t.sg⟩)]);rw [Y6,hou.1]
 ·rw [yaj (.inl hE)];have hd:=jT hrg hpb (by rw [hou.1];exact hon) [0,0,0,t.id,t.ct,0,0,t.e] [] (.pointer (some ⟨P,0,none⟩)) sv undef;have d13:(aK 13).den (bH r s [0,0,0,t.id,t.ct,0,0,t.e] [] (.pointer (some ⟨P,0,none⟩)) sv undef)=t.id:=jC hbd.1 hbd.2.1;have d14:(ah 14).den (bH r s [0,0,0,t.id,t.ct,0,0,t.e] [] (.pointer (some ⟨P,0,none⟩)) sv undef)=t.ct:=dK hbd.2.2.1 (by show t.ct<_;omega);have d17:SE.den (bH r s [0,0,0,t.id,t.ct,0,0,t.e] [] (.pointer (some ⟨P,0,none⟩)) sv undef) (.var 17)=t.e:=rfl;generalize bH r s [0,0,0,t.id,t.ct,0,0,t.e] [] (.pointer (some ⟨P,0,none⟩)) sv undef=ρ at hd d13 d14 d17;refine yaq (zap (ρ:=ρ) (K:=sK S M B) (g:=vK P L Bs B N g w.heap.size t.sg) (bl:= [(S,0),(M,0)]) (vals:= [.pointer (some ⟨S,0,none⟩)]) mixed zqC zuJ h.gP
   ⟨fe ho (jS hd hb (by rw [hp];rfl) hsv.one hj2) (.inl rfl),nP h.tk (.inr (.inl rfl)),trivial⟩ h.apart (NI h.mem h.mine)
   ⟨EU hd d13 d14 d17,trivial⟩ (af (gM hj1) RL.nil) (aH.2 ⟨by rw [mY,d17,aC];simpa using hE,aR.2 trivial⟩)) fun e w' hh=> ?_
  obtain ⟨_,j,he⟩:=mE hh;exact fail hd he rfl
end Go.Proofs
namespace Go.Proofs
open Go.Dw Go.RowKit
def Tryz.yF:List AV:= [.int .u8 (.lit 0),.int .u8 (.lit 0),.int .u8 (.lit 0),.int .u8 (.lit 0),.int .u8 (.lit 0),.int .u8 (.lit 0),.int .u8 (.lit 0),.int .u8 (.lit 0),.int .u8 (.aQ [⟨8,0,4294967295,0,8,0⟩] 0),.int .u8 (.aQ [⟨8,0,4294967295,8,8,0⟩] 0),.int .u8 (.aQ [⟨8,0,4294967295,16,8,0⟩] 0),.int .u8 (.aQ [⟨8,0,4294967295,24,8,0⟩] 0),.int .u8 (.aQ [⟨7,0,65535,0,8,0⟩] 0),.int .u8 (.aQ [⟨7,0,65535,8,8,0⟩] 0),.int .u8 (.lit 0),.int .u8 (.lit 0)]
def Tryz.SQ:nU:=⟨⟨39,[.cst 0 none,.int .u64 (sJ 5 8),.sl 8 8 6 (.known 8)],0,0,0,.int .i64 (.lit 0),1⟩,[(8,yF,yF)]⟩
end Go.Proofs
namespace Go.Proofs
open Go.Dw
def Tryz.VS:List aG:= []
def Tryz.VG:List nU:= [SQ]
def Tryz.Wd:List Sh:=oo 7
def Tryz.VT:List AV:= [.ptr 1 0]
def Tryz.Vy:List dD:= []
def Tryz.Vz:List dX:= []
def Tryz.zop:List (SB×Bool):= []
def Tryz.Xm:List Leaf:= [
 ⟨.ay [.agg [.int .i64 (.lit 3),.int .i64 (.lit 1),.int .i64 (ah 5)],.int .i64 (.lit 0)],[(1,[.cst 0 none,.bool (.lit true),.int .i64 (aF 0),.int .u64 (aj 1),.int .u64 (aj 2),.int .u64 (aj 3),.bool (.var 0),.bool (.var 1),.bool (.lit true),.int .i64 (ah 4),.bool (.var 2),.int .i64 (ah 5),.bool (.var 6),.map 2,.int .i64 (ah 9),.int .i64 (.lit 8),.int .i64 (.var 6),.bool (.var 3),.int .i64 (aK 7),.cst 1 none,.int .u32 (aW 8),.bool (.var 4),.bool (.lit false),.bool (.lit false)])],[(2,[])],1,[1]⟩]
def Tryz.zqx:List (List (SB×Bool)×Nat):= [
 ([], 0)]
theorem Tryz.zoo:(fG prog (Ea VS VG) (fK Vy) (fJ Vz) 100000 (.call 27 VT (bn 0 Wd) (cK Xm 0))).ways zop=some zqx:=by kernel_rfl
theorem Tryz.zqy:(bD Wd&&zag VS&&Dc VG&&fZ Vy&&gq Vz&&AV.bK VT&&dh Xm)=true:=by kernel_rfl
open Go.RowKit
def Tryz.nV (wr hd:Int):List Int:= [wr/(2^0:Nat)%(2^8:Nat)*(2^0:Nat),wr/(2^8:Nat)%(2^8:Nat)*(2^0:Nat),wr/(2^16:Nat)%(2^8:Nat)*(2^0:Nat),wr/(2^24:Nat)%(2^8:Nat)*(2^0:Nat),hd/(2^0:Nat)%(2^8:Nat)*(2^0:Nat),hd/(2^8:Nat)%(2^8:Nat)*(2^0:Nat)]
theorem Tryz.zCU (g:Nat→Int) (a:Nat) (wr hd:Int):fB g a (nV wr hd)=dS (dS g a 4 wr) (a+4) 2 hd:=by
 funext j;rw [OQ];unfold dS;have hl:(nV wr hd).length=6:=rfl;rw [hl];by_cases h:a≤j∧j<a+6
 ·rw [yaj h];obtain ⟨k,hk⟩: ∃k,k=j-a:=⟨_,rfl⟩;have hj:j=a+k:=by omega
  subst hj;rw [show a+k-a=k by omega];have h6:k<6:=by omega
  match k,h6 with
  | 0,_=>rw [yai (by omega),yaj (by omega)];simp [nV]
  | 1,_=>rw [yai (by omega),yaj (by omega)];simp [nV]
  | 2,_=>rw [yai (by omega),yaj (by omega)];simp [nV]
  | 3,_=>rw [yai (by omega),yaj (by omega)];simp [nV]
  | 4,_=>rw [yaj (by omega)];simp [nV]
  | 5,_=>rw [yaj (by omega)];simp [nV]
 ·rw [yai h,yai (by omega),yai (by omega)]
theorem Tryz.zAy (wr hd:Int): ∀x∈nV wr hd,0≤x∧x<256:=by
 intro x hx;unfold nV at hx;simp only [yad,yag,yaB] at hx;rcases hx with rfl|rfl|rfl|rfl|rfl|rfl<;>simp<;>omega
theorem Tryz.zFs {ρ:Val} {w0:World} {K:Nat→Prop} {P L Bs B N:Nat} {g:Nat→Int} {us wr hd:Int} (hN:N≤1048576) (hp:ρ.v 0= .pointer (some ⟨P,0,none⟩)) (ha:(sJ 5 8).den ρ=4096+16*us+8) (hu:0≤us) (hin:4096+16*us+16≤N)
  (h8:ρ.i 8=wr) (hw:0≤wr∧wr<4294967296) (h7:ρ.i 7=hd) (hh:0≤hd∧hd<65536) (hK:K B):
  Vo prog ρ w0 K (jQ P L Bs B N [g,dS (dS g (4096+16*us+8).toNat 4 wr) (4096+16*us+12).toNat 2 hd]) SQ:=by
 refine ⟨Dw.enters_of (by kernel_rfl),fun j w1 vals F n hv hnone hb hF hsz hrows hne hf=> ?_⟩;obtain ⟨L1,vs1,j1,o1,K1,F1,r1,w1'⟩:=hrows (8,yF,yF) (yav ..);have j1:j 8=some L1:=j1;have dN:=bE j1;have hw8:=fun (fr:Nat)=>jB (ρ:=ρ) (i:=8) (lo:=0) (hi:=4294967295) (fr:=fr) (n:=8) (sh:=0) (by rw [h8];exact hw.1) (by rw [h8];show wr≤4294967295;omega);have hw7:=fun (fr:Nat)=>jB (ρ:=ρ) (i:=7) (lo:=0) (hi:=65535) (fr:=fr) (n:=8) (sh:=0) (by rw [h7];exact hh.1) (by rw [h7];show hd≤65535;omega);have w2':=zAf w1' (by kernel_rfl) r1;simp only [yF,AV.aI,AV.val,aC,hw8,hw7,h8,h7] at w2';have hv:=wu (show AV.kS [.cst 0 none,.int .u64 (sJ 5 8),.sl 8 8 6 (.known 8)]=true by rfl) hv (af (gY (ρ:=ρ) (j:=j) hp rfl) (af (ai ha) (af (show Dw.R ρ j (.sl 8 8 6 (.known 8)) (.slice (some ⟨L1.blk,8,none⟩) 6 8) from ⟨L1,j1,(by show 6≤8;decide),by rw [o1];rfl⟩) RL.nil)));subst hv;obtain ⟨f1,f2,f3,f4,g',hg,hm⟩:=hf;cases hg;have e1:(4096+16*us+8:Int)=(((4096+16*us+8).toNat:Nat):Int):=by omega
 have e2:(4096+16*us+12).toNat=(4096+16*us+8).toNat+4:=by omega
 have hL:=World.block_lt_of_cell? w1 _ (jK w2' (i:=0) rfl);have hR:w1.rangeAt L1.blk 8 ((nV wr hd).map (Value.int .u8)):=fun k v hk=>jK w2' (by
  unfold nV at hk;have hk6:k<6:=(yax.1 hk).1
  match k,hk6,hk with
  | 0,_,hk=>exact hk
  | 1,_,hk=>exact hk
  | 2,_,hk=>exact hk
  | 3,_,hk=>exact hk
  | 4,_,hk=>exact hk
  | 5,_,hk=>exact hk)
 have hc:=zrl P L Bs B N (4096+16*us+8).toNat L1.blk 8 8 (nV wr hd) g w1 hm hN (by show 1≤6;decide) (by show _+6≤N;omega) (zAy wr hd) hR hL;rw [←e1] at hc;refine yaq hc fun en w' hh=> ?_;obtain ⟨rfl,hm',hmv⟩:=hh;have hLB:L1.blk≠B:=fun e=>F1 (e▸f4);refine ⟨_,[],F,rfl,rfl,ai rfl,⟨f1,f2,f3,f4,_,rfl,?_⟩,fun b hb=>⟨yae (hF b hb) hmv.size,.inl hb⟩,?_,?_⟩
 ·rw [e2,←zCU];exact hm'
 ·intro r hr L2 hj2;have hr:=yaD.1 (show r∈ [(8,yF,yF)] from hr);subst hr;have hj2:j 8=some L2:=hj2;rw [j1] at hj2;cases hj2;exact ⟨vs1,r1,w1'.kept (hmv.block _ hL hLB)⟩
 ·exact ⟨hmv.os,hmv.tape,hmv.output,hmv.size,fun k hk hn=>hmv.block k hk fun e=>hn (.inl ⟨e▸f4,.inr (e▸hK)⟩)⟩
theorem Tryz.zoq {A:Nat→Prop} {w:World} {S P L Bs B M N:Nat} {r:Rg} {s:PS} {g:Nat→Int} (h:PW A w S P L Bs B M N r s g) (hb:s.br=false) (hp:s.ph=7):
  Calls prog 27 #[.pointer (some ⟨S,0,none⟩)] w fun e w'=>e= .returned (.tuple #[.agg #[.int .i64 3,.int .i64 1,.int .i64 s.us],.int .i64 0])∧PW A w' S P L Bs B M N r (s.goto 8) (dS (dS g (4096+16*s.us+8).toNat 4 s.wr) (4096+16*s.us+12).toNat 2 s.hd)∧Dw.Mv (sK S M B) w w':=by
 obtain ⟨sv,ho,hsv⟩:=h.obj;have hrg:=h.rg;have q1:=hrg.bnd;have q2:=hrg.d;have q3:=hrg.v;have q4:=hrg.c;have hpb:=h.pb;have hnx:=hpb.nx;have dG:=hpb.us;have hou:=hpb.ou;have hon:=ko h.tk.dH;have hN:=h.hN;have hf:=h.fit;have hd:=jT hrg hpb (by rw [hou.1];exact hon) [] [] (.pointer (some ⟨P,0,none⟩)) sv undef;have i8:(bH r s [] [] (.pointer (some ⟨P,0,none⟩)) sv undef).i 8=s.wr:=rfl;have i7:(bH r s [] [] (.pointer (some ⟨P,0,none⟩)) sv undef).i 7=s.hd:=rfl;generalize bH r s [] [] (.pointer (some ⟨P,0,none⟩)) sv undef=ρ at hd i8 i7;have hj2:aT [(S,0),(M,0)] 2=some ⟨M,0,0,none⟩:=rfl;have hj1:aT [(S,0),(M,0)] 1=some ⟨S,0,0,none⟩:=rfl;have hd4:=hd.d.trans q2;refine yaq (zuP (ρ:=ρ) (K:=sK S M B) (g:=(jQ P L Bs B N [g,dS (dS g (4096+16*s.us+8).toNat 4 s.wr) (4096+16*s.us+12).toNat 2 s.hd])) (bl:= [(S,0),(M,0)]) (vals:= [.pointer (some ⟨S,0,none⟩)]) mixed zoo zqy h.gP
  ⟨fe ho (jS hd hb (by rw [hp];rfl) hsv.one hj2) (.inl rfl),nP h.tk (.inr (.inl rfl)),trivial⟩ h.apart (mW h.mem h.mine) trivial
  ⟨zFs hN hd.p (Dx hd4 hd.us ⟨dG.1,by omega⟩ ⟨by decide,by decide⟩) dG.1 (by omega) i8 hpb.wr i7 hpb.hd (.inr (.inr rfl)),trivial⟩ trivial trivial (af (gM hj1) RL.nil) (aR.2 trivial)) fun e w' hh=> ?_
 obtain ⟨_,j,he⟩:=mE hh;have aV:=he.sub _ _ hj1;have aY:=he.sub _ _ hj2;have dN:=bE aV;have dR:=bE aY;have hmv:=he.mv;have bS:=h.kA hmv;obtain ⟨g',hg0,hgm⟩:=nM he.eY;cases hg0;have hO:=(he.rows.1 _ aV).2 (.inr (.inl rfl)) rfl;have hM:=he.maps.1 _ aY;simp only [AV.val,AV.aI,dN,dR,hd.n,hd.d,hd.v,hd.c,hd.nx,hd.us,hd.hd,hd.wr,hd.ou,hd.p,hd.sv,gV,aC,bR,jd,hd.op,hd.b0,hd.b1,hd.b2,hd.b3,hd.b4,hd.b5,hd.b6] at hO;have hR:=he.ret;simp only [AV.val,AV.aI,aC,hd.nx,hd.us] at hR;exact ⟨hR,h.next hmv hgm ⟨_,hO,hsv.kept bS⟩ (h.tk.same bS hM) ⟨h.pb.nx,h.pb.us,h.pb.ou,h.pb.hd,h.pb.wr,by show 8≤11;decide,fun _=>h.pb.ret (by omega)⟩,hmv⟩
def Tryz.Vh (ph:SE) (br:SB):List AV:=
  [.cst 0 none,.bool (.lit true),.int .i64 (aF 0),.int .u64 (aj 1),.int .u64 (aj 2),.int .u64 (aj 3),.bool (.var 0),.bool (.var 1),.bool (.lit true),.int .i64 (ah 4),.bool (.var 2),.int .i64 (ah 5),.bool (.var 6),.map 2,.int .i64 (ah 9),.int .i64 ph,
   .int .i64 (.var 6),.bool (.var 3),.int .i64 (aK 7),.cst 1 none,.int .u32 (aW 8),.bool (.var 4),.bool (.var 5),.bool br]
def Tryz.abw:AV:= .agg [.int .i64 (.var 20),.int .i64 (ah 19),.cst 2 none]
def Tryz.zFL:aG:=⟨58,[.cst 2 none],0,0,0,.ay [.int .u64 (aj 22),.int .u64 (aj 23)],0⟩
end Go.Proofs
namespace Go.Proofs
open Go.Dw
def Tryz.Xz:List aG:= []
def Tryz.Za:List Sh:= [.own (Vh (.var 20) (.lit true)),.dB []]
def Tryz.XA:List AV:= [.ptr 1 0]
def Tryz.zuo:List (SB×Bool):= []
def Tryz.znC:List Leaf:= [
 ⟨.ay [.agg [.int .i64 (.lit 0),.int .i64 (.lit 0),.int .i64 (.lit 0)],.int .i64 (.lit 4)],[(1,[.cst 0 none,.bool (.lit true),.int .i64 (aF 0),.int .u64 (aj 1),.int .u64 (aj 2),.int .u64 (aj 3),.bool (.var 0),.bool (.var 1),.bool (.lit true),.int .i64 (ah 4),.bool (.var 2),.int .i64 (ah 5),.bool (.var 6),.map 2,.int .i64 (ah 9),.int .i64 (.var 20),.int .i64 (.var 6),.bool (.var 3),.int .i64 (aK 7),.cst 1 none,.int .u32 (aW 8),.bool (.var 4),.bool (.var 5),.bool (.lit true)])],[(2,[])],0,[1]⟩]
def Tryz.zwz:List (List (SB×Bool)×Nat):= [
 ([], 0)]
theorem Tryz.zun:(ev prog (bB Xz) 100000 (.call 27 XA (bn 0 Za) (cK znC 0))).ways zuo=some zwz:=by kernel_rfl
theorem Tryz.zwA:(bD Za&&zag Xz&&AV.bK XA&&dh znC)=true:=by kernel_rfl
def Tryz.Xx:List aG:= []
def Tryz.Y9:List Sh:=oo 0
def Tryz.Xy:List AV:= [.ptr 1 0]
def Tryz.zum:List (SB×Bool):= []
def Tryz.znB:List Leaf:= [
 ⟨.ay [.agg [.int .i64 (.lit 0),.int .i64 (.lit 0),.int .i64 (.lit 0)],.int .i64 (.lit 8)],[(1,[.cst 0 none,.bool (.lit true),.int .i64 (aF 0),.int .u64 (aj 1),.int .u64 (aj 2),.int .u64 (aj 3),.bool (.var 0),.bool (.var 1),.bool (.lit true),.int .i64 (ah 4),.bool (.var 2),.int .i64 (ah 5),.bool (.var 6),.map 2,.int .i64 (ah 9),.int .i64 (.lit 0),.int .i64 (.var 6),.bool (.var 3),.int .i64 (aK 7),.cst 1 none,.int .u32 (aW 8),.bool (.var 4),.bool (.var 5),.bool (.lit false)])],[(2,[])],0,[1]⟩]
def Tryz.zwx:List (List (SB×Bool)×Nat):= [
 ([], 0)]
theorem Tryz.zul:(ev prog (bB Xx) 100000 (.call 27 Xy (bn 0 Y9) (cK znB 0))).ways zum=some zwx:=by kernel_rfl
theorem Tryz.zwy:(bD Y9&&zag Xx&&AV.bK Xy&&dh znB)=true:=by kernel_rfl
def Tryz.zip:List aG:= []
def Tryz.Yr:List Sh:=oo 0
def Tryz.XC:List AV:= [.ptr 1 0]
def Tryz.zur:List (SB×Bool):= []
def Tryz.znL:List Leaf:= [
 ⟨.int .i64 (.lit 0),[(1,[.cst 0 none,.bool (.lit true),.int .i64 (aF 0),.int .u64 (aj 1),.int .u64 (aj 2),.int .u64 (aj 3),.bool (.var 0),.bool (.var 1),.bool (.lit true),.int .i64 (ah 4),.bool (.var 2),.int .i64 (ah 5),.bool (.var 6),.map 2,.int .i64 (ah 9),.int .i64 (.lit 1),.int .i64 (.lit 3),.bool (.lit false),.int .i64 (.lit 0),.cO,.int .u32 (.lit 0),.bool (.lit false),.bool (.lit false),.bool (.lit false)])],[(2,[])],0,[1]⟩]
def Tryz.zwM:List (List (SB×Bool)×Nat):= [
 ([], 0)]
theorem Tryz.zuq:(ev prog (bB zip) 100000 (.call 12 XC (bn 0 Yr) (cK znL 0))).ways zur=some zwM:=by kernel_rfl
theorem Tryz.zwN:(bD Yr&&zag zip&&AV.bK XC&&dh znL)=true:=by kernel_rfl
def Tryz.Ze:List aG:= []
def Tryz.znF:List Sh:=wJ 0 (.int .i64 (.var 20)) none
def Tryz.Zf:List AV:= [.ptr 1 0,.int .i64 (.var 20),.int .u32 (aW 21)]
def Tryz.zwG:List (SB×Bool):= []
def Tryz.zsa:List Leaf:= [
 ⟨.int .i64 (.lit 6),[(1,[.cst 0 none,.bool (.lit true),.int .i64 (aF 0),.int .u64 (aj 1),.int .u64 (aj 2),.int .u64 (aj 3),.bool (.var 0),.bool (.var 1),.bool (.lit true),.int .i64 (ah 4),.bool (.var 2),.int .i64 (ah 5),.bool (.var 6),.map 2,.int .i64 (ah 9),.int .i64 (.lit 0),.int .i64 (.var 6),.bool (.var 3),.int .i64 (aK 7),.cst 1 none,.int .u32 (aW 8),.bool (.var 4),.bool (.var 5),.bool (.lit false)])],[(2,[])],0,[1]⟩]
def Tryz.zzM:List (List (SB×Bool)×Nat):= [
 ([], 0)]
theorem Tryz.zwF:(ev prog (bB Ze) 100000 (.call 16 Zf (bn 0 znF) (cK zsa 0))).ways zwG=some zzM:=by kernel_rfl
theorem Tryz.zzN:(bD znF&&zag Ze&&AV.bK Zf&&dh zsa)=true:=by kernel_rfl
def Tryz.Zc:List aG:= [zFL]
def Tryz.znE:List Sh:=wJ 0 (.int .i64 (.var 20)) (some abw)
def Tryz.Zd:List AV:= [.ptr 1 0,.int .i64 (.var 20),.int .u32 (aW 21)]
def Tryz.zwE:List (SB×Bool):= []
def Tryz.zr9:List Leaf:= [
 ⟨.int .i64 (.lit 2),[(1,[.cst 0 none,.bool (.lit true),.int .i64 (aF 0),.int .u64 (aj 1),.int .u64 (aj 2),.int .u64 (aj 3),.bool (.var 0),.bool (.var 1),.bool (.lit true),.int .i64 (ah 4),.bool (.var 2),.int .i64 (ah 5),.bool (.var 6),.map 2,.int .i64 (ah 9),.int .i64 (.lit 0),.int .i64 (.var 6),.bool (.var 3),.int .i64 (aK 7),.cst 1 none,.int .u32 (aW 8),.bool (.var 4),.bool (.var 5),.bool (.lit false)])],[(2,[])],0,[1]⟩,
 ⟨.int .i64 (.lit 0),[(1,[.cst 0 none,.bool (.lit true),.int .i64 (aF 0),.int .u64 (aj 1),.int .u64 (aj 2),.int .u64 (aj 3),.bool (.var 0),.bool (.var 1),.bool (.lit true),.int .i64 (ah 4),.bool (.var 2),.int .i64 (ah 5),.bool (.var 6),.map 2,.int .i64 (ah 9),.int .i64 (.lit 7),.int .i64 (.lit 4),.bool (.lit false),.int .i64 (.var 20),.cO,.int .u32 (aW 21),.bool (.lit false),.bool (.lit false),.bool (.lit false)])],[(2,[])],0,[1]⟩]
def Tryz.zr8:List (List (SB×Bool)×Nat):= [
 ([((.cmp .gtr (aW 21) (aj 23)),true)],0),
 ([((.cmp .gtr (aW 21) (aj 23)),false)],1)]
theorem Tryz.zwD:(ev prog (bB Zc) 100000 (.call 16 Zd (bn 0 znE) (cK zr9 0))).ways zwE=some zr8:=by kernel_rfl
theorem Tryz.zzL:(bD znE&&zag Zc&&AV.bK Zd&&dh zr9)=true:=by kernel_rfl
open Go.RowKit Go.Maps Go.Sort
theorem Tryz.zz3 (M:Nat) (w:World):(binOp .neq 117 (.map (some M)) (.map none)).run prog w= .ok (.bool true) w:=by
 rw [run_neq_map_nil w 117 3 122 (some M) underlying117];rfl
section
variable {A:Nat→Prop} {w:World} {S P L Bs B M N:Nat} {r:Tryz.Rg} {s:Tryz.PS} {g:Nat→Int}
set_option maxRecDepth 100000 in
theorem Tryz.Ag (h:PW A w S P L Bs B M N r s g):Calls prog 56 #[.pointer (some ⟨S,0,none⟩)] w fun e w'=>e= .returned (.bool true)∧w'=w:=by
 obtain ⟨sv,ho,hsv⟩:=h.obj;have c1:=jK ho (i:=13) rfl;have hq:=zz3 M;clear ho;go_enter func56,ntmps56;go_wp2;go_ret;exact ⟨rfl,rfl⟩
set_option maxRecDepth 100000 in
theorem Tryz.zs9 (h:PW A w S P L Bs B M N r s g):Calls prog 28 #[.pointer (some ⟨S,0,none⟩)] w fun e w'=>e= .returned (.int .i64 (if s.br then 4 else 0))∧w'=w:=by
  have hm:=Ag h;obtain ⟨sv,ho,hsv⟩:=h.obj;have c1:=jK ho (i:=23) rfl;clear ho;cases hb:s.br<;>rw [hb] at c1
  all_goals
    go_enter func28,ntmps28;go_wp2_with (first
      | (go_at_call 56;refine hm.mono ?_;rintro e w' ⟨rfl,hw⟩;have hw:=hw.symm;subst hw)
      | go_in)
    go_ret;exact ⟨rfl,rfl⟩
set_option maxRecDepth 100000 in
theorem Tryz.H8 (h:PW A w S P L Bs B M N r s g):Calls prog 26 #[.pointer (some ⟨S,0,none⟩)] w fun e w'=>e= .returned (.bool (decide (s.ph≠0)))∧w'=w:=by
  have hm:=Ag h;obtain ⟨sv,ho,hsv⟩:=h.obj;have c1:=jK ho (i:=15) rfl;clear ho;by_cases h0:s.ph=0
  · rw [yar (fun hh=>hh h0)];rw [h0] at c1;go_enter func26,ntmps26;go_wp2_with (first
      | (go_at_call 56;refine hm.mono ?_;rintro e w' ⟨rfl,hw⟩;have hw:=hw.symm;subst hw)
      | go_in)
    go_ret;exact ⟨rfl,rfl⟩
  · rw [yaG h0];have hne:((s.ph:Int) !=0)=true:=by rw [ydU];omega
    go_enter func26,ntmps26;go_wp2_with (first
      | (go_at_call 56;refine hm.mono ?_;rintro e w' ⟨rfl,hw⟩;have hw:=hw.symm;subst hw)
      | go_in)
    go_ret;exact ⟨rfl,rfl⟩
set_option maxRecDepth 100000 in
theorem Tryz.XT (h:PW A w S P L Bs B M N r s g) (hnr:s.br=true∨s.ph≠0):Calls prog 55 #[.pointer (some ⟨S,0,none⟩)] w fun e w'=>e= .returned (.int .i64 (if s.br then 4 else 8))∧w'=w:=by
  have he:=zs9 h;have hi:=H8 h;cases hb:s.br with
  | true=>
    rw [hb,yaj rfl] at he;go_enter func55,ntmps55;go_wp2_with (first
      | (go_at_call 28;refine he.mono ?_;rintro e w' ⟨rfl,hw⟩;have hw:=hw.symm;subst hw)
      | go_in)
    go_ret;exact ⟨rfl,rfl⟩
  | false=>
    rw [hb,yai (by decide)] at he;have h0:s.ph≠0:=hnr.resolve_left (by rw [hb];decide);rw [yaG h0] at hi;go_enter func55,ntmps55;go_wp2_with (first
      | (go_at_call 28;refine he.mono ?_;rintro e w' ⟨rfl,hw⟩;have hw:=hw.symm;subst hw)
      | (go_at_call 26;refine hi.mono ?_;rintro e w' ⟨rfl,hw⟩;have hw:=hw.symm;subst hw)
      | go_in)
    go_ret;exact ⟨rfl,rfl⟩
set_option maxRecDepth 100000 in
theorem Tryz.zzU (h:PW A w S P L Bs B M N r s g) (hnr:s.br=true∨s.ph≠0):Calls prog 12 #[.pointer (some ⟨S,0,none⟩)] w fun e w'=>e= .returned (.int .i64 (if s.br then 4 else 8))∧w'=w:=by
  have he:=XT h hnr;cases hb:s.br<;>rw [hb] at he
  all_goals
    simp only [ycy,yaY,ybV] at he;go_enter func12,ntmps12;go_wp2_with (first
      | (go_at_call 55;refine he.mono ?_;rintro e w' ⟨rfl,hw⟩;have hw:=hw.symm;subst hw)
      | go_in)
    go_ret;exact ⟨rfl,rfl⟩
set_option maxRecDepth 100000 in
theorem Tryz.zC4 (h:PW A w S P L Bs B M N r s g) (hnr:s.br=true∨s.ph≠0) (hd wr:Int):Calls prog 16 #[.pointer (some ⟨S,0,none⟩),.int .i64 hd,.int .u32 wr] w fun e w'=>e= .returned (.int .i64 (if s.br then 4 else 8))∧w'=w:=by
  have he:=XT h hnr;cases hb:s.br<;>rw [hb] at he
  all_goals
    simp only [ycy,yaY,ybV] at he;go_enter func16,ntmps16;go_wp2_with (first
      | (go_at_call 55;refine he.mono ?_;rintro e w' ⟨rfl,hw⟩;have hw:=hw.symm;subst hw)
      | go_in)
    go_ret;exact ⟨rfl,rfl⟩
theorem Tryz.PW.same (h:PW A w S P L Bs B M N r s g) {w':World} (hm:Dw.Mv (fun b=>b=S∨b=M) w w') (ho: ∃sv,Own w' S (s.row r P M sv)∧aX A w' sv s.sg) (hM: ∃arr clock dm eU,w'.heap[M]? =some (.map arr clock)∧w.heap[M]? =some (.map dm eU)∧(jV arr∧lG arr clock)∧ ∀k,dz arr k=dz dm k):PW A w' S P L Bs B M N r s g:=by
 have hmv:Dw.Mv (sK S M B) w w':=hm.mono fun b hb=>hb.imp_right .inl;have hgm:=h.mem.kept (fun k hk hk'=>hm.block k hk (h.Lp k hk')) hm.size;exact h.next hmv hgm ho (h.tk.same (h.kA hmv) hM) h.pb
theorem Tryz.zuk (h:PW A w S P L Bs B M N r s g) (hb:s.br=false) (hp:s.ph=0):
  Calls prog 27 #[.pointer (some ⟨S,0,none⟩)] w fun e w'=>e= .returned (.tuple #[.agg #[.int .i64 0,.int .i64 0,.int .i64 0],.int .i64 8])∧PW A w' S P L Bs B M N r s g∧Dw.Mv (sK S M B) w w':=by
 obtain ⟨sv,ho,hsv⟩:=h.obj;have hd:=jT h.rg h.pb (by rw [h.pb.ou.1];exact ko h.tk.dH) [] [] (vp P) sv undef;generalize bH r s [] [] (vp P) sv undef=ρ at*;have hj2:aT [(S,0),(M,0)] 2=some ⟨M,0,0,none⟩:=rfl;have hj1:aT [(S,0),(M,0)] 1=some ⟨S,0,0,none⟩:=rfl;refine yaq (zap (ρ:=ρ) (K:=fun b=>b=S∨b=M) (g:=bg.none) (bl:= [(S,0),(M,0)]) (vals:= [.pointer (some ⟨S,0,none⟩)]) mixed zul zwy (fun b hb=>h.gP b (hb.imp_right .inl))
  ⟨fe ho (jS hd hb (by rw [hp];rfl) hsv.one hj2) (.inl rfl),nP h.tk (.inr rfl),trivial⟩ h.apart fo trivial (af (gM hj1) RL.nil) (aR.2 trivial)) fun e w' hh=> ?_
 obtain ⟨_,j,he⟩:=mE hh;have aV:=he.sub _ _ hj1;have aY:=he.sub _ _ hj2;have dN:=bE aV;have dR:=bE aY;have hO:=(he.rows.1 _ aV).2 (.inr (.inl rfl)) rfl;have hM:=he.maps.1 _ aY;simp only [AV.val,AV.aI,dN,dR,hd.n,hd.d,hd.v,hd.c,hd.nx,hd.us,hd.hd,hd.wr,hd.ou,hd.p,hd.sv,gV,aC,bR,jd,hd.op,hd.b0,hd.b1,hd.b2,hd.b3,hd.b4,hd.b5,hd.b6] at hO;have wW:Own w' S (s.row r P M sv):=by
  unfold PS.row;rw [hb,hp];exact hO
 have bS: ∀k,k<w.heap.size→ ¬A k→w'.heap[k]? =w.heap[k]? :=fun k hk ha=>he.mv.block k hk (by rintro (rfl|rfl);exact ha h.aS;exact ha h.aM);exact ⟨he.ret,h.same he.mv ⟨_,wW,hsv.kept bS⟩ hM,he.mv.mono fun b hb=>hb.imp_right .inl⟩
theorem Tryz.znz (h:PW A w S P L Bs B M N r s g) (hb:s.br=true):
  Calls prog 27 #[.pointer (some ⟨S,0,none⟩)] w fun e w'=>e= .returned (.tuple #[.agg #[.int .i64 0,.int .i64 0,.int .i64 0],.int .i64 4])∧PW A w' S P L Bs B M N r s g∧Dw.Mv (sK S M B) w w':=by
 obtain ⟨sv,ho,hsv⟩:=h.obj;have hd:=jT h.rg h.pb (by rw [h.pb.ou.1];exact ko h.tk.dH) [0,0,0,0,0,0,0,0,0,0,s.ph] [] (vp P) sv undef;have sW:(bH r s [0,0,0,0,0,0,0,0,0,0,s.ph] [] (vp P) sv undef).i 20=s.ph:=rfl;generalize bH r s [0,0,0,0,0,0,0,0,0,0,s.ph] [] (vp P) sv undef=ρ at*;have hj2:aT [(S,0),(M,0)] 2=some ⟨M,0,0,none⟩:=rfl;have hj1:aT [(S,0),(M,0)] 1=some ⟨S,0,0,none⟩:=rfl;have hrow:RL ρ (aT [(S,0),(M,0)]) (Vh (.var 20) (.lit true)) (s.row r P M sv):=by
  refine af (gY hd.p rfl) (af (aU rfl) (af (ai hd.n) (af (ai hd.d) (af (ai hd.v) (af (ai hd.c) (af (aU hd.b0) (af (aU hd.b1) (af (aU rfl) (af (ai hd.nx) (af (aU hd.b2) (af (ai hd.us) (af (aU hd.b6) (af (Vq hj2) (af (ai hd.ou) (af (ai sW)
   (af (ai hd.op) (af (aU hd.b3) (af (ai hd.hd) (af (gY hd.sv hsv.one) (af (ai hd.wr) (af (aU hd.b4) (af (aU hd.b5) (af (aU ?_) RL.nil)))))))))))))))))))))))
  exact hb.symm
 refine yaq (zap (ρ:=ρ) (K:=fun b=>b=S∨b=M) (g:=bg.none) (bl:= [(S,0),(M,0)]) (vals:= [.pointer (some ⟨S,0,none⟩)]) mixed zun zwA (fun b hb=>h.gP b (hb.imp_right .inl))
  ⟨fe ho hrow (.inl rfl),nP h.tk (.inr rfl),trivial⟩ h.apart fo trivial (af (gM hj1) RL.nil) (aR.2 trivial)) fun e w' hh=> ?_
 obtain ⟨_,j,he⟩:=mE hh;have aV:=he.sub _ _ hj1;have aY:=he.sub _ _ hj2;have dN:=bE aV;have dR:=bE aY;have hO:=(he.rows.1 _ aV).2 (.inr (.inl rfl)) rfl;have hM:=he.maps.1 _ aY;simp only [AV.val,AV.aI,dN,dR,hd.n,hd.d,hd.v,hd.c,hd.nx,hd.us,hd.hd,hd.wr,hd.ou,hd.p,hd.sv,gV,aC,bR,jd,hd.op,hd.b0,hd.b1,hd.b2,hd.b3,hd.b4,hd.b5,hd.b6] at hO;have wW:Own w' S (s.row r P M sv):=by
  rw [sW] at hO;unfold PS.row;rw [hb];exact hO
 have bS: ∀k,k<w.heap.size→ ¬A k→w'.heap[k]? =w.heap[k]? :=fun k hk ha=>he.mv.block k hk (by rintro (rfl|rfl);exact ha h.aS;exact ha h.aM);exact ⟨he.ret,h.same he.mv ⟨_,wW,hsv.kept bS⟩ hM,he.mv.mono fun b hb=>hb.imp_right .inl⟩
theorem Tryz.zwL (h:PW A w S P L Bs B M N r s g):
  Calls prog 12 #[.pointer (some ⟨S,0,none⟩)] w fun e w'=>e= .returned (.int .i64 (qN s).1)∧PW A w' S P L Bs B M N r (qN s).2 g∧Dw.Mv (sK S M B) w w':=by
 by_cases hno:s.br=true∨s.ph≠0
 ·have e:qN s=((if s.br=true then 4 else 8),s):=by
   unfold qN;by_cases hb:s.br=true
   ·rw [yaj hb,yaj hb]
   ·rw [yai hb,yai hb,yaj (hno.resolve_left hb)]
  rw [e];exact (zzU h hno).mono fun en w' hh=>⟨hh.1,hh.2▸h,hh.2▸Dw.Mv.refl _ _⟩
 have hb:s.br=false:=by
  cases hb:s.br with
  | false=>rfl
  | true=>exact absurd (.inl hb) hno
 have hp:s.ph=0:=ycm fun hp=>hno (.inr hp);have e:qN s=(0,({ s with op:=3,nn:=false,hd:=0,sg:= [],wr:=0,it:=false }:PS).goto 1):=by
  unfold qN;rw [yai (by rw [hb];decide),yai (fun hh=>hh hp)]
 rw [e];obtain ⟨sv,ho,hsv⟩:=h.obj;have hd:=jT h.rg h.pb (by rw [h.pb.ou.1];exact ko h.tk.dH) [] [] (vp P) sv undef;generalize bH r s [] [] (vp P) sv undef=ρ at*;have hj2:aT [(S,0),(M,0)] 2=some ⟨M,0,0,none⟩:=rfl;have hj1:aT [(S,0),(M,0)] 1=some ⟨S,0,0,none⟩:=rfl;refine yaq (zap (ρ:=ρ) (K:=fun b=>b=S∨b=M) (g:=bg.none) (bl:= [(S,0),(M,0)]) (vals:= [.pointer (some ⟨S,0,none⟩)]) mixed zuq zwN (fun b hb=>h.gP b (hb.imp_right .inl))
  ⟨fe ho (jS hd hb (by rw [hp];rfl) hsv.one hj2) (.inl rfl),nP h.tk (.inr rfl),trivial⟩ h.apart fo trivial (af (gM hj1) RL.nil) (aR.2 trivial)) fun e w' hh=> ?_
 obtain ⟨_,j,he⟩:=mE hh;have aV:=he.sub _ _ hj1;have aY:=he.sub _ _ hj2;have dN:=bE aV;have dR:=bE aY;have hO:=(he.rows.1 _ aV).2 (.inr (.inl rfl)) rfl;have hM:=he.maps.1 _ aY;simp only [AV.val,AV.aI,dN,dR,hd.n,hd.d,hd.v,hd.c,hd.nx,hd.us,hd.hd,hd.wr,hd.ou,hd.p,hd.sv,gV,aC,bR,jd,hd.op,hd.b0,hd.b1,hd.b2,hd.b3,hd.b4,hd.b5,hd.b6] at hO;have hmv:Dw.Mv (sK S M B) w w':=he.mv.mono fun b hb=>hb.imp_right .inl;have hgm:=h.mem.kept (fun k hk hk'=>he.mv.block k hk (h.Lp k hk')) he.mv.size;exact ⟨he.ret,h.next hmv hgm ⟨_,hO,aX.none⟩ (h.tk.same (h.kA hmv) hM) ⟨h.pb.nx,h.pb.us,h.pb.ou,FV,z32,by show 1≤11;decide,fun h7=>absurd h7 (by show¬7≤1;decide)⟩,hmv⟩
theorem Tryz.zzK (h:PW A w S P L Bs B M N r s g) (head wr:Int) (hw:0≤wr∧wr<4294967296) (hlen: ∀e∈s.tk,e.2.sg.length≤1000000):
  Calls prog 16 #[.pointer (some ⟨S,0,none⟩),.int .i64 head,.int .u32 wr] w fun e w'=>e= .returned (.int .i64 (ni s head wr).1)∧PW A w' S P L Bs B M N r (ni s head wr).2 g∧Dw.Mv (sK S M B) w w':=by
 by_cases hno:s.br=true∨s.ph≠0
 ·have e:ni s head wr=((if s.br=true then 4 else 8),s):=by
   unfold ni;by_cases hb:s.br=true
   ·rw [yaj hb,yaj hb]
   ·rw [yai hb,yai hb,yaj (hno.resolve_left hb)]
  rw [e];exact (zC4 h hno head wr).mono fun en w' hh=>⟨hh.1,hh.2▸h,hh.2▸Dw.Mv.refl _ _⟩
 have hb:s.br=false:=by
  cases hb:s.br with
  | false=>rfl
  | true=>exact absurd (.inl hb) hno
 have hp:s.ph=0:=ycm fun hp=>hno (.inr hp);obtain ⟨sv,ho,hsv⟩:=h.obj;have hj2:aT [(S,0),(M,0)] 2=some ⟨M,0,0,none⟩:=rfl;have hj1:aT [(S,0),(M,0)] 1=some ⟨S,0,0,none⟩:=rfl;obtain ⟨oZ,clock1,g1,g2,g3⟩:=h.tk.map;have key: ∀(tv:Value) (ct t1 t2:Int),(0≤ct∧ct≤16)→(0≤t1∧t1<18446744073709551616)→(0≤t2∧t2<18446744073709551616)→ ∃ρ:Val,Be ρ r s (vp P) sv∧ρ.v 2=tv∧(ah 19).den ρ=ct∧ρ.i 20=head∧(aW 21).den ρ=wr∧(aj 22).den ρ=t1∧(aj 23).den ρ=t2:=fun tv ct t1 t2 b0 b1 b2=>
  ⟨bH r s [0,0,0,0,0,0,0,0,0,ct,head,wr,t1,t2] [] (vp P) sv tv,jT h.rg h.pb (by rw [h.pb.ou.1];exact ko h.tk.dH) _ _ _ _ _,rfl,dK (by show 0≤ct;omega) (by show ct<_;omega),rfl,lU hw.1 hw.2,fM b1.1 b1.2,fM b2.1 b2.2⟩
 cases htk:bY head s.tk with
 | none=>
  have e:ni s head wr=(6,s):=by unfold ni;rw [yai (by rw [hb];decide),yai (fun hh=>hh hp),htk]
  rw [e];obtain ⟨ρ,hd,_,_,h20,h21,_,_⟩:=key undef 0 0 0 (by decide) (by decide) (by decide);refine yaq (zap (ρ:=ρ) (K:=fun b=>b=S∨b=M) (g:=bg.none) (bl:= [(S,0),(M,0)]) (vals:= [.pointer (some ⟨S,0,none⟩),.int .i64 head,.int .u32 wr]) mixed zwF zzN (fun b hb=>h.gP b (hb.imp_right .inl))
   ⟨fe ho (jS hd hb (by rw [hp];rfl) hsv.one hj2) (.inl rfl),⟨.inr rfl,rfl,oZ,clock1,[(head,none)],g1,g2,⟨head,none,[],rfl,ai h20,rfl,rfl⟩,fun k o hm=> ?_⟩,trivial⟩ h.apart fo trivial (af (gM hj1) (af (ai h20) (af (ai h21) RL.nil))) (aR.2 trivial)) fun e w' hh=> ?_
  ·simp only [yad,ycH,yag,yaB] at hm;obtain ⟨rfl,rfl⟩:=hm;exact (g3 _).1 htk
  ·obtain ⟨_,j,he⟩:=mE hh;have aV:=he.sub _ _ hj1;have aY:=he.sub _ _ hj2;have dN:=bE aV;have dR:=bE aY;have hO:=(he.rows.1 _ aV).2 (.inr (.inl rfl)) rfl;have hM:=he.maps.1 _ aY;simp only [AV.val,AV.aI,dN,dR,hd.n,hd.d,hd.v,hd.c,hd.nx,hd.us,hd.hd,hd.wr,hd.ou,hd.p,hd.sv,gV,aC,bR,jd,hd.op,hd.b0,hd.b1,hd.b2,hd.b3,hd.b4,hd.b5,hd.b6] at hO;have wW:Own w' S (s.row r P M sv):=by
    unfold PS.row;rw [hb,hp];exact hO
   have bS: ∀k,k<w.heap.size→ ¬A k→w'.heap[k]? =w.heap[k]? :=fun k hk ha=>he.mv.block k hk (by rintro (rfl|rfl);exact ha h.aS;exact ha h.aM);exact ⟨he.ret,h.same he.mv ⟨_,wW,hsv.kept bS⟩ hM,he.mv.mono fun b hb=>hb.imp_right .inl⟩
 | some t=>
  obtain ⟨tv,hv1,hv2⟩:=(g3 head).2 t htk;have hmem:=qJ htk;have hll:t.sg.length≤1000000:=hlen _ hmem;have xD:=h.tk.dH _ hmem;have hn16:=h.rg.bnd;have hhd:0≤head∧head<r.n:=xD.1;have hct:1≤t.ct∧t.ct≤r.n:=xD.2;obtain ⟨sa,c,rfl,hok,hr⟩:=hv2;obtain ⟨b1,b2,b3,b4⟩:=Wl hok;have hv2:aX A w (.slice sa t.sg.length c) t.sg:=⟨sa,c,rfl,hok,hr⟩;obtain ⟨ρ,hd,hv,h19,h20,h21,h22,h23⟩:=key (.slice sa t.sg.length c) t.ct (iO t.sg).1 (iO t.sg).2 ⟨by omega,by omega⟩ ⟨b1,b2⟩ ⟨b3,b4⟩;have hG:(FM sa t.sg).G 0 (aT [(S,0),(M,0)]) w:=by
   rcases hr with h0|⟨R,o,e,hA,hr⟩
   ·exact ⟨fun _=>False,fun _ h=>h.elim,.inl h0⟩
   ·by_cases h0:t.sg= []
    ·exact ⟨fun _=>False,fun _ h=>h.elim,.inl h0⟩
    ·refine ⟨fun b=>b=R,fun b hb=>⟨by rw [hb];exact rZ hr h0,fun hm=> ?_⟩,.inr ⟨R,o,e,rfl,hr⟩⟩;have:=Ih hm;simp only [yaJ,yaZ,yad,yag,yaB] at this;rw [hb] at this;rcases this with e|e
     ·exact hA (e▸h.aS)
     ·exact hA (e▸h.aM)
  refine yaq (zap (ρ:=ρ) (K:=fun b=>b=S∨b=M) (g:=FM sa t.sg) (bl:= [(S,0),(M,0)]) (vals:= [.pointer (some ⟨S,0,none⟩),.int .i64 head,.int .u32 wr]) mixed zwD zzL (fun b hb=>h.gP b (hb.imp_right .inl))
   ⟨fe ho (jS hd hb (by rw [hp];rfl) hsv.one hj2) (.inl rfl),⟨.inr rfl,rfl,oZ,clock1,[(head,some (.agg #[.int .i64 head,.int .i64 t.ct,.slice sa t.sg.length c]))],g1,g2,⟨head,some (.agg #[.int .i64 head,.int .i64 t.ct,.slice sa t.sg.length c]),[],rfl,ai h20,⟨_,rfl,dO (af (ai h20) (af (ai h19) (af (gY hv rfl) RL.nil)))⟩,rfl⟩,fun k o hm=> ?_⟩,trivial⟩ h.apart hG
   ⟨iQ (Dw.enters_of (by kernel_rfl)) (by decide) [.slice sa t.sg.length c] (.tuple #[.int .u64 (iO t.sg).1,.int .u64 (iO t.sg).2]) (fun j=>af (gY hv rfl) RL.nil) (fun j=>kM (af (ai h22) (af (ai h23) RL.nil))) fun w F q hf=>zmV (uO.v hf hok c) (by omega),trivial⟩ (af (gM hj1) (af (ai h20) (af (ai h21) RL.nil))) (aR.2 trivial)) fun e w' hh=> ?_
  ·simp only [yad,ycH,yag,yaB] at hm;obtain ⟨rfl,rfl⟩:=hm;exact hv1
  ·obtain ⟨p,hpm,hto,lf,hlf,j,he⟩:=hh;unfold zr8 at hpm;simp only [yad,yag,yaB] at hpm;have aV:=he.sub _ _ hj1;have aY:=he.sub _ _ hj2;have dN:=bE aV;have dR:=bE aY;have hmv:Dw.Mv (sK S M B) w w':=he.mv.mono fun b hb=>hb.imp_right .inl;have hgm:=h.mem.kept (fun k hk hk'=>he.mv.block k hk (h.Lp k hk')) he.mv.size;have bS:=h.kA hmv;rcases hpm with rfl|rfl
   all_goals
    simp only [aH,aR,gZ,h21,h23,yat,yas,yaN] at hto;cases hlf;have hO:=(he.rows.1 _ aV).2 (.inr (.inl rfl)) rfl;have hM:=he.maps.1 _ aY;simp only [AV.val,AV.aI,dN,dR,hd.n,hd.d,hd.v,hd.c,hd.nx,hd.us,hd.hd,hd.wr,hd.ou,hd.p,hd.sv,gV,aC,bR,jd,hd.op,hd.b0,hd.b1,hd.b2,hd.b3,hd.b4,hd.b5,hd.b6,h20,h21] at hO
   ·have e:ni s head wr=(2,s):=by unfold ni;rw [yai (by rw [hb];decide),yai (fun hh=>hh hp),htk];simp only;rw [yaj (by omega)]
    rw [e];have wW:Own w' S (s.row r P M sv):=by
     unfold PS.row;rw [hb,hp];exact hO
    exact ⟨he.ret,h.same he.mv ⟨_,wW,hsv.kept bS⟩ hM,hmv⟩
   ·have e:ni s head wr=(0,({ s with op:=4,nn:=false,hd:=head,sg:= [],wr:=wr,it:=false }:PS).goto 7):=by unfold ni;rw [yai (by rw [hb];decide),yai (fun hh=>hh hp),htk];simp only;rw [yai (by omega)]
    rw [e];exact ⟨he.ret,h.next hmv hgm ⟨_,hO,aX.none⟩ (h.tk.same bS hM) ⟨h.pb.nx,h.pb.us,h.pb.ou,⟨hhd.1,by show head<65536;omega⟩,hw,by show 7≤11;decide,fun _=>⟨t,htk⟩⟩,hmv⟩
theorem Tryz.znA (h:PW A w S P L Bs B M N r s g):
  Calls prog 27 #[.pointer (some ⟨S,0,none⟩)] w fun e w'=>e= .returned (.tuple #[(eO N r s g).1,.int .i64 (eO N r s g).2.1])∧PW A w' S P L Bs B M N r (eO N r s g).2.2.1 (eO N r s g).2.2.2∧Dw.Mv (sK S M B) w w':=by
 cases hb:s.br with
 | true=>
  have e:eO N r s g=(.agg #[.int .i64 0,.int .i64 0,.int .i64 0],4,s,g):=by unfold eO;rw [yaj hb]
  rw [e];exact znz h hb
 | false=>
  have e0: ¬s.br=true:=by rw [hb];decide
  by_cases h0:s.ph=0
  ·have e:eO N r s g=(.agg #[.int .i64 0,.int .i64 0,.int .i64 0],8,s,g):=by unfold eO;rw [yai e0,yaj h0]
   rw [e];exact zuk h hb h0
  have e:eO N r s g=iA N r s g s.ph:=by unfold eO;rw [yai e0,yai h0]
  rw [e];have h11:=h.pb.ph;have sW:s.ph=1∨s.ph=2∨s.ph=3∨s.ph=4∨s.ph=5∨s.ph=6∨s.ph=7∨s.ph=8∨s.ph=9∨s.ph=10∨s.ph=11:=by omega
  rcases sW with hp|hp|hp|hp|hp|hp|hp|hp|hp|hp|hp
  ·rw [hp];exact zw4 h hb hp
  ·rw [hp];exact zuC h hb hp
  ·rw [hp];exact zqv h hb hp
  ·rw [hp];exact zuM h hb hp
  ·rw [hp];exact zqu h hb hp
  ·rw [hp];exact zuF h hb hp
  ·rw [hp];exact zoq h hb hp
  ·rw [hp];exact zqr h hb hp
  ·rw [hp];unfold iA;simp only;by_cases hw:0<s.wr
   ·rw [yaj hw];exact zql h hb hp hw
   ·rw [yai hw];exact zqo h hb hp hw
  ·rw [hp];exact zok h hb hp
  ·rw [hp];obtain ⟨t,ht⟩:=h.pb.ret (by omega);unfold iA;simp only [ht];by_cases w0:ax g r.v.toNat 4/65536%4=0
   ·exact zuj h hb hp ht w0
   ·by_cases w2:ax g r.v.toNat 4/65536%4=2
    ·by_cases w3:r.n≤ax g r.v.toNat 4%32768
     ·exact zp9 h hb hp ht w0 w2 w3
     ·exact zqc h hb hp ht w0 w2 (by omega)
    ·exact zue h hb hp ht w0 w2
end
end Go.Proofs
namespace Go.Proofs
open Go.Dw Go.RowKit Go.Maps Go.Sort Go.Shelf
theorem Tryz.zw1 {A:Nat→Prop} {w:World} {M:Nat} {n:Int} {tk:List (Int×bN)} (h:jN A w M n tk) {arr:Array MapEntry} {clock:Nat} (hb:w.heap[M]? =some (.map arr clock)):
  MapKept.Stamped arr clock∧ ∃ks:List Int,arr.toList.map (·.key)=ks.map encZ∧ks.Perm (tk.map (·.1)):=by
 obtain ⟨arr',clock',h1,⟨h2,h3⟩,h4⟩:=h.map;rw [hb] at h1;cases h1;obtain ⟨ks,g1,g2⟩:=zoQ h2.keys;have hnd:ks.Nodup:=by
  have:(ks.map encZ).Nodup:=by
   rw [←g1,List.Nodup,ycA];exact h2.once
  exact (ycA.1 this).imp fun h e=>h (yaI encZ e)
 refine ⟨(MapKept.stamped_iff _ _).2 ⟨h3.1,h3.2,h2.once⟩,ks,g1,(List.perm_ext_iff_of_nodup hnd h.keys).2 fun x=> ?_⟩;rw [g2];constructor
 ·rintro ⟨e,he,hk⟩;have hv:=rU h2 he hk;cases hg:bY x tk with
  | none=>rw [(h4 x).1 hg] at hv;cases hv
  | some l=>exact ya2.2 ⟨_,qJ hg,rfl⟩
 ·intro hx;cases hg:bY x tk with
  | none=>exact absurd hx (Gm.1 hg)
  | some l=>
   obtain ⟨v,hv,_⟩:=(h4 x).2 l hg;obtain ⟨e,he,hk,_⟩:=Ht hv;exact ⟨e,he,hk⟩
set_option maxRecDepth 100000 in
theorem Tryz.zut (M:Nat) (w:World):
  Calls prog 65 #[.map (some M)] w fun e w'=> ∃t,e= .returned (.func (.func 90) #[] #[.pointer (some ⟨w.heap.size,0,none⟩)])∧w'=w.alloc (.cells #[.map (some M)] t):=by
 have hmf: ∀(fn:Fn) (first cap:Array Value) (w:World),(Instr.makeFunc fn first cap).run prog w= .ok (.func fn first cap) w:=fun _ _ _ _=>rfl;go_enter func65,ntmps65;go_wp2;go_ret;exact ⟨_,rfl,rfl⟩
def Tryz.oJ (s:PS):List Int:=(s.tk.map (·.1)).mergeSort leI
set_option maxRecDepth 100000 in
theorem Tryz.zu4 {A:Nat→Prop} {w:World} {S P L Bs B M N:Nat} {r:Rg} {s:PS} {g:Nat→Int} (h:PW A w S P L Bs B M N r s g) (hl:s.tk.length≤1000000):
    Calls prog 21 #[.pointer (some ⟨S,0,none⟩)] w fun e w'=> ∃(v:Value) (t:TypeId),e= .returned v∧w'.ownsRow w.heap.size t 1 v s.tk.length ((oJ s).map encZ)∧Below w.heap.size w w':=by
  have hm:=Ag h;obtain ⟨sv,ho,hsv⟩:=h.obj;have c1:=jK ho (i:=13) rfl;clear ho hsv;have hn16:=h.rg.bnd;obtain ⟨arr,clock,hb,_⟩:=h.tk.map;obtain ⟨hst,ks,hk1,hk2⟩:=zw1 h.tk hb;have hlt:=h.Cn;have hS: ∀t,Calls prog 64 #[.func (.func 90) #[] #[.pointer (some ⟨w.heap.size,0,none⟩)]] (w.alloc (.cells #[.map (some M)] t)) fun e w'=> ∃v ss t',e= .returned v∧ss.Perm ks∧w'.ownsRow (w.alloc (.cells #[.map (some M)] t)).heap.size t' 1 v ss.length ((ss.mergeSort leI).map encZ)∧(v= .slice none 0 0↔ss= [])∧RowKit.Below (w.alloc (.cells #[.map (some M)] t)).heap.size (w.alloc (.cells #[.map (some M)] t)) w':=fun t=>
    Tq.sorted _ w.heap.size M arr clock ks (by simp) (by rw [yc7 _ _ 0 _ _ (0,0) (ybv w _)];rfl) (by rw [←hb];exact ycx w _|>.2 _ hlt) hst hk1
      (fun x hx=>by
        obtain ⟨e,he,rfl⟩:=ya2.1 (hk2.subset hx);have abF:0≤e.1:=(h.tk.dH e he).1.1;have abG:e.1<r.n:=(h.tk.dH e he).1.2;generalize e.1=x at abF abG;have e1:IntKind.i64.min= -9223372036854775808:=by decide
        have e2:IntKind.i64.max=9223372036854775807:=by decide
        simp only [Lit.wf,e1,e2,ybe,yat];omega)
      (by rw [hk2.length_eq,ybs];exact hl)
  go_enter func21,ntmps21;go_wp2_with (first
    | (go_at_call 56;refine hm.mono ?_;rintro e w' ⟨rfl,hw⟩;have hw:=hw.symm;subst hw)
    | (go_at_call 65;refine (zut M _).mono ?_;rintro e w' ⟨t,rfl,hw⟩;subst hw)
    | (go_at_call 64;refine (hS _).mono ?_;rintro e w' ⟨v,ss,t,rfl,hss,hrow,_,hb⟩)
    | go_in)
  go_ret;have hss:=hss.trans hk2;rw [hss.length_eq,ybs,mergeSort_of_perm_i hss] at hrow;exact ⟨v,t,rfl,zzl hrow (by simp),((yah _ w).alloc (yab _) _).trans (hb.mono (by simp))⟩
end Go.Proofs
namespace Go.Proofs
open Go.RowKit Go.Maps Go.Sort
def Tryz.Pb (n:Nat):Rg:=⟨n,4096,4096+16*n,4100+16*n⟩
theorem Tryz.zup {n:Nat} (h:1≤n∧n≤16):jG (Pb n):=⟨⟨by show (1:Int)≤n;omega,by show (n:Int)≤16;omega⟩,rfl,rfl,rfl⟩
def Tryz.zC3 (n:Nat):Dw.AV:= .agg [.bool (.lit true),.int .i64 (.lit n),.int .u64 (.lit 4096),.int .u64 (.lit (4096+16*n)),.int .u64 (.lit (4100+16*n))]
def Tryz.Me:List Nat:= [1,2,3,4,5,6,7,8,9,10,11,12,13,14,15,16]
theorem Tryz.zEB {n:Nat} (h:1≤n∧n≤16):n∈Me:=by unfold Me;simp;omega
noncomputable def Tryz.zAl (n:Nat):Bool:=(Dw.ev prog Dw.Ba 100000 (.call 29 [.bool (.lit true),.int .i64 (.lit n),.int .u64 (.lit 4096)] Dw.nX (Dw.zG (.ay [zC3 n,.int .u64 (.lit (8+16*n)),.int .i64 (.lit 0)])))).good
theorem Tryz.zqh:(Me.all fun n=>zAl n)=true:=by kernel_rfl
theorem Tryz.zus (n:Nat) (hn:1≤n∧n≤16) (w:World):
  Calls prog 29 #[.bool true,.int .i64 n,.int .u64 4096] w fun e w'=>e= .returned (.tuple #[(Pb n).gJ,.int .u64 (8+16*n),.int .i64 0])∧Below w.heap.size w w':=by
 have h1:=ybj.1 zqh n (zEB hn);exact Dw.O0 (by kernel_rfl) rfl (Dw.Pp (Dw.P7 (Dw.P7 Dw.RL.nil))) h1 w
noncomputable def Tryz.zAk (f:Nat):Bool:=(Dw.ev prog Dw.Ba 100000 (.call f [] Dw.nX (Dw.zG (.agg [.int .i64 (.lit 0),.bool (.lit true)])))).good
theorem Tryz.zqd:([76,9].all fun f=>zAk f)=true:=by kernel_rfl
theorem Tryz.Zb (f:Nat) (hf:f=76∨f=9) (w:World):
  Calls prog f #[] w fun e w'=>e= .returned (.agg #[.int .i64 0,.bool true])∧Below w.heap.size w w':=by
 have h1:=ybj.1 zqd f (by simpa using hf);exact Dw.O0 (by kernel_rfl) rfl Dw.RL.nil h1 w
end Go.Proofs
namespace Go.Proofs
open Go.Dw Go.RowKit
def Tryz.PS.fresh (ev tb:Bool):PS:=⟨ev,tb,0,true,0,true,[],0,0,0,false,0,[],0,false,false,false⟩
theorem Tryz.Oy {w wx:World} {r:Rg} {ev tb:Bool} {P M:Nat} {T:TypeId} (hb:Below w.heap.size w wx) (hm:wx.heap[M]? =some (.map #[] 0)):
  Own (wx.alloc (.cells (((PS.fresh ev tb).row r P M (.slice none 0 0)).toArray) T)) wx.heap.size ((PS.fresh ev tb).row r P M (.slice none 0 0))∧(wx.alloc (.cells (((PS.fresh ev tb).row r P M (.slice none 0 0)).toArray) T)).heap[M]? =some (.map #[] 0)∧
   Below w.heap.size w (wx.alloc (.cells (((PS.fresh ev tb).row r P M (.slice none 0 0)).toArray) T)):=by
 have hlt:M<wx.heap.size:=by
  rcases ybT M wx.heap.size with h|h
  ·exact h
  ·rw [ya4 h] at hm;cases hm
 exact ⟨⟨_,T,ybv wx _,fun i y h=>by rw [yaA];exact h⟩,((ycx _ _).2 _ hlt).trans hm,hb.alloc hb.size _⟩
theorem Tryz.gG {w w':World} {p:Addr} {v:Value} (hb:Below w.heap.size w w') (h:w.cell? p=some v):w'.cell? p=some v:=(hb.cell (World.block_lt_of_cell? _ _ h)).trans h
set_option maxRecDepth 100000 in
theorem Tryz.zAn {w:World} {P L Bs B N:Nat} {g:Nat→Int} {r:Rg} {ev tb:Bool} (st:GM w P L Bs B N g) (hr:jG r):
    Calls prog 32 #[.pointer (some ⟨P,0,none⟩),r.gJ,.agg #[.bool ev,.bool tb,.bool true]] w fun e w'=> ∃S M,e= .returned (.tuple #[.pointer (some ⟨S,0,none⟩),.int .i64 0])∧w.heap.size≤S∧w.heap.size≤M∧S≠M∧
      Own w' S ((PS.fresh ev tb).row r P M (.slice none 0 0))∧w'.heap[M]? =some (.map #[] 0)∧Below w.heap.size w w':=by
  have lM: ∀x y tx ty,GM ((w.alloc (.cells x tx)).alloc (.cells y ty)) P L Bs B N g:=fun x y tx ty=>(st.below ((yah _ w).alloc (yab _) _)).below ((yah _ _).alloc (yab _) _);have hck:=Yk hr;have hps:=Zb 76 (.inl rfl);have hmk: ∀(t:TypeId) (w:World),(Instr.makeMap t none).run prog w= .ok (.map (some w.heap.size)) (w.alloc (.map #[] 0)):=fun _ _=>rfl;unfold Rg.gJ at*;go_enter func32,ntmps32;go_wp2_with (first
    | (go_at_call 17;refine (Hg P L Bs B N 0 g _ (lM _ _ _ _)).mono ?_;rintro e w' ⟨rfl,hw⟩;have hw:=hw.symm;subst hw)
    | (go_at_call 75;refine (hck _).mono ?_;rintro e w' ⟨rfl,hb⟩;have ka:=((Cl.new w _ _).alloc _).below hb (by simp<;>omega);have kb:=(Cl.new (w.alloc _) _ _).below hb (by simp<;>omega);rw [iP] at kb;have x0:=ka.cell 0 _ rfl;have x1:=ka.cell 1 _ rfl;have x2:=ka.cell 2 _ rfl;have x3:=ka.cell 3 _ rfl;have x4:=ka.cell 4 _ rfl;have y0:=kb.cell 0 _ rfl;have y1:=kb.cell 1 _ rfl;have y2:=kb.cell 2 _ rfl)
    | go_in)
  go_region_held3 (fun w'=>w'.cell? ⟨w.heap.size,0,none⟩=some (.bool true)∧w'.cell? ⟨w.heap.size,1,none⟩=some (.int .i64 r.n)∧w'.cell? ⟨w.heap.size,2,none⟩=some (.int .u64 r.d)∧w'.cell? ⟨w.heap.size,3,none⟩=some (.int .u64 r.v)∧w'.cell? ⟨w.heap.size,4,none⟩=some (.int .u64 r.c)∧w'.cell? ⟨w.heap.size+1,0,none⟩=some (.bool ev)∧w'.cell? ⟨w.heap.size+1,1,none⟩=some (.bool tb)∧w'.cell? ⟨w.heap.size+1,2,none⟩=some (.bool true)) (go_keep)
    (first
      | (go_at_call 76;have hz:=hb5;refine (hps _).mono ?_;rintro e w6 ⟨rfl,hb6⟩;have t0:w6.cell? ⟨w.heap.size,0,none⟩=some (.bool true):=gG hb6 (by go_keep);have t1:w6.cell? ⟨w.heap.size,1,none⟩=some (.int .i64 r.n):=gG hb6 (by go_keep);have t2:w6.cell? ⟨w.heap.size,2,none⟩=some (.int .u64 r.d):=gG hb6 (by go_keep);have t3:w6.cell? ⟨w.heap.size,3,none⟩=some (.int .u64 r.v):=gG hb6 (by go_keep);have t4:w6.cell? ⟨w.heap.size,4,none⟩=some (.int .u64 r.c):=gG hb6 (by go_keep);have t5:w6.cell? ⟨w.heap.size+1,0,none⟩=some (.bool ev):=gG hb6 (by go_keep);have t6:w6.cell? ⟨w.heap.size+1,1,none⟩=some (.bool tb):=gG hb6 (by go_keep);have t7:w6.cell? ⟨w.heap.size+1,2,none⟩=some (.bool true):=gG hb6 (by go_keep))
      | (go_at_call 76;refine (hps _).mono ?_;rintro e w5 ⟨rfl,hb5⟩;have z0:w5.cell? ⟨w.heap.size,0,none⟩=some (.bool true):=gG hb5 (by go_keep);have z1:w5.cell? ⟨w.heap.size,1,none⟩=some (.int .i64 r.n):=gG hb5 (by go_keep);have z2:w5.cell? ⟨w.heap.size,2,none⟩=some (.int .u64 r.d):=gG hb5 (by go_keep);have z3:w5.cell? ⟨w.heap.size,3,none⟩=some (.int .u64 r.v):=gG hb5 (by go_keep);have z4:w5.cell? ⟨w.heap.size,4,none⟩=some (.int .u64 r.c):=gG hb5 (by go_keep);have z5:w5.cell? ⟨w.heap.size+1,0,none⟩=some (.bool ev):=gG hb5 (by go_keep);have z6:w5.cell? ⟨w.heap.size+1,1,none⟩=some (.bool tb):=gG hb5 (by go_keep);have z7:w5.cell? ⟨w.heap.size+1,2,none⟩=some (.bool true):=gG hb5 (by go_keep)))
  all_goals (go_wp2_with fail;go_ret2)
  all_goals
    have hW:Below w.heap.size w w':=(((yah _ w).alloc (yab _) _).alloc (by simp) _).trans (hb.mono (by simp<;>omega));have hD:Below w.heap.size w w'.drew:=hW.drew;have hs1:=hW.size;have hd1:w'.drew.heap.size=w'.heap.size:=rfl;have hs5:=hb5.size;have hs6:=hb6.size
    try simp only [iP] at hs5 hs6
  · have h6:Below w.heap.size w w6:=(hD.trans (hb5.mono (by omega))).trans (hb6.mono (by omega));have hm:=ybv w6 (.map #[] 0);obtain ⟨f1,f2,f3⟩:=Oy (r:=r) (ev:=ev) (tb:=tb) (P:=P) (T:=119) (h6.alloc h6.size (.map #[] 0)) hm;rw [iP] at f1;exact ⟨w6.heap.size+1,w6.heap.size,rfl,by omega,by omega,by omega,f1,f2,f3⟩
  · have h5:Below w.heap.size w w5:=hD.trans (hb5.mono (by omega));have h6:Below w.heap.size w w6:=(h5.alloc h5.size (.map #[] 0)).trans (hb6.mono (by simp only [iP];omega));have hm:w6.heap[w5.heap.size]? =some (.map #[] 0):=(hb6.block w5.heap.size (by simp)).trans (ybv w5 _);obtain ⟨f1,f2,f3⟩:=Oy (r:=r) (ev:=ev) (tb:=tb) (P:=P) (T:=119) h6 hm;exact ⟨w6.heap.size,w5.heap.size,rfl,by omega,by omega,by omega,f1,f2,f3⟩
  · have hX:Below w.heap.size w (w'.alloc (.map #[] 0)).drew:=(hW.alloc hW.size (.map #[] 0)).drew;have hsx:(w'.alloc (.map #[] 0)).drew.heap.size=w'.heap.size+1:=by show (w'.alloc (.map #[] 0)).heap.size=_;simp
    have h5:Below w.heap.size w w5:=hX.trans (hb5.mono (by omega));have h6:Below w.heap.size w w6:=h5.trans (hb6.mono (by omega));have dW:w5.heap[w'.heap.size]? =some (.map #[] 0):=(hb5.block w'.heap.size (by omega)).trans (ybv w' _);have hm:w6.heap[w'.heap.size]? =some (.map #[] 0):=(hb6.block w'.heap.size (by have:=hb5.size;omega)).trans dW;obtain ⟨f1,f2,f3⟩:=Oy (r:=r) (ev:=ev) (tb:=tb) (P:=P) (T:=119) h6 hm;have abY:=hb5.size;exact ⟨w6.heap.size,w'.heap.size,rfl,by omega,by omega,by omega,f1,f2,f3⟩
def Tryz.Az:List (Nat×AV):= [(1,.int .i64 (ah 2)),(2,.int .i64 (aK 5)),(3,sl1 [(ah 1,2)]),(4,.ptr 1 0),(11,.cst 2 none),(12,.int .i64 (ah 1))]
def Tryz.Jz:List Sh:= [.own [.int .i64 (ah 6),.bool (.var 1)],wS 3 4 0]
def Tryz.FC (f:Int):aG:=⟨37,[.int .u16 (.lit f),.bool (.var 1),.bool (.lit false)],1,0,0,.int .u16 (aK 8),1⟩
def Tryz.Cz:aG:=⟨20,[.agg [.int .i64 (ah 6),.bool (.var 1)],.int .i64 (.lit 1),.int .i64 (ah 2)],2,0,0,.ay [.agg [.int .i64 (ah 9),.bool (.var 2)],.int .i64 (.lit 0)],2⟩
def Tryz.Cy (base:Nat):dX:=⟨103,.cst 2 none,1,[.int .i64 (ah 6),.int .u64 (aj 3),.int .u32 (aW 4),.int .u16 (aK 5),.int .u16 (aK 8)],1,base,1,.opq base none,2⟩
end Go.Proofs
namespace Go.Proofs
open Go.Dw
def Tryz.Yt:List aG:= [FC 3,Cz]
def Tryz.znM:List Sh:=Jz
def Tryz.Ng:List (Nat×AV):=Az
def Tryz.XD:List dD:= []
def Tryz.XE:List dX:= [Cy 4]
def Tryz.znN:Option AV:=none
def Tryz.zwP:List (SB×Bool):= [(.cmp .lss (ah 1) (ah 0),true),(.var 0,true),(.cmp .lss (.bin .add .i64 (ah 1) (.lit 1)) (ah 0),true)]
def Tryz.zsf:List gu:= [
 ⟨.normal,[1,2,3,4,11,12],none,⟨.ay [.int .i64 (ah 2),.int .i64 (aK 5),.sx 1 ((ah 0)) 3 [((ah 1),2)],.ptr 1 0,.opq 4 none,.int .i64 (.bin .add .i64 (ah 1) (.lit 1))],[(1,[.int .i64 (ah 9),.bool (.var 2)])],[],2,[1]⟩⟩]
def Tryz.zse:List (List (SB×Bool)×Nat):= [
 ([], 0)]
theorem Tryz.zwO:(fG prog (bB Yt) (fK XD) (fJ XE) 100000 (.code (bJ prog [0,0,1,0,1,1,1,1,1,42]) [0,0,1,0,1,1,1,1,1,42] 86 (bO 86 Ng znN) (bn 1 znM) (fO zsf 0))).ways zwP=some zse:=by kernel_rfl
theorem Tryz.zzV:(bD znM&&zag Yt&&fZ XD&&gq XE&&fP Ng&&gL zsf&&fI 86 Ng&&Nat.ble 86 bM&&gK znN)=true:=by kernel_rfl
def Tryz.Yu:List aG:= [FC 1,Cz]
def Tryz.znO:List Sh:=Jz
def Tryz.Nh:List (Nat×AV):=Az
def Tryz.XF:List dD:= []
def Tryz.XG:List dX:= [Cy 4]
def Tryz.znP:Option AV:=none
def Tryz.zwR:List (SB×Bool):= [(.cmp .lss (ah 1) (ah 0),true),(.var 0,false),(.cmp .lss (.bin .add .i64 (ah 1) (.lit 1)) (ah 0),true)]
def Tryz.zsh:List gu:= [
 ⟨.normal,[1,2,3,4,11,12],none,⟨.ay [.int .i64 (ah 2),.int .i64 (aK 5),.sx 1 ((ah 0)) 3 [((ah 1),2)],.ptr 1 0,.opq 4 none,.int .i64 (.bin .add .i64 (ah 1) (.lit 1))],[(1,[.int .i64 (ah 9),.bool (.var 2)])],[],2,[1]⟩⟩]
def Tryz.zsg:List (List (SB×Bool)×Nat):= [
 ([], 0)]
theorem Tryz.zwQ:(fG prog (bB Yu) (fK XF) (fJ XG) 100000 (.code (bJ prog [0,0,1,0,1,1,1,1,1,42]) [0,0,1,0,1,1,1,1,1,42] 86 (bO 86 Nh znP) (bn 1 znO) (fO zsh 0))).ways zwR=some zsg:=by kernel_rfl
theorem Tryz.zzW:(bD znO&&zag Yu&&fZ XF&&gq XG&&fP Nh&&gL zsh&&fI 86 Nh&&Nat.ble 86 bM&&gK znP)=true:=by kernel_rfl
def Tryz.Yv:List aG:= [FC 2,Cz]
def Tryz.znQ:List Sh:=Jz
def Tryz.Ni:List (Nat×AV):=Az
def Tryz.XH:List dD:= []
def Tryz.XI:List dX:= [Cy 4]
def Tryz.znR:Option AV:=none
def Tryz.zwT:List (SB×Bool):= [(.cmp .lss (ah 1) (ah 0),true),(.var 0,true),(.cmp .lss (.bin .add .i64 (ah 1) (.lit 1)) (ah 0),false)]
def Tryz.zsj:List gu:= [
 ⟨.normal,[1,2,3,4,11,12],none,⟨.ay [.int .i64 (ah 2),.int .i64 (aK 5),.sx 1 ((ah 0)) 3 [((ah 1),2)],.ptr 1 0,.opq 4 none,.int .i64 (.bin .add .i64 (ah 1) (.lit 1))],[(1,[.int .i64 (ah 9),.bool (.var 2)])],[],2,[1]⟩⟩]
def Tryz.zsi:List (List (SB×Bool)×Nat):= [
 ([], 0)]
theorem Tryz.zwS:(fG prog (bB Yv) (fK XH) (fJ XI) 100000 (.code (bJ prog [0,0,1,0,1,1,1,1,1,42]) [0,0,1,0,1,1,1,1,1,42] 86 (bO 86 Ni znR) (bn 1 znQ) (fO zsj 0))).ways zwT=some zsi:=by kernel_rfl
theorem Tryz.zzX:(bD znQ&&zag Yv&&fZ XH&&gq XI&&fP Ni&&gL zsj&&fI 86 Ni&&Nat.ble 86 bM&&gK znR)=true:=by kernel_rfl
def Tryz.Yw:List aG:= [FC 0,Cz]
def Tryz.znS:List Sh:=Jz
def Tryz.Nj:List (Nat×AV):=Az
def Tryz.XJ:List dD:= []
def Tryz.XK:List dX:= [Cy 4]
def Tryz.znT:Option AV:=none
def Tryz.zwV:List (SB×Bool):= [(.cmp .lss (ah 1) (ah 0),true),(.var 0,false),(.cmp .lss (.bin .add .i64 (ah 1) (.lit 1)) (ah 0),false)]
def Tryz.zsl:List gu:= [
 ⟨.normal,[1,2,3,4,11,12],none,⟨.ay [.int .i64 (ah 2),.int .i64 (aK 5),.sx 1 ((ah 0)) 3 [((ah 1),2)],.ptr 1 0,.opq 4 none,.int .i64 (.bin .add .i64 (ah 1) (.lit 1))],[(1,[.int .i64 (ah 9),.bool (.var 2)])],[],2,[1]⟩⟩]
def Tryz.zsk:List (List (SB×Bool)×Nat):= [
 ([], 0)]
theorem Tryz.zwU:(fG prog (bB Yw) (fK XJ) (fJ XK) 100000 (.code (bJ prog [0,0,1,0,1,1,1,1,1,42]) [0,0,1,0,1,1,1,1,1,42] 86 (bO 86 Nj znT) (bn 1 znS) (fO zsl 0))).ways zwV=some zsk:=by kernel_rfl
theorem Tryz.zzY:(bD znS&&zag Yw&&fZ XJ&&gq XK&&fP Nj&&gL zsl&&fI 86 Nj&&Nat.ble 86 bM&&gK znT)=true:=by kernel_rfl
def Tryz.znU:List aG:= []
def Tryz.zsm:List Sh:= [.own [.int .i64 (ah 6),.bool (.var 1)]]
def Tryz.GA:List (Nat×AV):= [(1,.int .i64 (ah 2)),(2,.int .i64 (aK 5)),(3,sl1 []),(4,.ptr 1 0),(11,.cst 2 none),(12,.int .i64 (ah 1))]
def Tryz.Yx:List dD:= []
def Tryz.Yy:List dX:= []
def Tryz.zsn:Option AV:=none
def Tryz.zz0:List (SB×Bool):= [(.cmp .lss (ah 1) (ah 0),false)]
def Tryz.zwX:List gu:= [
 ⟨(.exit 0),[11],none,⟨.ay [.cst 2 none],[],[],0,[]⟩⟩]
def Tryz.zwW:List (List (SB×Bool)×Nat):= [
 ([], 0)]
theorem Tryz.zzZ:(fG prog (bB znU) (fK Yx) (fJ Yy) 100000 (.code (bJ prog [0,0,1,0,1,1,1,1,1,42]) [0,0,1,0,1,1,1,1,1,42] 86 (bO 86 GA zsn) (bn 0 zsm) (fO zwX 0))).ways zz0=some zwW:=by kernel_rfl
theorem Tryz.zDa:(bD zsm&&zag znU&&fZ Yx&&gq Yy&&fP GA&&gL zwX&&fI 86 GA&&Nat.ble 86 bM&&gK zsn)=true:=by kernel_rfl
open Go.RowKit Go.Maps Go.Sort
def Tryz.sj (f:Int) (wr:Bool):Int:=f+if wr then 128 else 32768
noncomputable def Tryz.zDx (f:Nat) (wr:Bool):Bool:=(Dw.ev prog Dw.Ba 100000 (.call 37 [.int .u16 (.lit f),.bool (.lit wr),.bool (.lit false)] Dw.nX (Dw.zG (.int .u16 (.lit (sj f wr)))))).good
theorem Tryz.zuU:([0,1,2,3].all fun f=> [true,false].all fun wr=>zDx f wr)=true:=by kernel_rfl
theorem Tryz.Hw (f:Nat) (hf:f=0∨f=1∨f=2∨f=3) (wr:Bool) (w:World):
  Calls prog 37 #[.int .u16 f,.bool wr,.bool false] w fun e w'=>e= .returned (.int .u16 (sj f wr))∧Below w.heap.size w w':=by
 have h1:=ybj.1 (ybj.1 zuU f (by simp;omega)) wr (by cases wr<;>simp);exact Dw.O0 (by kernel_rfl) rfl (Dw.P7 (Dw.Pp (Dw.Pp Dw.RL.nil))) h1 w
def Tryz.dQ (n a:Int) (x:Bool):Nat→Int×Bool
 | 0=>(a,x)
 | k+1=>aZ n (dQ n a x k).1 (dQ n a x k).2 1
theorem Tryz.DU {n a:Int} {x:Bool} (ha:0≤a∧a<n): ∀k,0≤(dQ n a x k).1∧(dQ n a x k).1<n
 | 0=>ha
 | k+1=>OA (DU ha k) ⟨by decide,by have:=DU ha k (x:=x);omega⟩
def Tryz.iY (n id a:Int) (x:Bool) (l:List Sg) (k:Nat):Pt:=
 ⟨(dQ n a x k).1,(l.getD k ⟨0,0,false⟩).aP,(l.getD k ⟨0,0,false⟩).len,id,sj ((if (l.getD k ⟨0,0,false⟩).wr then 2 else 0)+(if k+1<l.length then 1 else 0)) (dQ n a x k).2⟩
def Tryz.jw (n id a:Int) (x:Bool) (l:List Sg) (k:Nat):List Pt:=(List.range k).map (iY n id a x l)
theorem Tryz.zwY (n id a:Int) (x:Bool) (l:List Sg) (k:Nat):jw n id a x l (k+1)=jw n id a x l k++ [iY n id a x l k]:=by simp [jw,List.range_succ]
theorem Tryz.Du (n id a:Int) (x:Bool) (l:List Sg) (k:Nat):(jw n id a x l k).length=k:=by simp [jw]
def Tryz.oM (w:World) (b2:Nat) (v:Value) (ps:List Pt):Prop:=aA 107 5 w b2 v ps.length (qL ps)
def Tryz.U8 (b2:Nat) (v:Value) (ps:List Pt) (F:Nat→Prop) (w:World):Prop:=oM w b2 v ps∧ ∀b,v.ownBlock=some b→F b
def Tryz.xP (b2 base:Nat) (v:Value) (p1 p2:List Pt):bg where
 fact k q F w:=match k with|0=>True|1=>U8 b2 v p1 F w|_=> ∃u,q base=some u∧U8 b2 u p2 F w
 loc:=fun k q q' F w w' h hq hb hs=>by
  match k,h with
  | 0,_=>trivial
  | 1,⟨h7,h8⟩=>exact ⟨aA.kept h7 fun b e=>hb b (h8 b e),h8⟩
  | k+2,⟨u,h7,h8,h9⟩=>exact ⟨u,hq _ _ h7,aA.kept h8 fun b e=>hb b (h9 b e),h9⟩
theorem Tryz.zFn:(prog.info? 107).map (fun i=>(i.zero.isSome,i.size,i.bytes))=some (true,5,24):=by kernel_rfl
theorem Tryz.zDL:((prog.info? 107).bind (·.zero)).map (·.cells.size)=some 5:=by kernel_rfl
set_option maxRecDepth 10000 in
theorem Tryz.Ji {ρ:Val} {w0:World} {K:Nat→Prop} {b2 base:Nat} {v:Value} {p1:List Pt} {p:Pt} (hv2:ρ.v 2=v) (h9:(ah 6).den ρ=p.aD) (h3:(aj 3).den ρ=p.a) (h4:(aW 4).den ρ=p.ln) (hf:(aK 5).den ρ=p.f) (hnx:(aK 8).den ρ=p.nx)
  (hb2:b2≤w0.heap.size) (hK: ∀b,v.ownBlock=some b→K b) (hl:p1.length≤100000):MJ prog ρ w0 K (xP b2 base v p1 (p1++ [p])) (Cy base):=by
 intro j w F n us bb o cap vals ty dG hcells hxs hnone hbase hF hsz hfa;have hb:n=base:=hbase (by show (1:Nat)≠0;decide);subst hb;obtain ⟨f5,f6⟩:=hfa;have dG:=uN rfl dG;have dG:us=v:=by rw [dG];exact hv2
 subst dG;obtain ⟨x0,_,rfl,e0,hxs⟩:=hxs;obtain ⟨x1,_,rfl,e1,hxs⟩:=hxs;obtain ⟨x2,_,rfl,e2,hxs⟩:=hxs;obtain ⟨x3,_,rfl,e3,hxs⟩:=hxs;obtain ⟨x4,_,rfl,e4,hxs⟩:=hxs;have hxs:_= []:=hxs;subst hxs;have e0:x0= .int .i64 p.aD:=by rw [show x0= .int .i64 (SE.den ρ (ah 6)) from e0,h9]
 have e1:x1= .int .u64 p.a:=by rw [show x1= .int .u64 (SE.den ρ (aj 3)) from e1,h3]
 have e2:x2= .int .u32 p.ln:=by rw [show x2= .int .u32 (SE.den ρ (aW 4)) from e2,h4]
 have e3:x3= .int .u16 p.f:=by rw [show x3= .int .u16 (SE.den ρ (aK 5)) from e3,hf]
 have e4:x4= .int .u16 p.nx:=by rw [show x4= .int .u16 (SE.den ρ (aK 8)) from e4,hnx]
 subst e0 e1 e2 e3 e4;have hinfo:=zFn;have KP:=zDL;cases hi:prog.info? 107 with
 | none=>rw [hi] at hinfo;cases hinfo
 | some i=>
 rw [hi] at hinfo KP;simp only [yaK,ycd,ycH] at hinfo;obtain ⟨i1,i2,i3⟩:=hinfo;obtain ⟨z,hz⟩:=Option.isSome_iff_exists.1 i1;simp only [ybC,hz,yaK,ycd] at KP;obtain ⟨u,w',h1,h2,h3,h4,h5⟩:=ydy (P:=prog) w b2 103 ty 107 i z 5 24 (by kernel_rfl) hi hz i2 i3 KP (by decide) us p1.length (qL p1) f5 ⟨bb,o,none⟩ 1 cap p.cells rfl
  (fun q y hy=>by rw [Dw.addr_add];exact hcells q y hy) (fun y hy=>by simp only [Pt.cells,yad,yag,yaB] at hy;rcases hy with rfl|rfl|rfl|rfl|rfl<;>rfl) (by unfold maxLen;omega) (by omega) (by omega)
 have hseg:qL p1++p.cells=qL (p1++ [p]):=by simp [qL]
 have hown:oM w' b2 u (p1++ [p]):=by
  unfold oM aA;rw [←hseg,yaX];exact h2
 have hub:=aA.lt hown;have Fq: ∀b,u.ownBlock=some b→us.ownBlock=some b∨w.heap.size≤b:=fun b hb=>by
  rcases h5 with h5|h5
  ·exact .inl (h5▸hb)
  ·rw [hb] at h5;cases h5;exact .inr (yab _)
 have hmv:Dw.Mv (fun b=>us.ownBlock=some b) w w':=⟨h3.os,h3.tape,h3.output,h3.size,fun b hb hn=>h3.block b hb (fun e=>hn e.symm)⟩;refine ⟨u,w',[u],fun b=>F b∨u.ownBlock=some b,h1,rfl,⟨⟨⟨0,0,0,some u⟩,?_,rfl⟩,aA.one hown,fun _ h=>(by cases h)⟩,⟨u,tV,hown,fun b hb=> .inr hb⟩,?_,hmv.mono fun b hb=>⟨f6 b hb,.inr (hK b hb)⟩⟩
 ·show jq j n _ n=_;unfold jq;rw [yaj ⟨yab _,by simp⟩];simp
 ·rintro b (hb|hb)
  ·exact ⟨yae (hF b hb) hmv.size,.inl hb⟩
  ·refine ⟨(hub b hb).2,?_⟩;rcases Fq b hb with h|h
   ·exact .inl (f6 b h)
   ·exact .inr h
structure Tryz.Bf (ρ:Val) (m k n id a fl na:Int) (s:Sg) (x nx:Bool) (sv ov:Value):Prop where
 d0:(ah 0).den ρ=m
 d1:(ah 1).den ρ=k
 d2:(ah 2).den ρ=n
 d3:(aj 3).den ρ=s.aP
 d4:(aW 4).den ρ=s.len
 d5:(aK 5).den ρ=id
 d6:(ah 6).den ρ=a
 d8:(aK 8).den ρ=fl
 d9:(ah 9).den ρ=na
 b0:ρ.b 0=s.wr
 b1:ρ.b 1=x
 b2:ρ.b 2=nx
 v1:ρ.v 1=sv
 v2:ρ.v 2=ov
theorem Tryz.S9 {m k n id a fl na:Int} {s:Sg} {x nx:Bool} {sv ov:Value} (hm:0≤m∧m<64000) (hk:0≤k∧k<64000) (hn:0≤n∧n<64000) (hid:0≤id∧id<65536) (ha:0≤a∧a<64000) (hf:0≤fl∧fl<65536) (hna:0≤na∧na<64000) (hs:s.ok):
  ∃ ρ,Bf ρ m k n id a fl na s x nx sv ov:=
 ⟨cB [m,k,n,s.aP,s.len,id,a,0,fl,na] [s.wr,x,nx] [undef,sv,ov],dK hm.1 (by show m<_;omega),dK hk.1 (by show k<_;omega),dK hn.1 (by show n<_;omega),fM hs.1 hs.2.1,lU hs.2.2.1 hs.2.2.2,jC hid.1 hid.2,dK ha.1 (by show a<_;omega),jC hf.1 hf.2,dK hna.1 (by show na<_;omega),rfl,rfl,rfl,rfl,rfl⟩
set_option maxRecDepth 100000 in
theorem Tryz.zpV {A:Nat→Prop} {w:World} {v:Value} {l:List Sg} {n id a:Int} {x:Bool} (h:aX A w v l) (hm:rY l=0) (hln:(l.length:Int)≤n) (hn:1≤n∧n≤32768) (ha:0≤a∧a<n) (hid:0≤id∧id<n):
    Calls prog 42 #[bQ a x,.int .i64 n,.int .i64 id,v] w fun e w'=>(∃u,e= .returned (.tuple #[u,.int .i64 0])∧oM w' w.heap.size u (jw n id a x l l.length))∧Below w.heap.size w w':=by
  have hmay:=fun w1 (hb:Below w.heap.size w w1)=>zxJ (h.below hb) (by omega);rw [hm] at hmay;obtain ⟨sa,cs,rfl,hok,hr⟩:=h;have hA:=(yah w.heap.size w).alloc (yab _);have i1: ¬id<0:=by omega
  have i2: ¬n≤id:=by omega
  have i3: ¬n<(l.length:Int):=by omega
  have i4: ¬a<0:=by omega
  have i5: ¬n≤a:=by omega
  have i6:1≤n:=hn.1;have i7:n≤32768:=hn.2;unfold bQ;go_enter func42,ntmps42;go_wp2_with (first
    | (go_at_call 54;refine (hmay _ (hA _)).mono ?_;rintro e w1 ⟨rfl,hb1⟩;have kp:=(Cl.new w _ _).below hb1 (by simp);have c0:=kp.cell 0 _ rfl;have c1:=kp.cell 1 _ rfl)
    | go_in)
  rename_i K hK;obtain ⟨R0,hR0⟩: ∃R0,R0=w.heap.size:=⟨_,rfl⟩;obtain ⟨W,hW⟩: ∃W,W=w1.alloc (Obj.cells #[.int .i64 a,.bool x] 35):=⟨_,rfl⟩;have hbW:Below R0 w W:=by rw [hW,hR0];exact ((hA _).trans (hb1.mono (by simp))).alloc (yaw (by simp) hb1.size) _
  have oW:Own W R0 [.int .i64 a,.bool x]:=by
    rw [hW,hR0];have e1:=hb1.size;simp only [iP] at e1;exact ((AA w _ _).kept (hb1.block w.heap.size (by simp))).kept (ycD w1 _ (h:=by omega))
  have hWs:R0+1≤W.heap.size:=by
    have e1:=hb1.size;simp only [iP] at e1;rw [hW,iP];omega
  rw [←hW];clear hW hmay hA c0 c1 kp hb1;have hrs:l= []∨ ∃R o,sa=some ⟨R,o,none⟩∧w.rangeAt R o (dV l):=hr.imp_right fun ⟨R,o,e,_,h⟩=>⟨R,o,e,h⟩;rw [←hR0];have tail: ∀ {a2:Act} {w2:World} {u:Value},a2.tmps.size=86→a2.defers= []→a2.tmps.getD 11 undef=u→oM w2 (R0+1) u (jw n id a x l l.length)→Below R0 w w2→K a2 w2:=fun {a2 w2 u} z1 z2 z3 z4 z5=>by
    refine hK _ _ ?_;clear hK;obtain ⟨tmps,eT⟩:=a2;have z2:eT= []:=z2;have z1:tmps.size=86:=z1;have z3:tmps.getD 11 undef=u:=z3;subst z2;go_wp2_with fail;refine yaP (v:= .tuple #[u,.int .i64 0]) ?_ rfl ⟨⟨u,rfl,aA.mono z4 (by omega)⟩,hR0▸z5⟩;rw [yay,yaL (by omega)] at z3;simp [results,results42,z1]
    try exact z3
  refine jy (c':= .loop (bJ prog [0,0,1,0,1,1,1,1,1,42])) (by kernel_rfl) ?_;refine xX (fun (y:Nat×Value) a' w'=>y.1≤l.length∧a'.tmps.size=86∧a'.defers= []∧([1,2,3,4,11,12].map fun t=>a'.tmps.getD t undef)= [.int .i64 n,.int .i64 id,.slice sa l.length cs,.pointer (some ⟨R0,0,none⟩),y.2,.int .i64 y.1]∧
      Own w' R0 [.int .i64 (dQ n a x y.1).1,.bool (dQ n a x y.1).2]∧oM w' (R0+1) y.2 (jw n id a x l y.1)∧Below R0 w w'∧R0+1≤w'.heap.size)
    (fun y=>l.length-y.1) (fun y a1 w1 hI=> ?_) (0,.slice none 0 0) _ _ ⟨yaE _,rfl,rfl,rfl,oW,aA.nil _ _ _ _,hbW,hWs⟩
  obtain ⟨k,vk⟩:=y;obtain ⟨hk,q0,qd,hsl,oP,hov,hbl,hsz⟩:=hI;simp only at hk hsl oP hov;simp only [yaJ,yaZ,yaM,yaN] at hsl;obtain ⟨s1,s2,s3,s4,s11,s12⟩:=hsl;have RV:=aA.one hov;have tq:=aA.lt hov;have hpk:=DU (x:=x) ha k;have acd:=DU (x:=x) ha (k+1);have hwk:=Ec k (by omega);have Bz: ∀b,(b=R0∨vk.ownBlock=some b)→b<w1.heap.size:=fun b hb=>by
    rcases hb with rfl|hb
    · omega
    · exact (tq b hb).2
  by_cases hkl:k<l.length
  · rcases hrs with h0|⟨R,p,rfl,hrs⟩
    · rw [h0] at hkl;simp at hkl
    have hRl:=rZ hrs (by intro h0;rw [h0] at hkl;simp at hkl);have aa1:=iR hrs (hbl.block R (by omega));have hxs:=Db aa1 k hkl;have hxo:=hok l[k] (yaS hkl);have hnR: ¬(R=R0∨vk.ownBlock=some R):=by
      rintro (e|e)
      · omega
      · have:=(tq R e).1;omega
    have hsx:l.getD k ⟨0,0,false⟩=l[k]:=by simp [yaO,hkl]
    have ha0:(iY n id a x l k).a=l[k].aP:=by simp only [iY,hsx]
    have hl0:(iY n id a x l k).ln=l[k].len:=by simp only [iY,hsx]
    have nY:(iY n id a x l k).nx=sj ((if l[k].wr then 2 else 0)+(if k+1<l.length then 1 else 0)) (dQ n a x k).2:=by simp only [iY,hsx]
    have hfb:0≤(iY n id a x l k).nx∧(iY n id a x l k).nx<65536:=by
      rw [nY];unfold sj
      repeat' split
      all_goals decide
    have hj1:aT [(R0,0),(R,p+3*k)] 1=some ⟨R0,0,0,none⟩:=rfl;have hj2:aT [(R0,0),(R,p+3*k)] 2=some ⟨R,p+3*k,0,none⟩:=rfl;have hG:(xP (R0+1) 4 vk (jw n id a x l k) (jw n id a x l k++ [iY n id a x l k])).G 1 (aT [(R0,0),(R,p+3*k)]) w1:=
      ⟨fun b=>vk.ownBlock=some b,fun b hb'=>⟨(tq b hb').2,fun hmn=>by
        have:=Ih hmn;simp only [yaJ,yaZ,yad,yag,yaB] at this;have h1:=(tq b hb').1;rcases this with e|e<;>omega⟩,hov,fun b hb'=>hb'⟩
    obtain ⟨ρ,D⟩:=S9 (m:=l.length) (k:=k) (n:=n) (id:=id) (a:=(dQ n a x k).1) (fl:=(iY n id a x l k).nx) (na:=(dQ n a x (k+1)).1) (s:=l[k]) (x:=(dQ n a x k).2) (nx:=(dQ n a x (k+1)).2) (sv:= .slice (some ⟨R,p,none⟩) l.length cs) (ov:=vk) (by omega) (by omega) (by omega) (by omega) (by omega) hfb (by omega) hxo;have dk1: ∀ {ρ:Val},Bf ρ l.length k n id (dQ n a x k).1 (iY n id a x l k).nx (dQ n a x (k+1)).1 l[k] (dQ n a x k).2 (dQ n a x (k+1)).2 (.slice (some ⟨R,p,none⟩) l.length cs) vk→(SE.bin .add .i64 (ah 1) (.lit 1)).den ρ=((k+1:Nat):Int):=fun D=>by rw [den_add,D.d1,aC,hwk]
    have lJ: ∀ {ρ:Val} {w0:World} {K:Nat→Prop} {g:bg},Bf ρ l.length k n id (dQ n a x k).1 (iY n id a x l k).nx (dQ n a x (k+1)).1 l[k] (dQ n a x k).2 (dQ n a x (k+1)).2 (.slice (some ⟨R,p,none⟩) l.length cs) vk→jM prog ρ w0 K g Cz:=fun D=>
      iQ (Dw.enters_of (by kernel_rfl)) (by rfl) [bQ (dQ n a x k).1 (dQ n a x k).2,.int .i64 1,.int .i64 n] (.tuple #[bQ (dQ n a x (k+1)).1 (dQ n a x (k+1)).2,.int .i64 0]) (fun j=>af (dO (af (ai D.d6) (af (aU D.b1) RL.nil))) (af (ai rfl) (af (ai D.d2) RL.nil))) (fun j=>kM (af (dO (af (ai D.d9) (af (aU D.b2) RL.nil))) (af (ai rfl) RL.nil))) (fun w F q hf=>IE hn hpk ⟨by decide,hn.1⟩ w)
    have slots: ∀ {ρ:Val},Bf ρ l.length k n id (dQ n a x k).1 (iY n id a x l k).nx (dQ n a x (k+1)).1 l[k] (dQ n a x k).2 (dQ n a x (k+1)).2 (.slice (some ⟨R,p,none⟩) l.length cs) vk→ ∀t∈Az,Dw.R ρ (aT [(R0,0),(R,p+3*k)]) t.2 (a1.tmps.getD t.1 undef):=fun {ρ} D t ht=>by
      simp only [Az,yad,yag,yaB] at ht;rcases ht with rfl|rfl|rfl|rfl|rfl|rfl
      · rw [s1];exact ai D.d2
      · rw [s2];exact ai D.d5
      · rw [s3];exact ⟨D.v1.symm,_,_,_,rfl,D.d0.symm,⟨R,p,_,k,rfl,hj2,rfl,D.d1,hkl,rfl⟩,trivial⟩
      · rw [s4];exact ⟨_,hj1,rfl⟩
      · rw [s11];exact gY D.v2 RV
      · rw [s12];exact ai D.d1
    have fin: ∀ {ρ:Val} {j2:J} {a2:Act} {w2:World},Bf ρ l.length k n id (dQ n a x k).1 (iY n id a x l k).nx (dQ n a x (k+1)).1 l[k] (dQ n a x k).2 (dQ n a x (k+1)).2 (.slice (some ⟨R,p,none⟩) l.length cs) vk→a2.tmps.size=86→a2.defers= []→Dw.Mv (fun b=>b=R0∨vk.ownBlock=some b) w1 w2→
        (xP (R0+1) 4 vk (jw n id a x l k) (jw n id a x l k++ [iY n id a x l k])).G 2 j2 w2→Own w2 R0 (AV.aI ρ (dZ j2) [.int .i64 (ah 9),.bool (.var 2)])→([1,2,3,4,11,12].map fun t=>a2.tmps.getD t undef)= [.int .i64 n,.int .i64 id,.slice (some ⟨R,p,none⟩) l.length cs,.pointer (some ⟨R0,0,none⟩),(AV.opq 4 none).val ρ (dZ j2),.int .i64 (k+1:Nat)]→
        ∃ y':Nat×Value,l.length-y'.1<l.length-k∧y'.1≤l.length∧a2.tmps.size=86∧a2.defers= []∧([1,2,3,4,11,12].map fun t=>a2.tmps.getD t undef)= [.int .i64 n,.int .i64 id,.slice (some ⟨R,p,none⟩) l.length cs,.pointer (some ⟨R0,0,none⟩),y'.2,.int .i64 y'.1]∧
          Own w2 R0 [.int .i64 (dQ n a x y'.1).1,.bool (dQ n a x y'.1).2]∧oM w2 (R0+1) y'.2 (jw n id a x l y'.1)∧Below R0 w w2∧R0+1≤w2.heap.size:=fun {ρ j2 a2 w2} D r1 r2 r3 r4 r5 r6=>by
      obtain ⟨F2,_,u,hu,hou,_⟩:=r4;rw [uj hu] at r6;simp only [AV.aI,AV.val,D.d9,bR,D.b2] at r5;refine ⟨(k+1,u),by simp only;omega,hkl,r1,r2,r6,r5,?_,⟨r3.os.trans hbl.os,r3.tape.trans hbl.tape,r3.output.trans hbl.output,yaw hbl.size r3.size,fun b hb'=>(r3.block b (by have:=hbl.size;omega) fun e=>by
        rcases e with e|e
        · omega
        · have:=(tq b e).1;omega).trans (hbl.block b hb')⟩,yaw hsz r3.size⟩
      rw [zwY];exact hou
    cases hwr:l[k].wr
    · by_cases hk1:k+1<l.length
      · refine ya3 (iF (ρ:=ρ) (K:=fun b=>b=R0∨vk.ownBlock=some b) (g:=xP (R0+1) 4 vk (jw n id a x l k) (jw n id a x l k++ [iY n id a x l k])) (bl:= [(R0,0),(R,p+3*k)]) mixed zwQ zzW Bz
          ⟨fe oP (af (ai D.d6) (af (aU D.b1) RL.nil)) (.inl rfl),oG hxs (by unfold Sg.cells;simp) (af (ai D.d3) (af (ai D.d4) (af (aU D.b0) RL.nil))) hnR,trivial⟩
          (vR (by simp;omega)) hG ⟨iQ (Dw.enters_of (by kernel_rfl)) (by rfl) [.int .u16 1,.bool (dQ n a x k).2,.bool false] (.int .u16 (sj 1 (dQ n a x k).2)) (fun j=>af (ai rfl) (af (aU D.b1) (af (aU rfl) RL.nil))) (fun j=>ai (D.d8.trans (by rw [nY,hwr];rw [yaj hk1];rfl))) (fun w F q hf=>Hw 1 (by decide) _ w),lJ D,trivial⟩ trivial ⟨Ji D.v2 D.d6 (D.d3.trans ha0.symm) (D.d4.trans hl0.symm) D.d5 (D.d8.trans rfl) (by omega) (fun b hb=> .inr hb) (by rw [Du];omega),trivial⟩ q0 qd (slots D)
          (aH.2 ⟨by rw [fF,D.d0,D.d1];exact yaG (by omega),aH.2 ⟨by rw [bR,D.b0];exact hwr,aH.2 ⟨by rw [fF,D.d0,dk1 D];exact yaG (by omega),aR.2 trivial⟩⟩⟩)) fun ex a2 w2 hh=> ?_
        obtain ⟨q,hq,hto,lf,hlf,rfl,hsz2,j2,fA,he⟩:=hh;unfold zsg at hq;simp only [yad,yag,yaB] at hq;subst hq;cases hlf;have hs2:=fV he.ret;refine fin D hsz2 fA he.mv he.eY ((he.rows.1 _ (he.sub _ _ hj1)).2 (.inr (.inl rfl)) rfl) ?_;rw [hs2];simp only [AV.aI,AV.val,D.v1,D.d2,D.d5,dk1 D,bE (he.sub _ _ hj1)]
      · refine ya3 (iF (ρ:=ρ) (K:=fun b=>b=R0∨vk.ownBlock=some b) (g:=xP (R0+1) 4 vk (jw n id a x l k) (jw n id a x l k++ [iY n id a x l k])) (bl:= [(R0,0),(R,p+3*k)]) mixed zwU zzY Bz
          ⟨fe oP (af (ai D.d6) (af (aU D.b1) RL.nil)) (.inl rfl),oG hxs (by unfold Sg.cells;simp) (af (ai D.d3) (af (ai D.d4) (af (aU D.b0) RL.nil))) hnR,trivial⟩
          (vR (by simp;omega)) hG ⟨iQ (Dw.enters_of (by kernel_rfl)) (by rfl) [.int .u16 0,.bool (dQ n a x k).2,.bool false] (.int .u16 (sj 0 (dQ n a x k).2)) (fun j=>af (ai rfl) (af (aU D.b1) (af (aU rfl) RL.nil))) (fun j=>ai (D.d8.trans (by rw [nY,hwr];rw [yai hk1];rfl))) (fun w F q hf=>Hw 0 (by decide) _ w),lJ D,trivial⟩ trivial ⟨Ji D.v2 D.d6 (D.d3.trans ha0.symm) (D.d4.trans hl0.symm) D.d5 (D.d8.trans rfl) (by omega) (fun b hb=> .inr hb) (by rw [Du];omega),trivial⟩ q0 qd (slots D)
          (aH.2 ⟨by rw [fF,D.d0,D.d1];exact yaG (by omega),aH.2 ⟨by rw [bR,D.b0];exact hwr,aH.2 ⟨by rw [fF,D.d0,dk1 D];exact yar (by omega),aR.2 trivial⟩⟩⟩)) fun ex a2 w2 hh=> ?_
        obtain ⟨q,hq,hto,lf,hlf,rfl,hsz2,j2,fA,he⟩:=hh;unfold zsk at hq;simp only [yad,yag,yaB] at hq;subst hq;cases hlf;have hs2:=fV he.ret;refine fin D hsz2 fA he.mv he.eY ((he.rows.1 _ (he.sub _ _ hj1)).2 (.inr (.inl rfl)) rfl) ?_;rw [hs2];simp only [AV.aI,AV.val,D.v1,D.d2,D.d5,dk1 D,bE (he.sub _ _ hj1)]
    · by_cases hk1:k+1<l.length
      · refine ya3 (iF (ρ:=ρ) (K:=fun b=>b=R0∨vk.ownBlock=some b) (g:=xP (R0+1) 4 vk (jw n id a x l k) (jw n id a x l k++ [iY n id a x l k])) (bl:= [(R0,0),(R,p+3*k)]) mixed zwO zzV Bz
          ⟨fe oP (af (ai D.d6) (af (aU D.b1) RL.nil)) (.inl rfl),oG hxs (by unfold Sg.cells;simp) (af (ai D.d3) (af (ai D.d4) (af (aU D.b0) RL.nil))) hnR,trivial⟩
          (vR (by simp;omega)) hG ⟨iQ (Dw.enters_of (by kernel_rfl)) (by rfl) [.int .u16 3,.bool (dQ n a x k).2,.bool false] (.int .u16 (sj 3 (dQ n a x k).2)) (fun j=>af (ai rfl) (af (aU D.b1) (af (aU rfl) RL.nil))) (fun j=>ai (D.d8.trans (by rw [nY,hwr];rw [yaj hk1];rfl))) (fun w F q hf=>Hw 3 (by decide) _ w),lJ D,trivial⟩ trivial ⟨Ji D.v2 D.d6 (D.d3.trans ha0.symm) (D.d4.trans hl0.symm) D.d5 (D.d8.trans rfl) (by omega) (fun b hb=> .inr hb) (by rw [Du];omega),trivial⟩ q0 qd (slots D)
          (aH.2 ⟨by rw [fF,D.d0,D.d1];exact yaG (by omega),aH.2 ⟨by rw [bR,D.b0];exact hwr,aH.2 ⟨by rw [fF,D.d0,dk1 D];exact yaG (by omega),aR.2 trivial⟩⟩⟩)) fun ex a2 w2 hh=> ?_
        obtain ⟨q,hq,hto,lf,hlf,rfl,hsz2,j2,fA,he⟩:=hh;unfold zse at hq;simp only [yad,yag,yaB] at hq;subst hq;cases hlf;have hs2:=fV he.ret;refine fin D hsz2 fA he.mv he.eY ((he.rows.1 _ (he.sub _ _ hj1)).2 (.inr (.inl rfl)) rfl) ?_;rw [hs2];simp only [AV.aI,AV.val,D.v1,D.d2,D.d5,dk1 D,bE (he.sub _ _ hj1)]
      · refine ya3 (iF (ρ:=ρ) (K:=fun b=>b=R0∨vk.ownBlock=some b) (g:=xP (R0+1) 4 vk (jw n id a x l k) (jw n id a x l k++ [iY n id a x l k])) (bl:= [(R0,0),(R,p+3*k)]) mixed zwS zzX Bz
          ⟨fe oP (af (ai D.d6) (af (aU D.b1) RL.nil)) (.inl rfl),oG hxs (by unfold Sg.cells;simp) (af (ai D.d3) (af (ai D.d4) (af (aU D.b0) RL.nil))) hnR,trivial⟩
          (vR (by simp;omega)) hG ⟨iQ (Dw.enters_of (by kernel_rfl)) (by rfl) [.int .u16 2,.bool (dQ n a x k).2,.bool false] (.int .u16 (sj 2 (dQ n a x k).2)) (fun j=>af (ai rfl) (af (aU D.b1) (af (aU rfl) RL.nil))) (fun j=>ai (D.d8.trans (by rw [nY,hwr];rw [yai hk1];rfl))) (fun w F q hf=>Hw 2 (by decide) _ w),lJ D,trivial⟩ trivial ⟨Ji D.v2 D.d6 (D.d3.trans ha0.symm) (D.d4.trans hl0.symm) D.d5 (D.d8.trans rfl) (by omega) (fun b hb=> .inr hb) (by rw [Du];omega),trivial⟩ q0 qd (slots D)
          (aH.2 ⟨by rw [fF,D.d0,D.d1];exact yaG (by omega),aH.2 ⟨by rw [bR,D.b0];exact hwr,aH.2 ⟨by rw [fF,D.d0,dk1 D];exact yar (by omega),aR.2 trivial⟩⟩⟩)) fun ex a2 w2 hh=> ?_
        obtain ⟨q,hq,hto,lf,hlf,rfl,hsz2,j2,fA,he⟩:=hh;unfold zsi at hq;simp only [yad,yag,yaB] at hq;subst hq;cases hlf;have hs2:=fV he.ret;refine fin D hsz2 fA he.mv he.eY ((he.rows.1 _ (he.sub _ _ hj1)).2 (.inr (.inl rfl)) rfl) ?_;rw [hs2];simp only [AV.aI,AV.val,D.v1,D.d2,D.d5,dk1 D,bE (he.sub _ _ hj1)]
  · have hkk:k=l.length:=by omega
    obtain ⟨ρ,D⟩:=S9 (m:=l.length) (k:=k) (n:=n) (id:=id) (a:=(dQ n a x k).1) (fl:=0) (na:=0) (s:=⟨0,1,false⟩) (x:=(dQ n a x k).2) (nx:=false) (sv:= .slice sa l.length cs) (ov:=vk) (by omega) (by omega) (by omega) (by omega) (by omega) (by omega) (by omega) Vt;have hj1:aT [(R0,0)] 1=some ⟨R0,0,0,none⟩:=rfl;refine ya3 (iF (ρ:=ρ) (K:=fun b=>b=R0) (g:=bg.none) (bl:= [(R0,0)]) mixed zzZ zDa (fun b hb=>Bz b (.inl hb)) ⟨fe oP (af (ai D.d6) (af (aU D.b1) RL.nil)) rfl,trivial⟩ (vR (by simp)) fo trivial trivial trivial q0 qd ?_ (aH.2 ⟨by rw [fF,D.d0,D.d1];exact yar (by omega),aR.2 trivial⟩)) fun ex a2 w2 hh=> ?_
    · intro t ht;simp only [GA,yad,yag,yaB] at ht;rcases ht with rfl|rfl|rfl|rfl|rfl|rfl
      · rw [s1];exact ai D.d2
      · rw [s2];exact ai D.d5
      · rw [s3];exact ⟨D.v1.symm,_,_,_,rfl,D.d0.symm,trivial⟩
      · rw [s4];exact ⟨_,hj1,rfl⟩
      · rw [s11];exact gY D.v2 RV
      · rw [s12];exact ai D.d1
    · obtain ⟨q,hq,hto,lf,hlf,rfl,hsz2,j2,fA,he⟩:=hh;unfold zwW at hq;simp only [yad,yag,yaB] at hq;subst hq;cases hlf;have hs2:=fV he.ret;have hmv:=he.mv;simp only [AV.aI,AV.val,D.v2,yaJ,yaZ,yaM,yaN] at hs2;have hb2:Below R0 w w2:=⟨hmv.os.trans hbl.os,hmv.tape.trans hbl.tape,hmv.output.trans hbl.output,yaw hbl.size hmv.size,fun b hb'=>(hmv.block b (by have:=hbl.size;omega) fun e=>by omega).trans (hbl.block b hb')⟩;show K a2 w2;exact tail hsz2 fA hs2 (hkk▸aA.kept hov fun b e=>hmv.block b (tq b e).2 fun e'=>by have:=(tq b e).1;omega) hb2
set_option maxRecDepth 100000 in
theorem Tryz.zt4 {A:Nat→Prop} {w:World} {v:Value} {l:List Sg} {n id a:Int} {x:Bool} (h:aX A w v l) (hl:l.length≤60000) (hm:rY l≠0∨n<l.length) (hn:1≤n∧n≤32768) (ha:0≤a∧a<n) (hid:0≤id∧id<n):
    Calls prog 42 #[bQ a x,.int .i64 n,.int .i64 id,v] w fun e w'=>e= .returned (.tuple #[.slice none 0 0,.int .i64 (if rY l=0 then 2 else rY l)])∧Below w.heap.size w w':=by
  have hmay:=fun w1 (hb:Below w.heap.size w w1)=>zxJ (h.below hb) hl;obtain ⟨sa,cs,rfl,hok,hr⟩:=h;have hA:=(yah w.heap.size w).alloc (yab _);obtain ⟨er,her⟩: ∃er,er=rY l:=⟨_,rfl⟩;rw [←her] at hm hmay ⊢;clear her;unfold bQ;by_cases h0:er=0
  · subst h0;rw [yaj rfl];have i3:n<(l.length:Int):=hm.resolve_left (fun h=>h rfl);clear hm;have i1: ¬id<0:=by omega
    have i2: ¬n≤id:=by omega
    have i4: ¬a<0:=by omega
    have i5: ¬n≤a:=by omega
    have i6:1≤n:=hn.1;have i7:n≤32768:=hn.2;go_enter func42,ntmps42;go_wp2_with (first
      | (go_at_call 54;refine (hmay _ (hA _)).mono ?_;rintro e w1 ⟨rfl,hb1⟩;have kp:=(Cl.new w _ _).below hb1 (by simp);have c0:=kp.cell 0 _ rfl;have c1:=kp.cell 1 _ rfl)
      | go_in)
    go_ret2;exact ⟨rfl,((hA _).trans (hb1.mono (by simp))).alloc (yaw (by simp) hb1.size) _⟩
  · clear hm;rw [yai h0];go_enter func42,ntmps42;go_wp2_with (first
      | (go_at_call 54;refine (hmay _ (hA _)).mono ?_;rintro e w1 ⟨rfl,hb1⟩)
      | go_in)
    go_ret2;exact ⟨rfl,(hA _).trans (hb1.mono (by simp))⟩
end Go.Proofs
namespace Go.Proofs
open Go.Dw Go.RowKit
def Tryz.zE2:AV:= .sx 1 (ah 4) 3 []
open Go.Maps Go.Sort
def Tryz.zS (n:Int) (l:List Sg):Prop:=rY l=0∧(l.length:Int)≤n
instance (n:Int) (l:List Tryz.Sg):Decidable (Tryz.zS n l):=by unfold Tryz.zS;infer_instance
def Tryz.Ef (n id a:Int) (x:Bool) (l:List Sg):List Pt:=if zS n l then jw n id a x l l.length else []
def Tryz.U9 (n:Int) (l:List Sg):Int:=if zS n l then 0 else if rY l=0 then 2 else rY l
theorem Tryz.zpW {A:Nat→Prop} {w:World} {v:Value} {l:List Sg} {n id a:Int} {x:Bool} (h:aX A w v l) (hl:l.length≤60000) (hn:1≤n∧n≤32768) (ha:0≤a∧a<n) (hid:0≤id∧id<n):
  Calls prog 42 #[bQ a x,.int .i64 n,.int .i64 id,v] w fun e w'=>(∃u,e= .returned (.tuple #[u,.int .i64 (U9 n l)])∧oM w' w.heap.size u (Ef n id a x l))∧Below w.heap.size w w':=by
 unfold U9 Ef;by_cases hk:zS n l
 ·rw [yaj hk,yaj hk];exact zpV h hk.1 hk.2 hn ha hid
 ·rw [yai hk,yai hk];refine yaq (zt4 h hl (by unfold zS at hk;omega) hn ha hid) fun e w' hh=> ?_;obtain ⟨rfl,hb⟩:=hh;exact ⟨⟨_,rfl,aA.nil _ _ _ _⟩,hb⟩
theorem Tryz.zDb {n id a:Int} {x:Bool} {l:List Sg} (hok: ∀y∈l,y.ok) (hn:n≤32768) (ha:0≤a∧a<n) (hid:0≤id∧id<n): ∀p∈jw n id a x l l.length,p.ok∧0≤p.aD∧p.aD<n:=fun p hp=>by
 obtain ⟨k,hk,rfl⟩:=ya2.1 hp;have hk:k<l.length:=List.mem_range.1 hk;have h1:=hok l[k] (yaS hk);have e1:l.getD k ⟨0,0,false⟩=l[k]:=by simp [yaO,hk]
 refine ⟨⟨?_,?_,?_,?_⟩,DU ha k⟩
 ·simp only [iY,e1];exact ⟨h1.1,h1.2.1⟩
 ·simp only [iY,e1];exact ⟨h1.2.2.1,h1.2.2.2⟩
 ·show 0≤id∧id<65536;omega
 ·simp only [iY,sj]
  repeat' split
  all_goals decide
theorem Tryz.zwZ {n id a:Int} {x:Bool} {l:List Sg} (hok: ∀y∈l,y.ok) (hn:n≤32768) (ha:0≤a∧a<n) (hid:0≤id∧id<n): ∀p∈Ef n id a x l,p.ok∧0≤p.aD∧p.aD<n:=fun p hp=>by
 unfold Ef at hp;split at hp
 ·exact zDb hok hn ha hid p hp
 ·cases hp
end Go.Proofs
namespace Go.Proofs
open Go.Dw Go.RowKit
theorem Tryz.zww {h:Int} {tk:List (Int×bN)} {e:Int×bN} (he:e∈iB h tk):e∈tk:=(zX h tk).subset he
theorem Tryz.jN.set {A A':Nat→Prop} {w:World} {M:Nat} {n:Int} {tk:List (Int×bN)} (h:jN A w M n tk) (hA: ∀b,b<w.heap.size→A' b→A b):jN A' w M n tk:=by
 obtain ⟨arr,clock,h1,h2,h3⟩:=h.map;refine ⟨⟨arr,clock,h1,h2,fun k=>⟨(h3 k).1,fun t ht=> ?_⟩⟩,h.keys,h.dH⟩;obtain ⟨v,h4,h5⟩:=(h3 k).2 t ht;exact ⟨v,h4,h5.set hA⟩
theorem Tryz.PW.set {A A':Nat→Prop} {w:World} {S P L Bs B M N:Nat} {r:Rg} {s:PS} {g:Nat→Int} (h:PW A w S P L Bs B M N r s g) (hA: ∀b,b<w.heap.size→A' b→A b) (aS:A' S) (aM:A' M) (aB:A' B) (hl: ∀b,A' b→b<w.heap.size):PW A' w S P L Bs B M N r s g:=by
 obtain ⟨sv,h1,h2⟩:=h.obj;exact ⟨⟨sv,h1,h2.set hA⟩,h.tk.set hA,h.ne,aS,aM,h.rg,h.pb,h.mem,h.hN,h.sd,h.md,aB,hl,h.fit⟩
open Go.Maps Go.Sort
structure Tryz.Ob (σ:Type) where
 L:σ→(Nat→Prop)→World→Prop
 T:Nat→Prop
 kept: ∀ {s F w w'},L s F w→(∀b,F b→w'.heap[b]? =w.heap[b]?)→w.heap.size≤w'.heap.size→L s F w'
 leans: ∀ {s F w},L s F w→ ∀b,T b→F b
section
variable {σ:Type} {O:Tryz.Ob σ} {X:Nat→Prop} {bX:Nat} {ρ:Val} {w0:World} {K:Nat→Prop} {b2:Nat} {sk:Nat→σ} {rows:Nat→List Tryz.oU} {f:FuncId} {args:List AV} {res:AV} {k k':Nat}
end
section
variable {S P L Bs B M N:Nat} {r:Tryz.Rg} {s s':Tryz.PS×(Nat→Int)} {F F':Nat→Prop} {w w':World}
end
section
variable {X:Nat→Prop} {bX:Nat} {ρ:Val} {w0:World} {K:Nat→Prop} {S P L Bs B M N:Nat} {r:Tryz.Rg} {b2:Nat} {sk:Nat→Tryz.PS×(Nat→Int)} {rows:Nat→List Tryz.oU} {f:FuncId} {args:List AV} {res:AV} {k k':Nat}
end
end Go.Proofs
namespace Go.Proofs
open Go.Dw Go.RowKit
theorem Tryz.zny (x:Int): ∀tk:List (Int×bN),(iB x tk).length≤tk.length∧tk.length≤(iB x tk).length+1
 | [] => ⟨yab _,yaE _⟩
 | e::r=>by
  unfold iB;have:=zny x r;split
  ·simp
  ·simp only [ya6];omega
def Tryz.Va:List AV:= [.int .i64 (.var 8),.int .i64 (.var 9),.int .u32 (aW 10),.int .u64 (aj 11),.int .u32 (aW 12),.int .u16 (aK 13),.int .u16 (aK 14),.bool (.var 7),zE2]
open Go.Maps Go.Sort
section
variable {ρ:Val} {w0:World} {K:Nat→Prop} {X:Nat→Prop} {bX:Nat} {S P L Bs B M N:Nat} {r:Tryz.Rg} {b2:Nat} {sk:Nat→Tryz.PS×(Nat→Int)} {rows:Nat→List Tryz.oU} {k k' q:Nat}
end
end Go.Proofs
namespace Go.Proofs
open Go.Dw
def Tryz.zr4:List aG:= []
def Tryz.zwu:List Sh:= [.ro Va]
def Tryz.Hq:List (Nat×AV):= [(0,.sx 4 (ah 7) 9 [(ah 6,1)]),(3,.int .i64 (ah 6))]
def Tryz.znv:List dD:= []
def Tryz.znw:List dX:= []
def Tryz.zwv:Option AV:=none
def Tryz.zC0:List (SB×Bool):= [(.cmp .lss (ah 6) (ah 7),true)]
def Tryz.Ug:List gu:= [
 ⟨.ret,[2],none,⟨.ay [.bool (.lit false)],[],[],0,[]⟩⟩,
 ⟨.normal,[0,3],none,⟨.ay [.sx 4 ((ah 7)) 9 [((ah 6),1)],.int .i64 (.bin .add .i64 (ah 6) (.lit 1))],[],[],0,[]⟩⟩,
 ⟨(.exit 0),[0],none,⟨.ay [.sx 4 ((ah 7)) 9 [((ah 6),1)]],[],[],0,[]⟩⟩]
def Tryz.Uf:List (List (SB×Bool)×Nat):= [
 ([((.cmp .leq (ah 6) (.lit 60)),true),((.cmp .gtr (ah 4) (.lit 100)),true)],0),
 ([((.cmp .leq (ah 6) (.lit 60)),true),((.cmp .gtr (ah 4) (.lit 100)),false)],1),
 ([((.cmp .leq (ah 6) (.lit 60)),false)],2)]
theorem Tryz.zCZ:(fG prog (bB zr4) (fK znv) (fJ znw) 100000 (.code (bJ prog [0,0,1,0,1,22]) [0,0,1,0,1,22] 24 (bO 24 Hq zwv) (bn 0 zwu) (fO Ug 0))).ways zC0=some Uf:=by kernel_rfl
theorem Tryz.zEU:(bD zwu&&zag zr4&&fZ znv&&gq znw&&fP Hq&&gL Ug&&fI 24 Hq&&Nat.ble 24 bM&&gK zwv)=true:=by kernel_rfl
def Tryz.zr3:List aG:= []
def Tryz.zws:List Sh:= []
def Tryz.Ho:List (Nat×AV):= [(0,.sx 4 (ah 7) 9 []),(3,.int .i64 (ah 6))]
def Tryz.znt:List dD:= []
def Tryz.znu:List dX:= []
def Tryz.zwt:Option AV:=none
def Tryz.zCY:List (SB×Bool):= [(.cmp .lss (ah 6) (ah 7),false)]
def Tryz.Ue:List gu:= [
 ⟨(.exit 0),[0],none,⟨.ay [.sx 4 ((ah 7)) 9 []],[],[],0,[]⟩⟩]
def Tryz.Ud:List (List (SB×Bool)×Nat):= [
 ([], 0)]
theorem Tryz.zCX:(fG prog (bB zr3) (fK znt) (fJ znu) 100000 (.code (bJ prog [0,0,1,0,1,22]) [0,0,1,0,1,22] 24 (bO 24 Ho zwt) (bn 0 zws) (fO Ue 0))).ways zCY=some Ud:=by kernel_rfl
theorem Tryz.zET:(bD zws&&zag zr3&&fZ znt&&gq znu&&fP Ho&&gL Ue&&fI 24 Ho&&Nat.ble 24 bM&&gK zwt)=true:=by kernel_rfl
def Tryz.zr2:List aG:= []
def Tryz.zwo:List Sh:= []
def Tryz.Hl:List (Nat×AV):= [(0,.sx 4 (ah 7) 9 [])]
def Tryz.znn:List dD:= []
def Tryz.zno:List dX:= []
def Tryz.zwp:Option AV:=none
def Tryz.zCW:List (SB×Bool):= []
def Tryz.U7:List gu:= [
 ⟨.ret,[2],none,⟨.ay [.bool (.cmp .leq (ah 7) (.lit 60))],[],[],0,[]⟩⟩]
def Tryz.U6:List (List (SB×Bool)×Nat):= [
 ([], 0)]
theorem Tryz.zCV:(fG prog (bB zr2) (fK znn) (fJ zno) 100000 (.code (bJ prog [1,1,22]) [1,1,22] 24 (bO 24 Hl zwp) (bn 0 zwo) (fO U7 0))).ways zCW=some U6:=by kernel_rfl
theorem Tryz.zES:(bD zwo&&zag zr2&&fZ znn&&gq zno&&fP Hl&&gL U7&&fI 24 Hl&&Nat.ble 24 bM&&gK zwp)=true:=by kernel_rfl
open Go.RowKit Go.Maps Go.Sort
structure Tryz.Pc where
 k:Int
 n:Int
 v:Int
 a:Int
 l:Int
 f:Int
 x:Int
 gd:Bool
 sv:Value
 sl:List Sg
def Tryz.Pc.cells (c:Pc):List Value:= [.int .i64 c.k,.int .i64 c.n,.int .u32 c.v,.int .u64 c.a,.int .u32 c.l,.int .u16 c.f,.int .u16 c.x,.bool c.gd,c.sv]
structure Tryz.Pc.ok (c:Pc) (w:World):Prop where
 k: -9223372036854775808≤c.k∧c.k<9223372036854775808
 n: -9223372036854775808≤c.n∧c.n<9223372036854775808
 v:0≤c.v∧c.v<4294967296
 a:0≤c.a∧c.a<18446744073709551616
 l:0≤c.l∧c.l<4294967296
 f:0≤c.f∧c.f<65536
 x:0≤c.x∧c.x<65536
 sv:aX (fun _=>False) w c.sv c.sl
 sn:c.sl.length<4000000000000000
structure Tryz.qU (w:World) (av:Value) (acts:List Pc):Prop where
 val: ∃aa c,av= .slice aa acts.length c∧(acts= []∨ ∃R o,aa=some ⟨R,o,none⟩∧ ∀i,(hi:i<acts.length)→w.rangeAt R (o+9*i) acts[i].cells)
 ok: ∀x∈acts,x.ok w
 len:acts.length<4000000000000000
theorem Tryz.qU.below {w w':World} {av:Value} {acts:List Pc} (h:qU w av acts) (hb:Below w.heap.size w w'):qU w' av acts:=by
 obtain ⟨aa,c,e,hr⟩:=h.val;refine ⟨⟨aa,c,e,?_⟩,fun x hx=> ?_,h.len⟩
 ·rcases hr with hr|⟨R,o,e1,hr⟩
  ·exact .inl hr
  ·exact .inr ⟨R,o,e1,fun i hi=>iR (hr i hi) (hb.block R (World.block_lt_of_cell? w _ (hr i hi 0 _ rfl)))⟩
 ·have o:=h.ok x hx;exact ⟨o.k,o.n,o.v,o.a,o.l,o.f,o.x,o.sv.kept (fun k hk _=>hb.block k hk),o.sn⟩
def Tryz.oN (i n:Int) (c:Pc) (av:Value):Val:=⟨fun m=>match m with|4=>c.sl.length|6=>i|7=>n|8=>c.k|9=>c.n|10=>c.v|11=>c.a|12=>c.l|13=>c.f|14=>c.x|_=>0,fun m=>match m with|7=>c.gd|_=>false,fun m=>match m with|1=>c.sv|4=>av|_=>undef⟩
theorem Tryz.zEV {ρ:Val} {j:J} {w:World} {c:Pc} (h:c.ok w) (i4:ρ.i 4=c.sl.length) (i8:ρ.i 8=c.k) (i9:ρ.i 9=c.n) (i10:ρ.i 10=c.v) (i11:ρ.i 11=c.a) (i12:ρ.i 12=c.l) (i13:ρ.i 13=c.f) (i14:ρ.i 14=c.x) (b7:ρ.b 7=c.gd) (v1:ρ.v 1=c.sv):RL ρ j Va c.cells:=by
 obtain ⟨sa,cc,e,_⟩:=h.sv;have:=h.sn;have d4:(ah 4).den ρ=c.sl.length:=(dK (by rw [i4];omega) (by rw [i4];omega)).trans i4;exact af (ai i8) (af (ai i9) (af (ai ((lU (by rw [i10];exact h.v.1) (by rw [i10];exact h.v.2)).trans i10)) (af (ai ((fM (by rw [i11];exact h.a.1) (by rw [i11];exact h.a.2)).trans i11)) (af (ai ((lU (by rw [i12];exact h.l.1) (by rw [i12];exact h.l.2)).trans i12))
  (af (ai ((jC (by rw [i13];exact h.f.1) (by rw [i13];exact h.f.2)).trans i13)) (af (ai ((jC (by rw [i14];exact h.x.1) (by rw [i14];exact h.x.2)).trans i14)) (af (aU b7) (af ⟨v1.symm,sa,_,cc,e,d4.symm,trivial⟩ RL.nil))))))))
end Go.Proofs
namespace Go.Proofs
open Go.Dw Go.RowKit
def Tryz.yM:Pc:=⟨0,0,0,0,0,0,0,false,.slice none 0 0,[]⟩
set_option maxRecDepth 100000 in
theorem Tryz.YB {w:World} {av:Value} {acts:List Pc} (h:qU w av acts):
  Calls prog 22 #[av] w fun e w'=> ∃b,e= .returned (.bool b)∧(b=true→acts.length≤60∧ ∀x∈acts,x.sl.length≤100)∧Below w.heap.size w w':=by
 obtain ⟨aa,c,rfl,hr⟩:=h.val;have hl:=h.len;have hok:=h.ok;go_enter func22,ntmps22;go_wp2;refine jy (c':= .loop (bJ prog [0,0,1,0,1,22])) (by kernel_rfl) ?_;have post: ∀ {a':Act} {w':World} {b:Bool},a'.defers= []→a'.tmps.getD 2 undef= .bool b→(b=true→acts.length≤60∧ ∀x∈acts,x.sl.length≤100)→Below w.heap.size w w'→
   bodyPost prog f22 (fun e w'=> ∃b,e= .returned (.bool b)∧(b=true→acts.length≤60∧ ∀x∈acts,x.sl.length≤100)∧RowKit.Below w.heap.size w w') .ret a' w':=fun {a' w' b} h1 h2 h3 h4=>
  vY (fn:=f22) (Post:=fun e w'=> ∃b,e= .returned (.bool b)∧(b=true→acts.length≤60∧ ∀x∈acts,x.sl.length≤100)∧RowKit.Below w.heap.size w w') h1 rfl h2 ⟨b,rfl,h3,h4⟩
 have tail: ∀ {a':Act} {w':World} {Q:Exit→Act→World→Prop},a'.tmps.size=24→a'.defers= []→a'.tmps.getD 0 undef= .slice aa acts.length c→(acts.length≤60→ ∀x∈acts,x.sl.length≤100)→Below w.heap.size w w'→
   (∀ a2 w2,bodyPost prog f22 (fun e w'=> ∃b,e= .returned (.bool b)∧(b=true→acts.length≤60∧ ∀x∈acts,x.sl.length≤100)∧RowKit.Below w.heap.size w w') .ret a2 w2→Q .ret a2 w2)→(bJ prog [1,1,22]).wp prog Q a' w':=fun {a' w' Q} h1 h2 h3 h4 h5 h6=>by
  have d7:(ah 7).den (oN 0 acts.length yM (.slice aa acts.length c))=acts.length:=dK (by show (0:Int)≤acts.length;omega) (by show (acts.length:Int)<_;omega);have v4:(oN 0 acts.length yM (.slice aa acts.length c)).v 4= .slice aa acts.length c:=rfl;generalize oN 0 acts.length yM (.slice aa acts.length c)=ρ at d7 v4;refine ya3 (iF (ρ:=ρ) (K:=fun _=>False) (g:=bg.none) (bl:= []) mixed zCV zES (fun b h=>h.elim) trivial trivial fo trivial trivial trivial h1 h2 ?_ (aR.2 trivial)) fun ex a2 w2 hh=> ?_
  ·intro t ht;simp only [Hl,yad,yag,yaB] at ht;subst ht;rw [h3];exact ⟨v4.symm,_,_,_,rfl,d7.symm,trivial⟩
  ·obtain ⟨q,hq,hto,lf,hlf,rfl,hsz2,j2,fA,he⟩:=hh;have hb3:=gF he (fun _ h=>h);unfold U6 at hq;simp only [yad,yag,yaB] at hq;subst hq;cases hlf;have hs2:=fV he.ret;simp only [AV.aI,AV.val,wF,d7,aC,yaJ,yaZ,yaM,yaN] at hs2;refine h6 _ _ (post fA hs2 (fun hb=> ?_) (h5.trans (hb3.mono h5.size)));have hb:=ybQ hb;exact ⟨by omega,h4 (by omega)⟩
 refine xX (fun (i:Nat) a' w'=>i≤acts.length∧a'.tmps.size=24∧a'.defers= []∧a'.tmps.getD 0 undef= .slice aa acts.length c∧a'.tmps.getD 3 undef= .int .i64 i∧(∀q,(hq:q<acts.length)→q<i→acts[q].sl.length≤100)∧Below w.heap.size w w')
  (fun i=>acts.length-i) (fun i a1 w1 hI=> ?_) 0 _ _ ⟨yaE _,rfl,rfl,rfl,rfl,fun q _ h=>by omega,yah _ _⟩
 obtain ⟨hil,q0,qd,p0,p3,hbd,hb⟩:=hI;have hwi:=Ec i (by omega);by_cases hi:i<acts.length
 ·rcases hr with h0|⟨R,o,rfl,hr⟩
  ·rw [h0] at hi;simp at hi
  have hx:=iR (hr i hi) (hb.block R (World.block_lt_of_cell? w _ (hr i hi 0 _ rfl)));have hxo:=hok acts[i] (yaS hi);have hEq: ∃C,acts[i]=C:=⟨_,rfl⟩;obtain ⟨C,hC⟩:=hEq;rw [hC] at hx hxo;have hact:=fun j=>zEV (ρ:=oN i acts.length C (.slice (some ⟨R,o,none⟩) acts.length c)) (j:=j) hxo rfl rfl rfl rfl rfl rfl rfl rfl rfl rfl;have d4:(ah 4).den (oN i acts.length C (.slice (some ⟨R,o,none⟩) acts.length c))=C.sl.length:=dK (by show (0:Int)≤C.sl.length;omega) (by have:=hxo.sn;show (C.sl.length:Int)<_;omega);have d6:(ah 6).den (oN i acts.length C (.slice (some ⟨R,o,none⟩) acts.length c))=i:=dK (by show (0:Int)≤i;omega) (by show (i:Int)<_;omega);have d7:(ah 7).den (oN i acts.length C (.slice (some ⟨R,o,none⟩) acts.length c))=acts.length:=dK (by show (0:Int)≤acts.length;omega) (by show (acts.length:Int)<_;omega);have v4:(oN i acts.length C (.slice (some ⟨R,o,none⟩) acts.length c)).v 4= .slice (some ⟨R,o,none⟩) acts.length c:=rfl;generalize oN i acts.length C (.slice (some ⟨R,o,none⟩) acts.length c)=ρ at hact d4 d6 d7 v4;have hj1:aT [(R,o+9*i)] 1=some ⟨R,o+9*i,0,none⟩:=rfl;refine ya3 (iF (ρ:=ρ) (K:=fun _=>False) (g:=bg.none) (bl:= [(R,o+9*i)]) mixed zCZ zEU (fun b h=>h.elim) ⟨oG hx (by simp [Pc.cells]) (hact _) (fun h=>h),trivial⟩ ⟨fun h=>(by cases h),trivial⟩ fo trivial trivial trivial q0 qd ?_ (aH.2 ⟨by rw [fF,d6,d7];simp only [yat];omega,aR.2 trivial⟩)) fun ex a2 w2 hh=> ?_
  ·intro t ht;simp only [Hq,yad,yag,yaB] at ht;rcases ht with rfl|rfl
   ·rw [p0];exact ⟨v4.symm,_,_,_,rfl,d7.symm,⟨R,o,_,i,rfl,hj1,rfl,d6,hi,rfl⟩,trivial⟩
   ·rw [p3];exact ai d6
  ·obtain ⟨q,hq,hto,lf,hlf,rfl,hsz2,j2,fA,he⟩:=hh;have hb3:=gF he (fun _ h=>h);unfold Uf at hq;simp only [yad,yag,yaB] at hq;rcases hq with rfl|rfl|rfl
   all_goals
    simp only [aH,aR,wF,gZ,d4,d6,aC,yat,yas,yaN] at hto;cases hlf;have hs2:=fV he.ret;simp only [AV.aI,AV.val,v4,d6,den_add,aC,hwi,yaJ,yaZ,yaM,yaN] at hs2
   ·exact post fA hs2 (fun hb=>by cases hb) (hb.trans (hb3.mono hb.size))
   ·refine ⟨i+1,by omega,hi,hsz2,fA,hs2.1,hs2.2,fun q hq hlt=> ?_,hb.trans (hb3.mono hb.size)⟩;by_cases hqi:q=i
    ·subst hqi;rw [hC];omega
    ·exact hbd q hq (by omega)
   ·simp only [yZ,Exit.inBlock,Exit.then,yaj];rename_i K hK;exact hK _ _ (jy (c':=bJ prog [1,1,22]) (by kernel_rfl) (tail hsz2 fA hs2 (fun hh=>by omega) (hb.trans (hb3.mono hb.size)) fun _ _ h=>h))
 ·have hii:i=acts.length:=by omega
  subst hii;have d6:(ah 6).den (oN acts.length acts.length yM (.slice aa acts.length c))=acts.length:=dK (by show (0:Int)≤acts.length;omega) (by show (acts.length:Int)<_;omega);have d7:(ah 7).den (oN acts.length acts.length yM (.slice aa acts.length c))=acts.length:=dK (by show (0:Int)≤acts.length;omega) (by show (acts.length:Int)<_;omega);have v4:(oN acts.length acts.length yM (.slice aa acts.length c)).v 4= .slice aa acts.length c:=rfl;generalize oN acts.length acts.length yM (.slice aa acts.length c)=ρ at d6 d7 v4;refine ya3 (iF (ρ:=ρ) (K:=fun _=>False) (g:=bg.none) (bl:= []) mixed zCX zET (fun b h=>h.elim) trivial trivial fo trivial trivial trivial q0 qd ?_ (aH.2 ⟨by rw [fF,d6,d7];simp,aR.2 trivial⟩)) fun ex a2 w2 hh=> ?_
  ·intro t ht;simp only [Ho,yad,yag,yaB] at ht;rcases ht with rfl|rfl
   ·rw [p0];exact ⟨v4.symm,_,_,_,rfl,d7.symm,trivial⟩
   ·rw [p3];exact ai d6
  ·obtain ⟨q,hq,hto,lf,hlf,rfl,hsz2,j2,fA,he⟩:=hh;have hb3:=gF he (fun _ h=>h);unfold Ud at hq;simp only [yad,yag,yaB] at hq;subst hq;cases hlf;have hs2:=fV he.ret;simp only [AV.aI,AV.val,v4,yaJ,yaZ,yaM,yaN] at hs2;simp only [yZ,Exit.inBlock,Exit.then,yaj];rename_i K hK;refine hK _ _ (jy (c':=bJ prog [1,1,22]) (by kernel_rfl) (tail hsz2 fA hs2 (fun _ x hx=> ?_) (hb.trans (hb3.mono hb.size)) fun _ _ h=>h));obtain ⟨q,hq,rfl⟩:=ycg.1 hx;exact hbd q hq hq
open Go.Maps Go.Sort
structure Tryz.PmV where
 r:Rg
 c:Pc
 acs:Int
 i:Int
 steps:Int
 na:Int
 nw:Bool
 h1:Int
 h2:Int
 pick:Int
 code:Int
 err:Int
 x:Int
 y:Int
 z:Int
 cnt:Int
 na2:Int
 nw2:Bool
 abL:Bool
 abM:Bool
 off:Bool
 ret:Bool
 busy:Bool
 mem:Value
 srv:Value
 acts:Value
section
variable {ρ:Val} {m:Tryz.PmV}
end
section
variable {W0:World} {X9 JH S P L Bs B M:Nat} {r:Tryz.Rg} {av:Value} {acts:List Tryz.Pc} {s:Tryz.PS×(Nat→Int)} {i steps:Nat} {na:Int} {nw:Bool} {a:Act} {w:World}
end
theorem Tryz.Y8 (N:Nat) (r:Rg) (s:PS) (g:Nat→Int): ∃x y z,(eO N r s g).1=JK x y z:=by
 unfold eO iA;split
 ·exact ⟨_,_,_,rfl⟩
 ·split
  ·exact ⟨_,_,_,rfl⟩
  ·split<;>first|exact ⟨_,_,_,rfl⟩|(simp only;split<;>exact ⟨_,_,_,rfl⟩)
end Go.Proofs
namespace Go.Proofs
open Go.Dw Go.RowKit Go.Maps Go.Sort Go.Deep
set_option maxRecDepth 100000 in
theorem Tryz.zyi {A:Nat→Prop} {w:World} {S P L Bs B M N:Nat} {r:Rg} {s:PS} {g:Nat→Int} (h:PW A w S P L Bs B M N r s g) (sW:s.ph=0) (hbr:s.br=false) (hdn:s.dn=true) (hln:s.sg.length≤1000000):
    Calls prog 14 #[.pointer (some ⟨S,0,none⟩)] w fun e w'=> ∃u,e= .returned (.tuple #[.agg #[.int .i64 s.op,.bool s.nn,.int .i64 s.hd,u,.int .u32 s.wr,.bool s.it],.bool true])∧bG w' w.heap.size u s.sg∧Below w.heap.size w w':=by
  have hm:=fun w1 (hb:Below w.heap.size w w1)=>Ag (h.below hb);have hbz:=fun w1 (hb:Below w.heap.size w w1)=>H8 (h.below hb);rw [sW] at hbz;obtain ⟨sv,ho,hsv⟩:=h.obj;obtain ⟨sa,c,rfl,hok,hr⟩:=hsv;have hcl:=fun w1 (hb:Below w.heap.size w w1)=>GD (show aX A w1 _ s.sg from aX.below ⟨sa,c,rfl,hok,hr⟩ hb) hln;have c16:=jK ho (i:=16) rfl;have c17:=jK ho (i:=17) rfl;have c18:=jK ho (i:=18) rfl;have c19:=jK ho (i:=19) rfl;have c20:=jK ho (i:=20) rfl;have c21:=jK ho (i:=21) rfl;have kR:=jK ho (i:=22) rfl;rw [hdn] at kR;have xh:=h.zM;have hA:=(yah w.heap.size w).alloc (yab _);clear ho;go_enter func14,ntmps14;go_wp2_with (first
    | (go_at_call 56;refine (hm _ (hA _)).mono ?_;rintro e w' ⟨rfl,hw⟩;have hw:=hw.symm;subst hw)
    | (go_at_call 26;refine (hbz _ (hA _)).mono ?_;rintro e w' ⟨rfl,hw⟩;have hw:=hw.symm;subst hw)
    | (go_at_call 57;refine (hcl _ ((hA _).alloc (by simp) _)).mono ?_;rintro e w2 ⟨u,rfl,hu,hb2⟩;have ka:=((Cl.new w _ _).alloc _).below hb2 (by simp<;>omega);have kb:=(Cl.new (w.alloc _) _ _).below hb2 (by simp<;>omega);rw [iP] at kb;obtain ⟨fU,c2,hue,_⟩:=hu.xQ hok (A:=fun _=>False) fun _ _ h=>h;subst hue;have x0:=ka.cell 0 _ rfl;have x1:=ka.cell 1 _ rfl;have x2:=ka.cell 2 _ rfl;have x3:=ka.cell 3 _ rfl;have x4:=ka.cell 4 _ rfl;have x5:=ka.cell 5 _ rfl;have y0:=kb.cell 0 _ rfl;have y1:=kb.cell 1 _ rfl;have y2:=kb.cell 2 _ rfl;have y3:=kb.cell 3 _ rfl;have y4:=kb.cell 4 _ rfl;have y5:=kb.cell 5 _ rfl;have f0:=ka.free 0;have f1:=ka.free 1;have f2:=ka.free 2;have f3:=ka.free 3;have f4:=ka.free 4;have f5:=ka.free 5;have g3:=kb.free 3)
    | go_in)
  have hs2:=hb2.size;simp only [iP] at hs2;have u7:Below w.heap.size w w2:=(((yah w.heap.size w).alloc (yab _) _).alloc (by simp) _).trans (hb2.mono (by simp only [iP];omega));have hlt:=hu.lt;simp only [iP] at hlt;have hq:=(Mv.refl (· =w.heap.size+1) w2).setCell (w.heap.size+1) 3 (.slice fU s.sg.length c2) (.inl rfl);have Ll:=ka.below (hq.below (base:=w.heap.size+1) (fun k hk=>by omega) (by omega)) (by omega);have k0:=(((((Ll.set 0 (.int .i64 s.op) (show 0<6 by decide)).set 1 (.bool s.nn) (show 1<6 by decide)).set 2 (.int .i64 s.hd) (show 2<6 by decide)).set 3 (.slice fU s.sg.length c2) (show 3<6 by decide)).set 4 (.int .u32 s.wr) (show 4<6 by decide)).set 5 (.bool s.it) (show 5<6 by decide);have hmv:=(((((((Mv.refl (fun b=>b=w.heap.size∨b=w.heap.size+1) w2).setCell (w.heap.size+1) 3 (.slice fU s.sg.length c2) (.inl (.inr rfl))).setCell (w.heap.size) 0 (.int .i64 s.op) (.inl (.inl rfl))).setCell (w.heap.size) 1 (.bool s.nn) (.inl (.inl rfl))).setCell (w.heap.size) 2 (.int .i64 s.hd) (.inl (.inl rfl))).setCell (w.heap.size) 3 (.slice fU s.sg.length c2) (.inl (.inl rfl))).setCell (w.heap.size) 4 (.int .u32 s.wr) (.inl (.inl rfl))).setCell (w.heap.size) 5 (.bool s.it) (.inl (.inl rfl));generalize (((((((w2.setCell ⟨w.heap.size+1,3,none⟩ (.slice fU s.sg.length c2)).setCell ⟨w.heap.size,0,none⟩ (.int .i64 s.op)).setCell ⟨w.heap.size,1,none⟩ (.bool s.nn)).setCell ⟨w.heap.size,2,none⟩ (.int .i64 s.hd)).setCell ⟨w.heap.size,3,none⟩ (.slice fU s.sg.length c2)).setCell ⟨w.heap.size,4,none⟩ (.int .u32 s.wr)).setCell ⟨w.heap.size,5,none⟩ (.bool s.it))=w3 at k0 hmv ⊢;refine yaP (iq rfl _ _ w.heap.size [.int .i64 s.op,.bool s.nn,.int .i64 s.hd,.slice fU s.sg.length c2,.int .u32 s.wr,.bool s.it] _ rfl (fun j v hv=>by rw [yau];exact k0.cell j v hv) underlying50 rfl (by kernel_rfl)) rfl ?_;refine ⟨_,rfl,(hu.kept fun b hb=>hmv.block b (hlt b hb).2.1 fun e=>by have:=(hlt b hb).1;omega).mono (by simp only [iP];omega),u7.trans (hmv.below (base:=w.heap.size) (fun k hk=>by omega) u7.size)⟩
end Go.Proofs
end
