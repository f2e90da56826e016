/-
  Proved: laws on the way to 'SserveScriptProof' (texts UdK UdL UdM UdG UdN UdH UdO UdQ UdS UdR Lives6 Enter SserveScriptFacts); no condition.
-/
import Derived.Test.YtpogddachhjgaaaGreatM6
import Derived.Deep.CutBlock
import Derived.Laws.BytesArg
import Derived.Deep.RegionLaw
import Derived.Test.YtpogddachhjgaaaGreatProg
import Derived.KernelRfl
import Derived.Test.YtpogddachhjgaaaGreatRows
import Derived.WalkKit
import Derived.ProofKit
import Derived.OpenShut
set_option linter.unusedSimpArgs false
set_option linter.unusedVariables false
set_option maxHeartbeats 4000000
noncomputable section
namespace Go.Proofs
open Go.Dw Go.RowKit Go.Maps Go.Sort Go.Deep
set_option maxRecDepth 100000 in
theorem Tryz.zEK {W0 w:World} {tot:Nat} {d:gB} {r:Rg} {av:Value} {j x20:Nat} {E:Int} {c:Ac} {xn:Nat} {s:SS} {g:Nat→Int} {px py pz:Int} {tm:Array Value} (hf:Rf r tot d av j E x20 tm) (hw:Rw W0 d r x20 c xn w s g s g (jg px py pz) (jg px py pz)) (hI:gD s (j+1)) (hj:j<60):
    (bf prog [1,1,1,0,0,1,0,0,1,0,1,1,1,1,1,1,1,1,1,1,1,5]).wp prog (fun ex a' w'=>ex= .normal∧a'.defers= []∧Rf r tot d av j E x20 a'.tmps∧Rw W0 d r x20 c xn w' s g s g (jg px py pz) (jg px py pz)) ⟨tm,[]⟩ w:=by
  have hal:=hf.sz;obtain ⟨jf,fP⟩:=KN (t:=tm) hf.sz hf.t0 hf.t2 hf.t7 hf.t8 hf.t10 hf.t12 hf.t14 hf.t15 hf.t16 hf.t17 hf.t18 hf.t19 hf.t20 hf.t21 hf.t22;rw [fP];clear fP hal hf;have hok:=hw.duo.oks;obtain ⟨pv,hpv⟩: ∃pv:Int,pv=((s.ph:Nat):Int):=⟨_,rfl⟩;have hlen: ∀e∈s.tk,e.2.length≤1000000:=fun e he=>yau (hI.seg e he) (by decide);have hsl:s.sg.length≤1000000:=yau hI.sg (by decide);have htl:s.tk.length≤100000:=yau hI.len (by omega);have hol:s.out.sg.length<4000000∧ ∀x∈s.out.sg,x.ok:=by
    unfold SS.out;split
    · exact ⟨by omega,hok.1⟩
    · exact ⟨by show ([]:List Sg).length<_;decide,fun x hx=>(by cases hx)⟩
  have hcl:(zW s c.n).length<4000000∧ ∀x∈zW s c.n,x.ok:=by
    unfold zW;split
    · rename_i t ht;have hm:=Fe ht;have:=hlen _ hm;exact ⟨ycU this (by decide),hok.2.1 _ hm⟩
    · exact ⟨by decide,fun x hx=>(by cases hx)⟩
  have Nl:(pK s).length<4000000:=by rw [←QA,zlp];omega
  have NQ:(pK s).length=s.tk.length:=by rw [←QA,zlp]
  have hdS:=fun w' (hb:Below w.heap.size w w')=>(show∃lv,_ from (hw.duo.below hb).ex);have hS: ∀w',Below w.heap.size w w'→ ∃A,SW A w' d.S d.P d.L d.Bs d.B d.M 20000 r s g:=fun w' hb=>by
    obtain ⟨lv,h1,_,_⟩:=(hw.duo.below hb).ex;exact ⟨_,h1⟩
  have hY: ∀w',Below w.heap.size w w'→ ∃A lv,aV A w' d.S2 d.P2 d.L2 d.ji d.B2 20000 d.b2 r s g lv:=fun w' hb=>by
    obtain ⟨lv,_,h2,_⟩:=(hw.duo.below hb).ex;exact ⟨_,_,h2⟩
  have hd1:=fun w' hb=>(show Calls _ _ _ w' _ from by obtain ⟨A,h1⟩:=hS w' hb;exact zy2 h1 hok.2.2 hsl);have hd2:=fun w' hb=>(show Calls _ _ _ w' _ from by obtain ⟨A,lv,h2⟩:=hY w' hb;exact zrc h2 hsl);have hc1:=fun w' hb=>(show Calls _ _ _ w' _ from by obtain ⟨A,h1⟩:=hS w' hb;exact zzn h1 hlen c.n);have hc2:=fun w' hb=>(show Calls _ _ _ w' _ from by obtain ⟨A,lv,h2⟩:=hY w' hb;exact zoL h2 htl hlen c.n);have hhS: ∀w',Below w.heap.size w w'→Calls prog 18 #[.pointer (some ⟨d.S,0,none⟩)] w' fun e w2=> ∃v,e= .returned v∧(∀w3,Below w2.heap.size w2 w3→yJ w3 v (pK s))∧Below w'.heap.size w' w2:=fun w' hb=>by
    obtain ⟨A,h1⟩:=hS w' hb;refine (zyw h1.aj (by omega)).mono ?_;rintro e w2 ⟨v,t,rfl,hr,hb2⟩;have hr2:aG t 1 w2 w'.heap.size v (pK s).length (bg (pK s)):=NQ.symm▸hr;exact ⟨v,rfl,fun w3 hb3=>aG.Un (aG.kept hr2 fun b e=>hb3.block b (aG.lt hr2 b e).2),hb2⟩
  have hhY: ∀w',Below w.heap.size w w'→Calls prog 45 #[.pointer (some ⟨d.S2,0,none⟩)] w' fun e w2=> ∃v,e= .returned v∧(∀w3,Below w2.heap.size w2 w3→yJ w3 v (pK s))∧Below w'.heap.size w' w2:=fun w' hb=>by
    obtain ⟨A,lv,h1⟩:=hY w' hb;refine (zoB h1 htl).mono ?_;rintro e w2 ⟨v,t,rfl,hr,hb2⟩;rw [QA] at hr;have hr2:aG t 1 w2 w'.heap.size v (pK s).length (bg (pK s)):=NQ.symm▸hr;exact ⟨v,rfl,fun w3 hb3=>aG.Un (aG.kept hr2 fun b e=>hb3.block b (aG.lt hr2 b e).2),hb2⟩
  have hin: ∀w' v1 v2,yJ w' v1 (pK s)→yJ w' v2 (pK s)→Calls prog 17 #[v1,v2] w' fun e w2=>e= .returned (.bool true)∧Below w'.heap.size w' w2:=fun w' v1 v2 h1 h2=>by
    have:=zwM h1 h2 Nl Nl;simpa only [ydE] using this
  have hbz: ∀w',Below w.heap.size w w'→Calls prog 27 #[.pointer (some ⟨d.S,0,none⟩)] w' fun e w2=>e= .returned (.bool (pv !=0))∧Below w'.heap.size w' w2:=fun w' hb=>by
    obtain ⟨A,h1⟩:=hS w' hb;refine (KH h1.aj).mono ?_;rintro e w2 ⟨rfl,rfl⟩;refine ⟨?_,yag _ _⟩;have:decide (s.ph≠0)=(pv !=0):=by
      rw [hpv];by_cases h0:s.ph=0
      · simp [h0]
      · have h3:(((s.ph:Nat):Int) !=0)=true:=ydY.2 (by omega);rw [ya1 h0];exact h3.symm
    rw [this]
  have Tp: ∀w',Below w.heap.size w w'→Calls prog 29 #[.pointer (some ⟨d.S,0,none⟩)] w' fun e w2=>e= .returned (.int .i64 (if s.br then 4 else 0))∧Below w'.heap.size w' w2:=fun w' hb=>by
    obtain ⟨A,h1⟩:=hS w' hb;refine (zyS h1.aj).mono ?_;rintro e w2 ⟨rfl,rfl⟩;exact ⟨rfl,yag _ _⟩
  have Tq: ∀w',Below w.heap.size w w'→Calls prog 46 #[.pointer (some ⟨d.S2,0,none⟩)] w' fun e w2=>e= .returned (.int .i64 (if s.br then 4 else 0))∧Below w'.heap.size w' w2:=fun w' hb=>by
    obtain ⟨A,lv,h1⟩:=hY w' hb;refine (zvf h1).mono ?_;rintro e w2 ⟨rfl,rfl⟩;exact ⟨rfl,yag _ _⟩
  generalize hev:(if s.br then (4:Int) else 0)=ev at Tp Tq;clear hev;have hS2: ∀w',Below w.heap.size w w'→w'.cell? ⟨d.S2,12,none⟩=some (.int .i64 pv):=fun w' hb=>by
    obtain ⟨A,lv,h1⟩:=hY w' hb;obtain ⟨sv,vs,q1,_⟩:=h1.obj;rw [hpv];exact q1.cell 12 _ rfl
  have y1:=hw.act.cell 1 _ rfl;have hr0:=yag w.heap.size w;clear hdS hpv;refine ya3 (?_:Code.wp _ _ (fun ex a' w'=>ex= .normal∧a'.defers= []∧Rf r tot d av j E x20 a'.tmps∧Below w.heap.size w w') _ _) fun ex a' w' hh=>⟨hh.1,hh.2.1,hh.2.2.1,hw.below hh.2.2.2⟩;refine kF (c':=(aD 1 (aD 1 (aD 1 (aD 0 (aD 0 (aD 1 (aD 0 (aD 0 (aD 1 (aD 0 (aD 1 (aD 1 (aD 1 (aD 1 (aD 1 (aD 1 (aD 1 (aD 1 (aD 1 (aD 1 (aD 1 (match (Tryz.f5).body with|some c=>c|none=> .skip))))))))))))))))))))))) (by kernel_rfl) ?_
  dsimp only [Tryz.f5,aD]
  go_wp2_with (first
    | (go_at_call 15;refine (hd1 _ hr0).mono ?_;rintro e wA ⟨u1,rfl,hu1,iC⟩;obtain ⟨sa1,c1,rfl,hj1⟩:=hu1.slice;clear hj1;have Ht:=iC.alloc iC.size (Obj.cells #[.int .i64 s.out.op,.bool s.out.nn,.int .i64 s.out.hd,.slice sa1 s.out.sg.length c1,.int .u32 s.out.wr,.bool s.out.it] 53))
    | (go_at_call 41;refine (hd2 _ Ht).mono ?_;rintro e wB ⟨u2,rfl,hu2,Bf⟩;obtain ⟨fU,c2,rfl,hj2⟩:=hu2.slice;clear hj2;have M6:=Ht.trans (Bf.mono Ht.size);have Dz:=M6.alloc M6.size (Obj.cells #[.int .i64 s.out.op,.bool s.out.nn,.int .i64 s.out.hd,.slice fU s.out.sg.length c2,.int .u32 s.out.wr,.bool s.out.it] 53);have yB:=(hw.act.below Dz hw.act.lt).cell 1 _ rfl)
    | (go_at_call 42;refine (hc1 _ Dz).mono ?_;rintro e wC ⟨u3,rfl,hu3,hbC⟩;have DF:=Dz.trans (hbC.mono Dz.size);have yC:=(hw.act.below DF hw.act.lt).cell 1 _ rfl)
    | (go_at_call 43;refine (hc2 _ DF).mono ?_;rintro e wD ⟨u4,rfl,xg,hbD⟩;have Hu:=DF.trans (hbD.mono DF.size))
    | go_in)
  have zl: ∀w',Below wD.heap.size wD w'→Below w.heap.size w w':=fun w' hb=>Hu.trans (hb.mono Hu.size);have DC:Below wB.heap.size wB wD:=((yag wB.heap.size wB).alloc (yab _) _).trans ((hbC.mono (by simp)).trans ((hbD.mono (by have:=hbC.size;simp at this;omega))));have M5:Below wA.heap.size wA wD:=((yag wA.heap.size wA).alloc (yab _) _).trans ((Bf.mono (by simp)).trans (DC.mono (by have:=Bf.size;simp at this;omega)));have M7:Below wC.heap.size wC wD:=hbD;have MF: ∀(b2 b:Nat),b2≤b→b<wA.heap.size→ ¬(fun _:Nat=>False) b:=fun _ _ _ _ q=>q;have Vg:=hu1.rV hol.2 (A:=fun _=>False) fun _ _ q=>q;have Vh:=hu2.rV hol.2 (A:=fun _=>False) fun _ _ q=>q;have Vi:=hu3.rV hcl.2 (A:=fun _=>False) fun _ _ q=>q;have Vj:=xg.rV hcl.2 (A:=fun _=>False) fun _ _ q=>q;have hsv: ∀w',Below wD.heap.size wD w'→Calls prog 44 #[.agg #[.int .i64 s.out.op,.bool s.out.nn,.int .i64 s.out.hd,.slice sa1 s.out.sg.length c1,.int .u32 s.out.wr,.bool s.out.it],.agg #[.int .i64 s.out.op,.bool s.out.nn,.int .i64 s.out.hd,.slice fU s.out.sg.length c2,.int .u32 s.out.wr,.bool s.out.it]] w' fun e w2=>e= .returned (.bool true)∧Below w'.heap.size w' w2:=fun w' hb=>zuS (aL.below Vg (M5.trans (hb.mono M5.size))) (aL.below Vh (DC.trans (hb.mono DC.size))) hol.1;have hss: ∀w',Below wD.heap.size wD w'→Calls prog 16 #[u3,u4] w' fun e w2=>e= .returned (.bool true)∧Below w'.heap.size w' w2:=fun w' hb=>by
    have:=zn5 (aL.below Vi (M7.trans (hb.mono M7.size))) (aL.below Vj hb) hcl.1 hcl.1;simpa only [ydE] using this
  have k21:=(hw.k21.below Hu hw.k21.lt);have k22:=(hw.k22.below Hu hw.k22.lt);have qh:Cl wD wA.heap.size [.int .i64 s.out.op,.bool s.out.nn,.int .i64 s.out.hd,.slice sa1 s.out.sg.length c1,.int .u32 s.out.wr,.bool s.out.it]:=(Cl.new wA #[.int .i64 s.out.op,.bool s.out.nn,.int .i64 s.out.hd,.slice sa1 s.out.sg.length c1,.int .u32 s.out.wr,.bool s.out.it] 53).below (Bf.trans (DC.mono Bf.size)) (by simp);have qj:Cl wD wB.heap.size [.int .i64 s.out.op,.bool s.out.nn,.int .i64 s.out.hd,.slice fU s.out.sg.length c2,.int .u32 s.out.wr,.bool s.out.it]:=(Cl.new wB #[.int .i64 s.out.op,.bool s.out.nn,.int .i64 s.out.hd,.slice fU s.out.sg.length c2,.int .u32 s.out.wr,.bool s.out.it] 53).below (hbC.trans (hbD.mono hbC.size)) (by simp);have hyl:True:=trivial;have hb0:=(yag wD.heap.size wD).drew;have hT:=fun w' (hb:Below wD.heap.size wD w')=>And.intro ((k21.below hb k21.lt).cell 0 _ rfl) (And.intro ((k21.below hb k21.lt).cell 1 _ rfl) (And.intro ((k21.below hb k21.lt).cell 2 _ rfl) (And.intro ((k22.below hb k22.lt).cell 0 _ rfl) (And.intro ((k22.below hb k22.lt).cell 1 _ rfl) (And.intro ((k22.below hb k22.lt).cell 2 _ rfl) (And.intro ((qh.below hb qh.lt).cell 0 _ rfl) (And.intro ((qh.below hb qh.lt).cell 1 _ rfl) (And.intro ((qh.below hb qh.lt).cell 2 _ rfl) (And.intro ((qh.below hb qh.lt).cell 3 _ rfl) (And.intro ((qh.below hb qh.lt).cell 4 _ rfl) (And.intro ((qh.below hb qh.lt).cell 5 _ rfl) (And.intro ((qj.below hb qj.lt).cell 0 _ rfl) (And.intro ((qj.below hb qj.lt).cell 1 _ rfl) (And.intro ((qj.below hb qj.lt).cell 2 _ rfl) (And.intro ((qj.below hb qj.lt).cell 3 _ rfl) (And.intro ((qj.below hb qj.lt).cell 4 _ rfl) (And.intro ((qj.below hb qj.lt).cell 5 _ rfl) (hS2 _ (zl _ hb)))))))))))))))))));obtain ⟨f0,f1,f2,f3,f4,f5,f6,f7,f8,f9,f10,f11,f12,f13,f14,f15,f16,f17,f18⟩:=hT _ (yag _ _);clear hS hY hd1 hd2 hc1 hc2 y1 yB yC hu1 hu2 hu3 xg iC Bf hbC hbD Ht M6 Dz DF hw hI M5 DC M7 MF Vg Vh Vi Vj hyl hr0 hlen hsl htl hok hol hcl Nl NQ;go_region_held3 (fun w'=>w'.cell? ⟨x20+1,0,none⟩=some (.int .i64 px)∧w'.cell? ⟨x20+1,1,none⟩=some (.int .i64 py)∧w'.cell? ⟨x20+1,2,none⟩=some (.int .i64 pz)∧w'.cell? ⟨x20+1+1,0,none⟩=some (.int .i64 px)∧w'.cell? ⟨x20+1+1,1,none⟩=some (.int .i64 py)∧w'.cell? ⟨x20+1+1,2,none⟩=some (.int .i64 pz)∧w'.cell? ⟨wA.heap.size,0,none⟩=some (.int .i64 s.out.op)∧w'.cell? ⟨wA.heap.size,1,none⟩=some (.bool s.out.nn)∧w'.cell? ⟨wA.heap.size,2,none⟩=some (.int .i64 s.out.hd)∧w'.cell? ⟨wA.heap.size,3,none⟩=some (.slice sa1 s.out.sg.length c1)∧w'.cell? ⟨wA.heap.size,4,none⟩=some (.int .u32 s.out.wr)∧w'.cell? ⟨wA.heap.size,5,none⟩=some (.bool s.out.it)∧w'.cell? ⟨wB.heap.size,0,none⟩=some (.int .i64 s.out.op)∧w'.cell? ⟨wB.heap.size,1,none⟩=some (.bool s.out.nn)∧w'.cell? ⟨wB.heap.size,2,none⟩=some (.int .i64 s.out.hd)∧w'.cell? ⟨wB.heap.size,3,none⟩=some (.slice fU s.out.sg.length c2)∧w'.cell? ⟨wB.heap.size,4,none⟩=some (.int .u32 s.out.wr)∧w'.cell? ⟨wB.heap.size,5,none⟩=some (.bool s.out.it)∧w'.cell? ⟨d.S2,12,none⟩=some (.int .i64 pv)) (go_keep)
    ((first
      | (go_at_call 44;refine (hsv _ (hb0)).mono ?_;rintro en w1 ⟨rfl,hb1'⟩;have hb1:=hb0.trans (hb1'.mono hb0.size);clear f0 f1 f2 f3 f4 f5 f6 f7 f8 f9 f10 f11 f12 f13 f14 f15 f16 f17 f18;obtain ⟨f0,f1,f2,f3,f4,f5,f6,f7,f8,f9,f10,f11,f12,f13,f14,f15,f16,f17,f18⟩:=hT _ hb1)
      | (go_at_call 18;refine (hhS _ (zl _ hb1)).mono ?_;rintro en w2 ⟨v1,rfl,hi1,hb2'⟩;have hb2:=hb1.trans (hb2'.mono hb1.size);clear f0 f1 f2 f3 f4 f5 f6 f7 f8 f9 f10 f11 f12 f13 f14 f15 f16 f17 f18;obtain ⟨f0,f1,f2,f3,f4,f5,f6,f7,f8,f9,f10,f11,f12,f13,f14,f15,f16,f17,f18⟩:=hT _ hb2)
      | (go_at_call 45;refine (hhY _ (zl _ hb2)).mono ?_;rintro en w3 ⟨v2,rfl,hi2,Ti⟩;have hb3:=hb2.trans (Ti.mono hb2.size);clear f0 f1 f2 f3 f4 f5 f6 f7 f8 f9 f10 f11 f12 f13 f14 f15 f16 f17 f18;obtain ⟨f0,f1,f2,f3,f4,f5,f6,f7,f8,f9,f10,f11,f12,f13,f14,f15,f16,f17,f18⟩:=hT _ hb3)
      | (go_at_call 17;refine (hin _ v1 v2 (hi1 _ Ti) (hi2 _ (yag _ _))).mono ?_;rintro en w4 ⟨rfl,MZ⟩;have hb4:=hb3.trans (MZ.mono hb3.size);clear f0 f1 f2 f3 f4 f5 f6 f7 f8 f9 f10 f11 f12 f13 f14 f15 f16 f17 f18;obtain ⟨f0,f1,f2,f3,f4,f5,f6,f7,f8,f9,f10,f11,f12,f13,f14,f15,f16,f17,f18⟩:=hT _ hb4)
      | (go_at_call 27;refine (hbz _ (zl _ hb4)).mono ?_;rintro en w5 ⟨rfl,Bd⟩;have hb5:=hb4.trans (Bd.mono hb4.size);clear f0 f1 f2 f3 f4 f5 f6 f7 f8 f9 f10 f11 f12 f13 f14 f15 f16 f17 f18;obtain ⟨f0,f1,f2,f3,f4,f5,f6,f7,f8,f9,f10,f11,f12,f13,f14,f15,f16,f17,f18⟩:=hT _ hb5)
      | (go_at_call 29;refine (Tp _ (zl _ hb5)).mono ?_;rintro en w6 ⟨rfl,Be⟩;have hb6:=hb5.trans (Be.mono hb5.size);clear f0 f1 f2 f3 f4 f5 f6 f7 f8 f9 f10 f11 f12 f13 f14 f15 f16 f17 f18;obtain ⟨f0,f1,f2,f3,f4,f5,f6,f7,f8,f9,f10,f11,f12,f13,f14,f15,f16,f17,f18⟩:=hT _ hb6)
      | (go_at_call 46;refine (Tq _ (zl _ hb6)).mono ?_;rintro en w7 ⟨rfl,aaq⟩;have iX:=hb6.trans (aaq.mono hb6.size);clear f0 f1 f2 f3 f4 f5 f6 f7 f8 f9 f10 f11 f12 f13 f14 f15 f16 f17 f18;obtain ⟨f0,f1,f2,f3,f4,f5,f6,f7,f8,f9,f10,f11,f12,f13,f14,f15,f16,f17,f18⟩:=hT _ iX)
      | (go_at_call 16;refine (hss _ (iX)).mono ?_;rintro en w8 ⟨rfl,aar⟩;have eT:=iX.trans (aar.mono iX.size);clear f0 f1 f2 f3 f4 f5 f6 f7 f8 f9 f10 f11 f12 f13 f14 f15 f16 f17 f18;obtain ⟨f0,f1,f2,f3,f4,f5,f6,f7,f8,f9,f10,f11,f12,f13,f14,f15,f16,f17,f18⟩:=hT _ eT)))
  all_goals (go_wp2_with fail)
  all_goals (first|exact ⟨rfl,rfl,rfl,rfl,rfl,rfl,rfl,rfl,rfl,rfl,rfl,rfl,rfl,rfl,rfl,rfl⟩|exact zl _ eT)
def Tryz.yh (W0:World) (tot:Nat) (d:gB) (r:Rg) (av:Value) (j x20:Nat) (c:Ac):Exit→Act→World→Prop:=fun ex a' w'=>match ex with
 | .normal=>a'.defers= []∧ ∃(xn:Nat) (E':Int) (s':SS) (g':Nat→Int) (px py pz:Int),Rf r tot d av j E' x20 a'.tmps∧Rw W0 d r x20 c xn w' s' g' s' g' (jg px py pz) (jg px py pz)∧gD s' (j+1)∧xn≤j+1
 | _=>False
set_option maxRecDepth 100000 in
theorem Tryz.zBM {W0 w:World} {tot:Nat} {d:gB} {r:Rg} {av:Value} {j x20:Nat} {E:Int} {c:Ac} {xn:Nat} {s:SS} {g:Nat→Int} {tm:Array Value} (hf:Rf r tot d av j E x20 tm) (jJ:tm.getD 104 undef= .int .i64 0) (hw:Rw W0 d r x20 c xn w s g s g (jg 0 0 0) (jg 0 0 0)) (hI:gD s j) (hxn:xn≤j) (hj:j<60):
    (bf prog [1,0,1,1,0,0,1,0,0,1,0,1,1,1,1,1,1,1,1,1,1,1,5]).wp prog (yh W0 tot d r av j x20 c) ⟨tm,[]⟩ w:=by
  have hal:=hf.sz;obtain ⟨jf,fP⟩:=Aa (t:=tm) hf.sz hf.t0 hf.t2 hf.t7 hf.t8 hf.t10 hf.t12 hf.t14 hf.t15 hf.t16 hf.t17 hf.t18 hf.t19 hf.t20 hf.t21 hf.t22 jJ;rw [fP];clear fP hal hf jJ;refine kF (c':=(aD 1 (aD 0 (aD 1 (aD 1 (aD 0 (aD 0 (aD 1 (aD 0 (aD 0 (aD 1 (aD 0 (aD 1 (aD 1 (aD 1 (aD 1 (aD 1 (aD 1 (aD 1 (aD 1 (aD 1 (aD 1 (aD 1 (match (f5).body with|some c=>c|none=> .skip)))))))))))))))))))))))) (by kernel_rfl) ?_
  dsimp only [f5,aD]
  go_wp2_with (first
    | (go_at_call 13;refine (I5 hw.duo fun A h=>zA0 h).mono ?_;rintro e w1 ⟨rfl,hd1,hm1⟩)
    | (go_at_call 34;refine (I4 hd1 fun A lv h=>(zq6 h).mono fun e w' hh=>⟨hh.1,lv,hh.2.1,fun _ q=> .inl q,hh.2.2.mono fun _ q=> .inl q⟩).mono ?_;rintro e w2 ⟨rfl,hd2,hm2⟩)
    | go_in)
  exact ⟨rfl,xn,_,_,g,0,0,0,⟨rfl,rfl,rfl,rfl,rfl,rfl,rfl,rfl,rfl,rfl,rfl,rfl,rfl,rfl,rfl,rfl⟩,(hw.turn hd1 hm1).turn hd2 hm2,hI.poll.up,by omega⟩
set_option maxRecDepth 100000 in
theorem Tryz.zBL {W0 w:World} {tot:Nat} {d:gB} {r:Rg} {av:Value} {j x20:Nat} {E:Int} {c:Ac} {xn:Nat} {s:SS} {g:Nat→Int} {tm:Array Value} (hf:Rf r tot d av j E x20 tm) (jJ:tm.getD 104 undef= .int .i64 1) (hw:Rw W0 d r x20 c xn w s g s g (jg 0 0 0) (jg 0 0 0)) (hI:gD s j) (hxn:xn≤j) (hj:j<60) (hco:0≤c.v∧c.v<4294967296):
    (bf prog [1,0,1,1,0,0,1,0,0,1,0,1,1,1,1,1,1,1,1,1,1,1,5]).wp prog (yh W0 tot d r av j x20 c) ⟨tm,[]⟩ w:=by
  have hal:=hf.sz;obtain ⟨jf,fP⟩:=Aa (t:=tm) hf.sz hf.t0 hf.t2 hf.t7 hf.t8 hf.t10 hf.t12 hf.t14 hf.t15 hf.t16 hf.t17 hf.t18 hf.t19 hf.t20 hf.t21 hf.t22 jJ;rw [fP];clear fP hal hf jJ;have x1:=hw.act.cell 1 _ rfl;have x2:=hw.act.cell 2 _ rfl;have hlen: ∀e∈s.tk,e.2.length≤1000000:=fun e he=>yau (hI.seg e he) (by decide);have htl:s.tk.length≤100000:=yau hI.len (by omega);have hwd:=hw.below ((yag w.heap.size w).drew);refine kF (c':=(aD 1 (aD 0 (aD 1 (aD 1 (aD 0 (aD 0 (aD 1 (aD 0 (aD 0 (aD 1 (aD 0 (aD 1 (aD 1 (aD 1 (aD 1 (aD 1 (aD 1 (aD 1 (aD 1 (aD 1 (aD 1 (aD 1 (match (f5).body with|some c=>c|none=> .skip)))))))))))))))))))))))) (by kernel_rfl) ?_
  dsimp only [f5,aD]
  go_wp2_with fail;go_region_held3 (fun w'=>w'.cell? ⟨x20,1,none⟩=some (.int .i64 c.n)∧w'.cell? ⟨x20,2,none⟩=some (.int .u32 c.v)) (go_keep)
    ((first
      | (go_at_call 19;refine (I5 hwd.duo fun A h=>zDK h c.n c.v hco hlen).mono ?_;rintro en w1 ⟨rfl,hd1,hm1⟩;have hr1:=hwd.turn hd1 hm1;have z1:=hr1.act.cell 1 _ rfl;have z2:=hr1.act.cell 2 _ rfl)
      | (go_at_call 35;refine (I4 hd1 fun A lv h=>(zva h htl hlen c.n c.v hco).mono fun e w' hh=>⟨hh.1,lv,hh.2.1,fun _ q=> .inl q,hh.2.2.mono fun _ q=> .inl q⟩).mono ?_;rintro en w2 ⟨rfl,hd2,hm2⟩;have hr2:=hr1.turn hd2 hm2;have y1:=hr2.act.cell 1 _ rfl;have y2:=hr2.act.cell 2 _ rfl)))
  all_goals (go_wp2_with fail)
  exact ⟨rfl,xn,_,_,g,0,0,0,⟨rfl,rfl,rfl,rfl,rfl,rfl,rfl,rfl,rfl,rfl,rfl,rfl,rfl,rfl,rfl,rfl⟩,hr2,(hI.ret c.n c.v).up,by omega⟩
set_option maxRecDepth 100000 in
theorem Tryz.zBK {W0 w:World} {tot:Nat} {d:gB} {r:Rg} {av:Value} {j x20:Nat} {E:Int} {c:Ac} {xn:Nat} {s:SS} {g:Nat→Int} {tm:Array Value} (hf:Rf r tot d av j E x20 tm) (jJ:tm.getD 104 undef= .int .i64 2) (hw:Rw W0 d r x20 c xn w s g s g (jg 0 0 0) (jg 0 0 0)) (hI:gD s j) (hxn:xn≤j) (hj:j<60) (hx:d.X7<d.XB∧d.XB<x20∧W0.heap.size≤d.XB) (fQ:RgOk r):
    (bf prog [1,0,1,1,0,0,1,0,0,1,0,1,1,1,1,1,1,1,1,1,1,1,5]).wp prog (yh W0 tot d r av j x20 c) ⟨tm,[]⟩ w:=by
  have hal:=hf.sz;obtain ⟨jf,fP⟩:=Aa (t:=tm) hf.sz hf.t0 hf.t2 hf.t7 hf.t8 hf.t10 hf.t12 hf.t14 hf.t15 hf.t16 hf.t17 hf.t18 hf.t19 hf.t20 hf.t21 hf.t22 jJ;rw [fP];clear fP hal hf jJ;have htl:s.tk.length≤100000:=yau hI.len (by omega);obtain ⟨hg,hpb,_⟩:=hw.duo.facts;obtain ⟨x,y,z,hacc⟩:=znz 20000 r s g;have hst:=I5 hw.duo fun A h=>zsq h;have l7: ∀ {w1 g1},Duo W0.heap.size (ng W0.heap.size d x20) w1 d r (bW 20000 r s g).2.2.1 g1 s g→Calls prog 40 #[.pointer (some ⟨d.S2,0,none⟩)] w1 fun e w'=>e= .returned (.tuple #[(bW 20000 r s g).1,.int .i64 (bW 20000 r s g).2.1])∧Duo W0.heap.size (ng W0.heap.size d x20) w' d r (bW 20000 r s g).2.2.1 g1 (bW 20000 r s g).2.2.1 (bW 20000 r s g).2.2.2∧Dw.Mv (fun b=> ¬ng W0.heap.size d x20 b) w1 w':=fun hd=>I4 hd fun A lv h=>YI h htl (eF.step hpb hg);have hIs:=hI.step (N:=20000) (r:=r) hg fQ;rw [hacc] at hst l7;unfold dM at hst l7;generalize hS':(bW 20000 r s g).2.2.1=s' at hst l7 hIs;generalize hG':(bW 20000 r s g).2.2.2=g' at hst l7;generalize hE':(bW 20000 r s g).2.1=e' at hst l7;clear hS' hG' hE' hacc hg hpb fQ;refine kF (c':=(aD 1 (aD 0 (aD 1 (aD 1 (aD 0 (aD 0 (aD 1 (aD 0 (aD 0 (aD 1 (aD 0 (aD 1 (aD 1 (aD 1 (aD 1 (aD 1 (aD 1 (aD 1 (aD 1 (aD 1 (aD 1 (aD 1 (match (f5).body with|some c=>c|none=> .skip)))))))))))))))))))))))) (by kernel_rfl) ?_
  dsimp only [f5,aD]
  go_wp2_with (first
    | (go_at_call 28;refine hst.mono ?_;rintro e w1 ⟨rfl,hd1,hm1⟩;have hr1:=hw.turn hd1 hm1;have z0:=hr1.k21.cell 0 _ rfl;have z1:=hr1.k21.cell 1 _ rfl;have z2:=hr1.k21.cell 2 _ rfl;have f0:=hr1.k21.free 0;have f1:=hr1.k21.free 1;have f2:=hr1.k21.free 2;have hq1:=KZ (x:= .int .i64 x) (y:= .int .i64 y) (z:= .int .i64 z) hr1.k21 rfl;have hr2:=hr1.UA hx hq1.2 hq1.1)
    | (go_at_call 40;refine (l7 hr2.duo).mono ?_;rintro e w3 ⟨rfl,hd3,wV⟩;have hr3:=hr2.turn hd3 wV;clear z0 z1 z2 f0 f1 f2;have z0:=hr3.k22.cell 0 _ rfl;have z1:=hr3.k22.cell 1 _ rfl;have z2:=hr3.k22.cell 2 _ rfl;have f0:=hr3.k22.free 0;have f1:=hr3.k22.free 1;have f2:=hr3.k22.free 2;have hq3:=KZ (x:= .int .i64 x) (y:= .int .i64 y) (z:= .int .i64 z) hr3.k22 rfl;have hr4:=hr3.UB hx hq3.2 hq3.1)
    | go_in)
  exact ⟨rfl,xn,_,_,_,x,y,z,⟨rfl,rfl,rfl,rfl,rfl,rfl,rfl,rfl,rfl,rfl,rfl,rfl,rfl,rfl,rfl,rfl⟩,hr4,hIs,by omega⟩
set_option maxRecDepth 100000 in
theorem Tryz.zBJ {W0 w:World} {tot:Nat} {d:gB} {r:Rg} {av:Value} {j x20:Nat} {E:Int} {c:Ac} {xn:Nat} {s:SS} {g:Nat→Int} {tm:Array Value} (hf:Rf r tot d av j E x20 tm) (jJ:tm.getD 104 undef= .int .i64 3) (hw:Rw W0 d r x20 c xn w s g s g (jg 0 0 0) (jg 0 0 0)) (hI:gD s j) (hxn:xn≤j) (hj:j<60) (hx:d.X7<d.XB∧d.XB<x20∧W0.heap.size≤d.XB) (fQ:RgOk r):
    (bf prog [1,0,1,1,0,0,1,0,0,1,0,1,1,1,1,1,1,1,1,1,1,1,5]).wp prog (yh W0 tot d r av j x20 c) ⟨tm,[]⟩ w:=by
  have hal:=hf.sz;obtain ⟨jf,fP⟩:=Aa (t:=tm) hf.sz hf.t0 hf.t2 hf.t7 hf.t8 hf.t10 hf.t12 hf.t14 hf.t15 hf.t16 hf.t17 hf.t18 hf.t19 hf.t20 hf.t21 hf.t22 jJ;rw [fP];clear fP hal hf jJ;have htl:s.tk.length≤100000:=yau hI.len (by omega);obtain ⟨hg,hpb,_⟩:=hw.duo.facts;obtain ⟨x,y,z,hacc⟩:=znz 20000 r s g;have hst:=I5 hw.duo fun A h=>zsq h;have l7: ∀ {w1 g1},Duo W0.heap.size (ng W0.heap.size d x20) w1 d r (bW 20000 r s g).2.2.1 g1 s g→Calls prog 40 #[.pointer (some ⟨d.S2,0,none⟩)] w1 fun e w'=>e= .returned (.tuple #[(bW 20000 r s g).1,.int .i64 (bW 20000 r s g).2.1])∧Duo W0.heap.size (ng W0.heap.size d x20) w' d r (bW 20000 r s g).2.2.1 g1 (bW 20000 r s g).2.2.1 (bW 20000 r s g).2.2.2∧Dw.Mv (fun b=> ¬ng W0.heap.size d x20 b) w1 w':=fun hd=>I4 hd fun A lv h=>YI h htl (eF.step hpb hg);have hIs:=hI.step (N:=20000) (r:=r) hg fQ;rw [hacc] at hst l7;unfold dM at hst l7;generalize hS':(bW 20000 r s g).2.2.1=s' at hst l7 hIs;generalize hG':(bW 20000 r s g).2.2.2=g' at hst l7;generalize hE':(bW 20000 r s g).2.1=e' at hst l7;clear hS' hG' hE' hacc hg hpb fQ;refine kF (c':=(aD 1 (aD 0 (aD 1 (aD 1 (aD 0 (aD 0 (aD 1 (aD 0 (aD 0 (aD 1 (aD 0 (aD 1 (aD 1 (aD 1 (aD 1 (aD 1 (aD 1 (aD 1 (aD 1 (aD 1 (aD 1 (aD 1 (match (f5).body with|some c=>c|none=> .skip)))))))))))))))))))))))) (by kernel_rfl) ?_
  dsimp only [f5,aD]
  go_wp2_with (first
    | (go_at_call 28;refine hst.mono ?_;rintro e w1 ⟨rfl,hd1,hm1⟩;have hr1:=hw.turn hd1 hm1;have z0:=hr1.k21.cell 0 _ rfl;have z1:=hr1.k21.cell 1 _ rfl;have z2:=hr1.k21.cell 2 _ rfl;have f0:=hr1.k21.free 0;have f1:=hr1.k21.free 1;have f2:=hr1.k21.free 2;have hq1:=KZ (x:= .int .i64 x) (y:= .int .i64 y) (z:= .int .i64 z) hr1.k21 rfl;have hr2:=hr1.UA hx hq1.2 hq1.1)
    | (go_at_call 40;refine (l7 hr2.duo).mono ?_;rintro e w3 ⟨rfl,hd3,wV⟩;have hr3:=hr2.turn hd3 wV;clear z0 z1 z2 f0 f1 f2;have z0:=hr3.k22.cell 0 _ rfl;have z1:=hr3.k22.cell 1 _ rfl;have z2:=hr3.k22.cell 2 _ rfl;have f0:=hr3.k22.free 0;have f1:=hr3.k22.free 1;have f2:=hr3.k22.free 2;have hq3:=KZ (x:= .int .i64 x) (y:= .int .i64 y) (z:= .int .i64 z) hr3.k22 rfl;have hr4:=hr3.UB hx hq3.2 hq3.1)
    | go_in)
  exact ⟨rfl,xn,_,_,_,x,y,z,⟨rfl,rfl,rfl,rfl,rfl,rfl,rfl,rfl,rfl,rfl,rfl,rfl,rfl,rfl,rfl,rfl⟩,hr4,hIs,by omega⟩
structure Tryz.aac (p:Prop):Prop where
 out:p
theorem Tryz.Uw (x:Int):0≤x%256∧x%256<256:=⟨by omega,by omega⟩
theorem Tryz.u8_in (n:Int):0≤IntKind.wrap .u8 n∧IntKind.wrap .u8 n<256:=by
 unfold IntKind.wrap;simp [IntKind.signed,IntKind.bits];omega
theorem Tryz.zD1 (w:World) (x y:Int):aG 5 1 (w.alloc (Obj.cells #[.int .u8 x,.int .u8 y] 5)) w.heap.size (.slice (some ⟨w.heap.size,0,none⟩) 2 2) [x,y].length (iG [x,y]):=
 ⟨rfl,.inr ⟨_,2,_,rfl,yab _,ybq w _,yab _,by unfold maxLen;decide,rfl,rfl⟩⟩
section
variable {n0:Nat} {Z:Nat→Prop} {d:Tryz.gB} {r:Tryz.Rg} {w w':World} {s1:Tryz.SS} {g:Nat→Int} {s2:Tryz.SS}
theorem Tryz.QT {x y:Int} {a xn:Nat} (hd:Duo n0 Z w d r s1 g s2 g) (hxb:Cl w d.XB (rZ d xn)) (hz:Z d.XB) (hxy:(0≤x∧x<256)∧0≤y∧y<256) (ha:a+2≤20000):
  Calls prog 36 #[.pointer (some ⟨d.XB,0,none⟩),.int .u64 a,.slice (some ⟨w.heap.size,0,none⟩) 2 2] (w.alloc (Obj.cells #[.int .u8 x,.int .u8 y] 5)) fun e w'=>e= .returned (.tuple #[])∧Duo n0 Z w' d r s1 (ic g a [x,y]) s2 (ic g a [x,y])∧Cl w' d.XB (rZ d xn)∧Dw.Mv (fun b=> ¬Z b) w w':=by
 have hb:=(yag w.heap.size w).alloc (yab _) (Obj.cells #[.int .u8 x,.int .u8 y] 5);have hd2:=hd.more hb (Z':=fun b=>Z b∨b=w.heap.size) (fun b q=>q.imp_right fun e=>by rw [e];exact ⟨yab _,by simp⟩);have hk:=hxb.below hb hxb.lt;refine (Rz hd2 hk (.inl hz) (zD1 w x y) (fun b e=> .inr (by simpa [Value.ownBlock] using e.symm)) ⟨by simp,by simp⟩ (fun z q=> ?_) (by simpa using ha)).mono ?_
 ·simp only [yac,yae,yav] at q;rcases q with rfl|rfl
  ·exact hxy.1
  ·exact hxy.2
 ·rintro e w2 ⟨rfl,h1,h2⟩;exact ⟨rfl,h1.set fun b q=> .inl q,hk.kept (h2.block _ hk.lt fun q=>q (.inl hz)),⟨h2.os.trans hb.os,h2.tape.trans hb.tape,h2.output.trans hb.output,yau hb.size h2.size,fun b hb' hn=>(h2.block b (yad hb' hb.size) fun q=>hn fun z=>q (.inl z)).trans (hb.block b hb')⟩⟩
set_option maxRecDepth 100000 in
theorem Tryz.YT {xn:Nat} (hd:Duo n0 Z w d r s1 g s2 g) (hxb:Cl w d.XB (rZ d xn)) (hz:Z d.XB) (hxn:xn≤1000) (head:Int):
    Calls prog 38 #[.pointer (some ⟨d.XB,0,none⟩),r.val,.int .i64 head] w fun e w'=>e= .returned (.tuple #[])∧ ∃g',Duo n0 Z w' d r s1 g' s2 g'∧Cl w' d.XB (rZ d (xn+1))∧Dw.Mv (fun b=>b=d.XB∨ ¬Z b) w w':=by
  obtain ⟨_,_,fQ,_,hfit⟩:=hd.facts;have hn:=fQ.bnd;have hv0:=fQ.v0;have hn0: ¬r.n=0:=by omega
  obtain ⟨q,hq,hq2⟩: ∃q:Int,(xn:Int)%r.n=q∧(0≤q∧q<r.n):=⟨_,rfl,ybo _ (by omega),ybg _ (by omega)⟩;have hq3:(xn:Int).tmod r.n=q:=by rw [ybs (by omega)];exact hq
  have hq4:IntKind.wrap .i64 q=q:=gV (by omega) (by omega);obtain ⟨a1,ha1,hl1⟩: ∃a1:Nat,(a1:Int)=r.v+4+2*q∧a1+2≤20000:=⟨(r.v+4+2*q).toNat,by omega,by omega⟩;obtain ⟨a2,ha2,hl2⟩: ∃a2:Nat,(a2:Int)=r.v+2∧a2+2≤20000:=⟨(r.v+2).toNat,by omega,by omega⟩;have hwA: ∀x,x=q→ ∀w',Calls prog 20 #[r.val,.int .i64 4,.int .i64 x] w' fun e w2=>e= .returned (.tuple #[.int .u64 a1,.int .i64 2,.int .i64 0])∧Below w'.heap.size w' w2:=fun x hx w'=>hx▸ha1▸zsI r fQ q hq2 w';have hwI: ∀w',Calls prog 20 #[r.val,.int .i64 3,.int .i64 0] w' fun e w2=>e= .returned (.tuple #[.int .u64 a2,.int .i64 2,.int .i64 0])∧Below w'.heap.size w' w2:=fun w'=>ha2▸Fw r fQ w';have hm:aac (((xn+1:Nat):Int)=(xn:Int)+1):=⟨by push_cast;rfl⟩;have iC:=(yag w.heap.size w).alloc (yab _) (Obj.cells #[.bool false,.int .i64 r.n,.int .u64 r.d,.int .u64 r.v,.int .u64 r.c] 32);have bU:=hxb.below iC hxb.lt;have hdA:=hd.below iC;have T9:=Cl.new w #[.bool false,.int .i64 r.n,.int .u64 r.d,.int .u64 r.v,.int .u64 r.c] 32;have hbD:=(yag (w.alloc (Obj.cells #[.bool false,.int .i64 r.n,.int .u64 r.d,.int .u64 r.v,.int .u64 r.c] 32)).heap.size (w.alloc (Obj.cells #[.bool false,.int .i64 r.n,.int .u64 r.d,.int .u64 r.v,.int .u64 r.c] 32))).drew;have Nw:=bU.below hbD bU.lt;have hdD:=hdA.below hbD;have zh:=T9.below hbD T9.lt;have x2:=Nw.cell 2 _ rfl;have y0:=zh.cell 0 _ rfl;have y1:=zh.cell 1 _ rfl;have y2:=zh.cell 2 _ rfl;have y3:=zh.cell 3 _ rfl;have y4:=zh.cell 4 _ rfl;clear ha1 ha2 hv0 hfit;unfold Rg.val at*;go_enter func38,ntmps38;go_wp2_with fail;go_region_held3 (fun w'=>w'.cell? ⟨d.XB,2,none⟩=some (.int .i64 xn)∧w'.cell? ⟨w.heap.size,0,none⟩=some (.bool false)∧w'.cell? ⟨w.heap.size,1,none⟩=some (.int .i64 r.n)∧w'.cell? ⟨w.heap.size,2,none⟩=some (.int .u64 r.d)∧w'.cell? ⟨w.heap.size,3,none⟩=some (.int .u64 r.v)∧w'.cell? ⟨w.heap.size,4,none⟩=some (.int .u64 r.c)) (go_keep)
    ((first
      | (go_at_call 20;refine (hwA _ rfl _).mono ?_;rintro en w3 ⟨rfl,hb3⟩;have hk3:=Nw.below hb3 Nw.lt;have hr3:=zh.below hb3 zh.lt;have hd3:=hdD.below hb3;have z2:=hk3.cell 2 _ rfl;have z0:=hr3.cell 0 _ rfl;have z1:=hr3.cell 1 _ rfl;have z3:=hr3.cell 2 _ rfl;have z4:=hr3.cell 3 _ rfl;have z5:=hr3.cell 4 _ rfl)))
  all_goals
    go_wp2_with (first
      | (go_at_call 20;refine (hwI _).mono ?_;rintro en w4 ⟨rfl,hb4⟩;have hk4:=hk3.below hb4 hk3.lt;have hd4:=hd3.below hb4;clear z0 z1 z2 z3 z4 z5;have z2:=hk4.cell 2 _ rfl;have f2:=hk4.free 2;have hd5:=hd4.own (cZ (K:=Z) (eO (yag _ _)) d.XB 2 (.int .i64 ((xn:Int)+1)) hz);have hk5:Cl (w4.setCell ⟨d.XB,2,none⟩ (.int .i64 ((xn:Int)+1))) d.XB (rZ d (xn+1)):=(by unfold rZ;rw [hm.out];exact hk4.set 2 (.int .i64 ((xn:Int)+1)) (by show 2<3;decide));have hp1:=QT (x:=head%256) (y:=head/256%256) hd5 hk5 hz ⟨Uw _,Uw _⟩ hl1;rw [show (w4.setCell ⟨d.XB,2,none⟩ (.int .i64 ((xn:Int)+1))).heap.size=w4.heap.size from by simp] at hp1;have bP:Dw.Mv (fun b=>b=d.XB∨ ¬Z b) w4 (w4.setCell ⟨d.XB,2,none⟩ (.int .i64 ((xn:Int)+1))):=cZ (eO (yag _ _)) d.XB 2 _ (.inl rfl))
      | (go_at_call 36;refine hp1.mono ?_;rintro en w6 ⟨rfl,hd6,Nu,hm6⟩;have M0:=(yag w6.heap.size w6).drew;have aay:=hd6.below M0;have TH:=Nu.below M0 Nu.lt;clear z2 f2;have z6:w6.cell? ⟨d.XB,2,none⟩=some (.int .i64 ((xn:Int)+1)):=hm.out▸Nu.cell 2 _ rfl;have z2:w6.drew.cell? ⟨d.XB,2,none⟩=some (.int .i64 ((xn:Int)+1)):=hm.out▸TH.cell 2 _ rfl)
      | go_in)
    go_region_held3 (fun w'=>w'.cell? ⟨d.XB,2,none⟩=some (.int .i64 ((xn:Int)+1))) (go_keep)
      ((first
        | (go_at_call 36;refine (QT aay TH hz ⟨u8_in _,u8_in _⟩ hl2).mono ?_;rintro en w7 ⟨rfl,hd7,Bo,rA⟩;have z7:w7.cell? ⟨d.XB,2,none⟩=some (.int .i64 ((xn:Int)+1)):=hm.out▸Bo.cell 2 _ rfl)))
    all_goals
      go_wp2_with fail;go_end0;refine ⟨rfl,_,hd7,Bo,?_⟩;have g1:Dw.Mv (fun b=>b=d.XB∨ ¬Z b) w w4:=eO (((iC.trans (hbD.mono iC.size)).trans (hb3.mono (by have:=iC.size;exact this))).trans (hb4.mono (by have:=iC.size;have:=hb3.size;simp at this;simp;omega)));exact (((g1.trans bP).trans (hm6.mono fun b q=> .inr q)).trans (eO M0)).trans (rA.mono fun b q=> .inr q)
end
end Go.Proofs
namespace Go.Proofs
open Go.Dw Go.RowKit Go.Maps Go.Sort Go.Deep
set_option maxRecDepth 100000 in
theorem Tryz.zBI {W0 w:World} {tot:Nat} {d:gB} {r:Rg} {av:Value} {j x20:Nat} {E:Int} {c:Ac} {xn:Nat} {s:SS} {g:Nat→Int} {tm:Array Value} (hf:Rf r tot d av j E x20 tm) (jJ:tm.getD 104 undef= .int .i64 4) (hw:Rw W0 d r x20 c xn w s g s g (jg 0 0 0) (jg 0 0 0)) (hI:gD s j) (hxn:xn≤j) (hj:j<60) (hco:c.ok w) (hrt:r.d+tot≤((20000:Nat):Int)∧10≤tot):
    (bf prog [1,0,1,1,0,0,1,0,0,1,0,1,1,1,1,1,1,1,1,1,1,1,5]).wp prog (yh W0 tot d r av j x20 c) ⟨tm,[]⟩ w:=by
  have hal:=hf.sz;obtain ⟨jf,fP⟩:=Aa (t:=tm) hf.sz hf.t0 hf.t2 hf.t7 hf.t8 hf.t10 hf.t12 hf.t14 hf.t15 hf.t16 hf.t17 hf.t18 hf.t19 hf.t20 hf.t21 hf.t22 jJ;rw [fP];clear fP hal hf jJ;obtain ⟨_,_,fQ,_,_⟩:=hw.duo.facts;have hd0:=fQ.d0;have x1:=hw.act.cell 1 _ rfl;have x2:=hw.act.cell 2 _ rfl;have x7:=hw.x7.cell 2 _ rfl;have e1:IntKind.wrap .i64 (tot:Int)=tot:=gV (by omega) (by omega);obtain ⟨m,hm,hm2⟩: ∃m:Int,IntKind.wrap .i64 ((tot:Int)-4)=m∧m=(tot:Int)-4:=⟨_,rfl,gV (by omega) (by omega)⟩;obtain ⟨q,hq,hq2⟩: ∃q:Nat,c.n%m=q∧(q:Int)<m:=by
    have h0:0≤c.n%m:=ybo _ (by omega);have h1:c.n%m<m:=ybg _ (by omega);exact ⟨(c.n%m).toNat,by omega,by omega⟩
  have e3:IntKind.wrap .u64 (q:Int)=q:=wrap_u64 _ (by omega) (by omega);obtain ⟨a,ha,ha2⟩: ∃a:Nat,(a:Int)=r.d+(q:Int)∧a+2≤20000:=⟨(r.d+(q:Int)).toNat,by omega,by omega⟩;have e4:IntKind.wrap .u64 (r.d+(q:Int))=(a:Int):=by rw [wrap_u64 _ (by omega) (by omega)];omega
  have hpk:=fun w'=>Cf c.n m (by omega) w';rw [hq] at hpk;clear hq2 ha hm2 hq hrt hd0 fQ hco;have hwd:=hw.below ((yag w.heap.size w).drew);refine kF (c':=(aD 1 (aD 0 (aD 1 (aD 1 (aD 0 (aD 0 (aD 1 (aD 0 (aD 0 (aD 1 (aD 0 (aD 1 (aD 1 (aD 1 (aD 1 (aD 1 (aD 1 (aD 1 (aD 1 (aD 1 (aD 1 (aD 1 (match (f5).body with|some c=>c|none=> .skip)))))))))))))))))))))))) (by kernel_rfl) ?_
  dsimp only [f5,aD]
  go_wp2_with fail;go_region_held3 (fun w'=>w'.cell? ⟨x20,1,none⟩=some (.int .i64 c.n)∧w'.cell? ⟨x20,2,none⟩=some (.int .u32 c.v)∧w'.cell? ⟨d.X7,2,none⟩=some (.int .u64 r.d)) (go_keep)
    ((first
      | (go_at_call 7;refine (hpk _).mono ?_;rintro en w3 ⟨rfl,hw3⟩;have hw3:=hw3.symm;subst hw3)
      | (go_at_call 36;refine (QT hwd.duo hwd.xb (.inr (.inr (.inl rfl))) ⟨u8_in _,u8_in _⟩ ha2).mono ?_;rintro en w2 ⟨rfl,hd2,hk2,hm2⟩;have hr2:=hwd.turn hd2 hm2;have y1:=hr2.act.cell 1 _ rfl;have y2:=hr2.act.cell 2 _ rfl;have y7:=hr2.x7.cell 2 _ rfl)))
  all_goals (go_wp2_with fail)
  all_goals exact ⟨rfl,xn,_,s,_,0,0,0,⟨rfl,rfl,rfl,rfl,rfl,rfl,rfl,rfl,rfl,rfl,rfl,rfl,rfl,rfl,rfl,rfl⟩,hr2,hI.up,by omega⟩
set_option maxRecDepth 100000 in
theorem Tryz.zBH {W0 w:World} {tot:Nat} {d:gB} {r:Rg} {av:Value} {j x20:Nat} {E:Int} {c:Ac} {xn:Nat} {s:SS} {g:Nat→Int} {tm:Array Value} (hf:Rf r tot d av j E x20 tm) (jJ:tm.getD 104 undef= .int .i64 5) (hw:Rw W0 d r x20 c xn w s g s g (jg 0 0 0) (jg 0 0 0)) (hI:gD s j) (hxn:xn≤j) (hj:j<60) (hx:d.X7<d.XB∧d.XB<x20∧W0.heap.size≤d.XB) (hco:c.ok w):
    (bf prog [1,0,1,1,0,0,1,0,0,1,0,1,1,1,1,1,1,1,1,1,1,1,5]).wp prog (yh W0 tot d r av j x20 c) ⟨tm,[]⟩ w:=by
  have hal:=hf.sz;obtain ⟨jf,fP⟩:=Aa (t:=tm) hf.sz hf.t0 hf.t2 hf.t7 hf.t8 hf.t10 hf.t12 hf.t14 hf.t15 hf.t16 hf.t17 hf.t18 hf.t19 hf.t20 hf.t21 hf.t22 jJ;rw [fP];clear fP hal hf jJ;obtain ⟨_,_,fQ,hfit,_⟩:=hw.duo.facts;have hd0:=fQ.d0;have hn:=fQ.bnd;have x1:=hw.act.cell 1 _ rfl;obtain ⟨q,hq,hq2⟩: ∃q:Nat,c.n%r.n=q∧(q:Int)<r.n:=by
    have h0:0≤c.n%r.n:=ybo _ (by omega);have h1:c.n%r.n<r.n:=ybg _ (by omega);exact ⟨(c.n%r.n).toNat,by omega,by omega⟩
  have e1:IntKind.wrap .u64 (q:Int)=q:=wrap_u64 _ (by omega) (by omega);have e2:IntKind.wrap .u64 (16*(q:Int))=16*q:=wrap_u64 _ (by omega) (by omega);obtain ⟨a,ha,ha2⟩: ∃a:Nat,(a:Int)=r.d+16*(q:Int)∧a+16≤20000:=⟨(r.d+16*(q:Int)).toNat,by omega,by omega⟩;have e3:IntKind.wrap .u64 (r.d+16*(q:Int))=(a:Int):=by rw [wrap_u64 _ (by omega) (by omega)];omega
  have hpk:=fun w'=>Cf c.n r.n (by omega) w';rw [hq] at hpk;have Ea:xn≤1000:=by omega
  clear hq2 ha hq hfit hd0 hn;have hwd:=hw.below ((yag w.heap.size w).drew);have y3:=hwd.act.cell 3 _ rfl;have y4:=hwd.act.cell 4 _ rfl;have y5:=hwd.act.cell 5 _ rfl;have y6:=hwd.act.cell 6 _ rfl;have y7:=hwd.x7.cell 2 _ rfl;have hby:=fun w'=>zlz ⟨0,c.a,c.l,c.f,c.x⟩ ⟨hco.a,hco.l,hco.f,hco.x⟩ w';have hx16:=Pt.Sl ⟨0,c.a,c.l,c.f,c.x⟩;have hbb:=Pt.Sk ⟨0,c.a,c.l,c.f,c.x⟩;obtain ⟨xs,hxs⟩: ∃xs,xs=Pt.bytes ⟨0,c.a,c.l,c.f,c.x⟩:=⟨_,rfl⟩;rw [←hxs] at hby hx16 hbb;clear hxs hco;refine kF (c':=(aD 1 (aD 0 (aD 1 (aD 1 (aD 0 (aD 0 (aD 1 (aD 0 (aD 0 (aD 1 (aD 0 (aD 1 (aD 1 (aD 1 (aD 1 (aD 1 (aD 1 (aD 1 (aD 1 (aD 1 (aD 1 (aD 1 (match (f5).body with|some c=>c|none=> .skip)))))))))))))))))))))))) (by kernel_rfl) ?_
  dsimp only [f5,aD]
  go_wp2_with (first
    | (go_at_call 7;refine (hpk _).mono ?_;rintro en w3 ⟨rfl,hw3⟩;have hw3:=hw3.symm;subst hw3)
    | go_in)
  go_region_held3 (fun w'=>w'.cell? ⟨d.X7,2,none⟩=some (.int .u64 r.d)∧w'.cell? ⟨x20,3,none⟩=some (.int .u64 c.a)∧w'.cell? ⟨x20,4,none⟩=some (.int .u32 c.l)∧w'.cell? ⟨x20,5,none⟩=some (.int .u16 c.f)∧w'.cell? ⟨x20,6,none⟩=some (.int .u16 c.x)) (go_keep)
    ((first
      | (go_at_call 37;refine (hby _).mono ?_;rintro en w6 ⟨u,rfl,D7,hb6⟩;have rD:=hwd.below hb6;have hD6:=hwd.duo.more hb6 (Z':=fun b=>ng W0.heap.size d x20 b∨u.ownBlock=some b) (fun b q=>q.imp id (fun e=>aG.lt D7 b e));have z3:=rD.act.cell 3 _ rfl;have z4:=rD.act.cell 4 _ rfl;have z5:=rD.act.cell 5 _ rfl;have z6:=rD.act.cell 6 _ rfl;have z7:=rD.x7.cell 2 _ rfl)
      | (go_at_call 36;refine (Rz hD6 rD.xb (.inl (.inr (.inr (.inl rfl)))) D7 (fun b e=> .inr e) ⟨by omega,by omega⟩ hbb (by omega)).mono ?_;rintro en w8 ⟨rfl,Hf,iy⟩;have nu:=rD.Vb (fun b q=> .inl q) Hf iy;have v3:=nu.act.cell 3 _ rfl;have v4:=nu.act.cell 4 _ rfl;have v5:=nu.act.cell 5 _ rfl;have v6:=nu.act.cell 6 _ rfl;have v7:=nu.x7.cell 2 _ rfl)))
  all_goals
    have v0:=nu.x7.cell 0 _ rfl;have v1:=nu.x7.cell 1 _ rfl;have v9:=nu.x7.cell 3 _ rfl;have v10:=nu.x7.cell 4 _ rfl;have D6:=YT nu.duo nu.xb (.inr (.inr (.inl rfl))) Ea q;unfold Rg.val at D6;go_wp2_with (first
      | (go_at_call 38;refine D6.mono ?_;rintro en w9 ⟨rfl,g',DL,Nv,jV⟩;have wY:=nu.U8 (fun b q=>q) hx DL Nv jV)
      | go_in)
    exact ⟨rfl,xn+1,_,s,g',0,0,0,⟨rfl,rfl,rfl,rfl,rfl,rfl,rfl,rfl,rfl,rfl,rfl,rfl,rfl,rfl,rfl,rfl⟩,wY,hI.up,by omega⟩
structure Tryz.Hid (p:Prop):Prop where
 out:p
set_option maxRecDepth 100000 in
theorem Tryz.zq1 {w:World} {I o n c:Nat} {sv:Value} {f:Nat→Int} (hcell:Hid (∀w',Below w.heap.size w w'→ ∀k<n,w'.cell? ⟨I,o+k,none⟩=some (.int .i64 (f k)))) (hin:Hid (∀k<n,0≤f k∧f k<32768)) (hnd:Hid (¬ ∀p q,p<q→q<n→f p≠f q)) (hln:n≤60000) {sa:Option Addr} {cs:Nat} (hsv:sv= .slice sa n cs)
    (hmay:Calls prog 50 #[sv] w fun e w'=>e= .returned (.int .i64 0)∧Below w.heap.size w w'):
    Calls prog 39 #[.slice (some ⟨I,o,none⟩) n c,sv] w fun e w'=>e= .returned (.tuple #[.slice none 0 0,.int .i64 2])∧Below w.heap.size w w':=by
  subst hsv;go_enter func39,ntmps39;go_wp2_with (first
    | (go_at_call 50;refine hmay.mono ?_;rintro e w1 ⟨rfl,hb1⟩)
    | go_in)
  go_loopw [7] (fun x wr=>Below w.heap.size w wr∧ ∃i:Nat,i≤n∧x= .int .i64 i∧Hid (∀p q,p<q→q<i→f p≠f q)) (fun x _=>n-(RowKit.intOf x).toNat)
  case atStart=>exact ⟨hb1,0,yax _,rfl,⟨fun p q h1 h2=>absurd h2 (by omega)⟩⟩
  case round=>
    obtain ⟨hbr,i,hi,rfl,hall⟩:=hrel;by_cases hin2:i<n
    · have hi':(i:Int)<n:=by omega
      have ci:=hcell.out _ hbr i hin2;have hii:=hin.out i hin2;obtain ⟨y,hy⟩: ∃y,y=f i:=⟨_,rfl⟩;rw [←hy] at ci hii;have h1: ¬y<0:=by omega
      have h2: ¬32768≤y:=by omega
      clear hii;go_wp2_with fail;go_loopw [8] (fun x wr2=>Below w.heap.size w wr2∧ ∃k:Nat,k≤i∧x= .int .i64 k∧Hid (∀p,p<k→f p≠y)) (fun x _=>i-(RowKit.intOf x).toNat)
      case atStart=>exact ⟨hbr,0,yax _,rfl,⟨fun p h1=>absurd h1 (by omega)⟩⟩
      case round=>
        clear hbr ci;obtain ⟨hbr,k,hk,rfl,Tf⟩:=hrel;by_cases hki:k<i
        · have aaK:(k:Int)<i:=by omega
          have ck:=hcell.out _ hbr k (by omega);have ci:=hcell.out _ hbr i (by omega);rw [←hy] at ci;have hkn:(k:Int)<n:=by omega
          generalize hx:f k=x at ck;by_cases he:x=y
          · rw [he] at ck;clear he hx;go_wp2_with fail;go_region
            all_goals
              go_wp2_with fail;go_ret2;exact ⟨rfl,hbr.drew⟩
          · have he2:(x==y)=false:=by simpa using he
            go_wp2_with fail;go_region
            all_goals
              go_wp2_with fail;refine ⟨⟨hbr.drew,k+1,by omega,by push_cast;rfl,⟨fun p hlt=> ?_⟩⟩,by simp only [RowKit.intOf];omega⟩;by_cases hpk:p=k
              · subst hpk;rw [hx];exact he
              · exact Tf.out p (by omega)
        · have aaK: ¬(k:Int)<i:=by omega
          go_wp2_with fail;refine ⟨⟨hbr,i+1,by omega,by push_cast;rfl,⟨fun p q h1 h2=> ?_⟩⟩,by simp only [RowKit.intOf];omega⟩;by_cases hqi:q=i
          · subst hqi;rw [←hy];exact Tf.out p (by omega)
          · exact hall.out p q h1 (by omega)
    · exact absurd (fun p q h1 h2=>hall.out p q h1 (by omega)) hnd.out
theorem Tryz.zu7 {A:Nat→Prop} {w:World} {ia:Option Addr} {c:Nat} {v:Value} {ids:List Int} {l:List Sg} (h:aL A w v l) (hl:l.length≤60000) (hil:ids.length=l.length) (hnd: ¬ids.Nodup) (hin: ∀x∈ids,0≤x∧x<32768)
  (jK:ids= []∨ ∃I o,ia=some ⟨I,o,none⟩∧w.rangeAt I o (bg ids)) (hm:lT l=0):
  Calls prog 39 #[.slice ia ids.length c,v] w fun e w'=>e= .returned (.tuple #[.slice none 0 0,.int .i64 2])∧Below w.heap.size w w':=by
 have hmay:=KT h hl;rw [hm] at hmay;obtain ⟨sa,cs,rfl,hok,hr⟩:=h;rcases jK with jK|⟨I,o,rfl,jK⟩
 ·rw [jK] at hnd;exact absurd ycB hnd
 have hf: ∀k (hk:k<ids.length),ids.getD k 0=ids[k]:=fun k hk=>by rw [yaD,yam hk];rfl
 refine zq1 (f:=fun k=>ids.getD k 0) ⟨fun w' hb k hk=> ?_⟩ ⟨fun k hk=> ?_⟩ ⟨fun hh=>hnd ?_⟩ (by omega) (by rw [hil]) hmay
 ·have h1:=zR jK k hk 0 _ rfl;rw [ya7,Nat.one_mul] at h1;show _=some (Value.int .i64 (ids.getD k 0));rw [hf k hk];exact (hb.cell (p:=⟨I,o+k,none⟩) (Jb jK hk)).trans h1
 ·show 0≤ids.getD k 0∧ids.getD k 0<32768;rw [hf k hk];exact hin _ (yaL _)
 ·refine ybK.2 fun p q hp hq hpq=> ?_;have:=hh p q hpq hq;have this:ids.getD p 0≠ids.getD q 0:=this
  rwa [hf p hp,hf q hq] at this
set_option maxRecDepth 100000 in
theorem Tryz.zu6 {A:Nat→Prop} {w:World} {iv v:Value} {l:List Sg} (h:aL A w v l) (hl:l.length≤60000) (hm:lT l≠0):
    Calls prog 39 #[iv,v] w fun e w'=>e= .returned (.tuple #[.slice none 0 0,.int .i64 (lT l)])∧Below w.heap.size w w':=by
  have hmay:=KT h hl;generalize lT l=er at hmay hm;have hm2:(er !=0)=true:=by simpa using hm
  obtain ⟨sa,cs,rfl,hok,hr⟩:=h;go_enter func39,ntmps39;go_wp2_with (first
    | (go_at_call 50;refine hmay.mono ?_;rintro e w1 ⟨rfl,hb1⟩)
    | go_in)
  go_ret2;exact ⟨rfl,hb1⟩
def Tryz.mW (q n:Int) (k:Nat):List Int:=(List.range k).map fun i:Nat=>(q+(i:Int))%n
theorem Tryz.E5 (q n:Int) (k:Nat):(mW q n k).length=k:=by simp [mW]
theorem Tryz.zvC (q n:Int) (k:Nat):mW q n (k+1)=mW q n k++ [(q+(k:Int))%n]:=by simp [mW,ydH]
theorem Tryz.zBj {q n:Int} {k:Nat} (hn:0<n): ∀x∈mW q n k,0≤x∧x<n:=fun x hx=>by
 unfold mW at hx;obtain ⟨i,_,rfl⟩:=ya6.1 hx;exact ⟨ybo _ (by omega),ybg _ hn⟩
theorem Tryz.lW.nil (w:World) (b2:Nat):lW w b2 (.slice none 0 0) []:=aG.nil _ _ _ _
theorem Tryz.zu9 {A:Nat→Prop} {w:World} {b2:Nat} {iv v:Value} {ids:List Int} {l:List Sg} {n:Int} (h:aL A w v l) (hl:l.length≤100) (hil:ids.length=l.length) (hin: ∀x∈ids,0≤x∧x<n) (hn:n≤32768) (hiv:aG 3 1 w b2 iv ids.length (bg ids)):
  Calls prog 39 #[iv,v] w fun e w'=> ∃(u:Value) (er:Int) (ps:List Pt),e= .returned (.tuple #[u,.int .i64 er])∧lW w' w.heap.size u ps∧(∀p∈ps,p.ok∧0≤p.aR∧p.aR<n)∧ps.length≤100∧(er=0→0<l.length)∧Below w.heap.size w w':=by
 obtain ⟨ia,c,rfl,jK⟩:=aG.row hiv;have jK:ids= []∨ ∃I o,ia=some ⟨I,o,none⟩∧w.rangeAt I o (bg ids):=by
  rcases jK with q|⟨G,rfl,_,q⟩
  ·exact .inl (by simpa [bg] using q)
  ·exact .inr ⟨G,0,rfl,q⟩
 have hin2: ∀x∈ids,0≤x∧x<32768:=fun x hx=>⟨(hin x hx).1,by have:=(hin x hx).2;omega⟩;have hok: ∀x∈l,x.ok:=by obtain ⟨_,_,_,q,_⟩:=h;exact q
 by_cases hm:lT l=0
 ·have h0:0<l.length:=by
   unfold lT at hm;split at hm
   ·cases hm
   ·rename_i hh;rcases ybk l.length with e|e
    ·exact absurd ⟨hm,e⟩ hh
    ·exact e
  by_cases hnd:ids.Nodup
  ·refine (zu8 h (by omega) hil hnd hin2 jK).mono ?_;rintro e w' ⟨hb,⟨_,u,rfl,hu⟩|⟨q,_⟩⟩
   ·exact ⟨u,0,_,rfl,hu,zxw hil hok hin,by rw [EL];exact hl,fun _=>h0,hb⟩
   ·exact absurd hm q
  ·refine (zu7 h (by omega) hil hnd hin2 jK hm).mono ?_;rintro e w' ⟨rfl,hb⟩;exact ⟨_,2,[],rfl,lW.nil _ _,fun p hp=>(by cases hp),yax _,fun q=>(by cases q),hb⟩
 ·have hnd:l.length=0∨0<l.length:=by omega
  refine yas (?_:Calls _ _ _ _ fun e w'=>e= .returned (.tuple #[.slice none 0 0,.int .i64 (lT l)])∧Below w.heap.size w w') fun e w' hh=>⟨_,_,[],hh.1,lW.nil _ _,fun p hp=>(by cases hp),yax _,fun q=>absurd q hm,hh.2⟩;exact zu6 h (by omega) hm
set_option maxRecDepth 100000 in
theorem Tryz.zBG {W0 w:World} {tot:Nat} {d:gB} {r:Rg} {av:Value} {j x20:Nat} {E:Int} {c:Ac} {xn:Nat} {s:SS} {g:Nat→Int} {tm:Array Value} (hf:Rf r tot d av j E x20 tm) (jJ:tm.getD 104 undef= .int .i64 6) (hw:Rw W0 d r x20 c xn w s g s g (jg 0 0 0) (jg 0 0 0)) (hI:gD s j) (hxn:xn≤j) (hj:j<60) (hx:d.X7<d.XB∧d.XB<x20∧W0.heap.size≤d.XB) (hco:c.ok w) (hsl:c.sl.length≤100):
    (bf prog [1,0,1,1,0,0,1,0,0,1,0,1,1,1,1,1,1,1,1,1,1,1,5]).wp prog (yh W0 tot d r av j x20 c) ⟨tm,[]⟩ w:=by
  have hal:=hf.sz;obtain ⟨jf,fP⟩:=Aa (t:=tm) hf.sz hf.t0 hf.t2 hf.t7 hf.t8 hf.t10 hf.t12 hf.t14 hf.t15 hf.t16 hf.t17 hf.t18 hf.t19 hf.t20 hf.t21 hf.t22 jJ;rw [fP];clear fP hal hf jJ;obtain ⟨_,_,fQ,hfit,_⟩:=hw.duo.facts;have hd0:=fQ.d0;have hn:=fQ.bnd;have x1:=hw.act.cell 1 _ rfl;have x7:=hw.act.cell 7 _ rfl;obtain ⟨sa,cs,Uh,hok,hsr⟩:=hco.sv;rw [Uh] at x7;have Ue: ∀w',Below w.heap.size w w'→aL (fun _=>False) w' (.slice sa c.sl.length cs) c.sl:=fun w' hb=>aL.below ⟨sa,cs,rfl,hok,hsr⟩ hb;obtain ⟨q,hq,hq2⟩: ∃q:Nat,c.n%r.n=q∧(q:Int)<r.n:=by
    have h0:0≤c.n%r.n:=ybo _ (by omega);have h1:c.n%r.n<r.n:=ybg _ (by omega);exact ⟨(c.n%r.n).toNat,by omega,by omega⟩
  have hpk:=fun w'=>Cf c.n r.n (by omega) w';rw [hq] at hpk;have Ea:xn≤1000:=by omega
  obtain ⟨ii,hii,hi1,hi2,hi3⟩:=ybl Ja;have hsplit: ∀(w':World) (b2:Nat) (iv:Value),Below w.heap.size w w'→aG 3 1 w' b2 iv c.sl.length (bg (mW q r.n c.sl.length))→Calls prog 39 #[iv,.slice sa c.sl.length cs] w' fun e w2=> ∃(u:Value) (er:Int) (ps:List Pt),e= .returned (.tuple #[u,.int .i64 er])∧lW w2 w'.heap.size u ps∧(∀p∈ps,p.ok∧0≤p.aR∧p.aR<r.n)∧ps.length≤100∧(er=0→0<c.sl.length)∧Below w'.heap.size w' w2:=fun w' b2 iv hb hiv=>zu9 (ids:=mW q r.n c.sl.length) (Ue w' hb) hsl (E5 _ _ _) (zBj (by omega)) hn.2 (by rw [E5];exact hiv);clear hq hco hok hsr Uh Ue;refine kF (c':=(aD 1 (aD 0 (aD 1 (aD 1 (aD 0 (aD 0 (aD 1 (aD 0 (aD 0 (aD 1 (aD 0 (aD 1 (aD 1 (aD 1 (aD 1 (aD 1 (aD 1 (aD 1 (aD 1 (aD 1 (aD 1 (aD 1 (match (f5).body with|some c=>c|none=> .skip)))))))))))))))))))))))) (by kernel_rfl) ?_
  dsimp only [f5,aD]
  go_wp2_with fail;go_loopw [24,25] (fun tv kv wr=> ∃k:Nat,k≤c.sl.length∧kv= .int .i64 k∧aG 3 1 wr w.heap.size tv k (bg (mW q r.n k))∧Below w.heap.size w wr) (fun _ kv _=>c.sl.length-(RowKit.intOf kv).toNat)
  case atStart=>exact ⟨0,yax _,rfl,aG.nil _ _ _ _,yag _ _⟩
  case round=>
    obtain ⟨k,hk,rfl,hrow,hbr⟩:=hrel;have hRr:=hw.below hbr;have z1:=hRr.act.cell 1 _ rfl;have z7:=(hbr.cell (p:=⟨x20,7,none⟩) hw.act.lt).trans x7;by_cases hkl:k<c.sl.length
    · have hkl':(k:Int)<c.sl.length:=by omega
      have e1:IntKind.wrap .i64 ((q:Int)+(k:Int))=(q:Int)+k:=gV (by omega) (by omega);obtain ⟨y,hy,hy2⟩: ∃y:Int,((q:Int)+k)%r.n=y∧(0≤y∧y<r.n):=⟨_,rfl,ybo _ (by omega),ybg _ (by omega)⟩;have e2:((q:Int)+k).tmod r.n=y:=by rw [ybs (by omega)];exact hy
      have e3:IntKind.wrap .i64 y=y:=gV (by omega) (by omega);have hone:=hrow.one;obtain ⟨su,cu,rfl,_⟩:=aG.row hrow;have hbx:=(yag wr.heap.size wr).alloc (yab _) (Obj.cells #[.int .i64 y] 3);have hrow2:=aG.keep hrow hbx;go_wp2_with (first
        | (go_at_call 7;refine (hpk _).mono ?_;rintro en w3 ⟨rfl,hw3⟩;have hw3:=hw3.symm;subst hw3)
        | (at_builtin;go_loud (refine ya4 _ rfl _ _ 35 rfl w.heap.size 3 ii _ 1 8 (by kernel_rfl) hii hi1 hi2 hi3 rfl (by decide) (.slice su k cu) k (bg (mW q r.n k)) rfl hrow2 ⟨wr.heap.size,0,none⟩ 1 1 [.int .i64 y] rfl rfl (fun j u hu=>by rw [yck];exact (Cl.new wr _ _).cell (0+j) u (by rw [yaq];exact hu)) (fun u hu=>by simp only [yac,yae,yav] at hu;rw [hu];rfl) (by unfold maxLen;omega) (by omega) (by have:=hbr.size;simp;omega) ?_);intro v' w3 hown3 hg3 hnil3 Hr;go_frame)
        | go_in)
      have hs3:=hg3.size;have hsr:=hbr.size;simp only [jB] at hs3;refine ⟨⟨k+1,by omega,by push_cast;rfl,?_,⟨hg3.os.trans hbr.os,hg3.tape.trans hbr.tape,hg3.output.trans hbr.output,by omega,fun b hb=> ?_⟩⟩,by simp only [RowKit.intOf];omega⟩
      · have e5:bg (mW q r.n (k+1))=bg (mW q r.n k)++ [.int .i64 y]:=by rw [zvC,hy];simp [bg]
        rw [e5];exact hown3
      · have hown:=aG.lt hrow;exact ((hg3.block b (by simp only [jB];omega) (fun e=>by have:=(hown b e.symm).1;omega)).trans (hbx.block b (by omega))).trans (hbr.block b hb)
    · have hkl': ¬(k:Int)<c.sl.length:=by omega
      have aaL:k=c.sl.length:=by omega
      subst aaL;clear hk hkl;obtain ⟨OD,Mi,rfl,aaD⟩:=aG.row hrow;go_wp2_with (first
        | (go_at_call 39;refine (hsplit _ _ _ hbr hrow).mono ?_;rintro en w4 ⟨u,er,ps,rfl,hu,hps,hpl,her,hb4⟩;obtain ⟨su,cu,rfl,_⟩:=aG.row hu)
        | go_in)
      have hsr:=hbr.size;have MX:=hbr.trans (hb4.mono hsr);have A8:=hw.below MX;have hrow4:=aG.keep hrow hb4;have xg:lW w4 w.heap.size (.slice su ps.length cu) ps:=aG.mono hu hsr;obtain ⟨Z,hZ,hZu,Hl⟩: ∃Z:Nat→Prop,(∀b,ng W0.heap.size d x20 b→Z b)∧(∀b,(Value.slice su ps.length cu).ownBlock=some b→Z b)∧(∀b,(Value.slice OD c.sl.length Mi).ownBlock=some b→Z b)∧Duo W0.heap.size Z w4 d r s g s g:=by
        refine ⟨fun b=>ng W0.heap.size d x20 b∨(Value.slice su ps.length cu).ownBlock=some b∨(Value.slice OD c.sl.length Mi).ownBlock=some b,fun b q=> .inl q,fun b q=> .inr (.inl q),fun b q=> .inr (.inr q),hw.duo.more MX fun b q=>q.imp id fun e=>e.elim (fun e=>aG.lt xg b e) (fun e=>aG.lt hrow4 b e)⟩
      obtain ⟨Hl,hD4⟩:=Hl;have Du:d.XB<w.heap.size:=hw.xb.lt;clear hsplit aaD;go_loopw [28] (fun iv wr2=> ∃(i:Nat) (g':Nat→Int),i≤ps.length∧iv= .int .i64 i∧Rw W0 d r x20 c xn wr2 s g' s g' (jg 0 0 0) (jg 0 0 0)∧Duo W0.heap.size Z wr2 d r s g' s g'∧lW wr2 w.heap.size (.slice su ps.length cu) ps∧aG 3 1 wr2 w.heap.size (.slice OD c.sl.length Mi) c.sl.length (bg (mW q r.n c.sl.length))) (fun iv _=>ps.length-(RowKit.intOf iv).toNat)
      case atStart=>exact ⟨0,g,yax _,rfl,A8,hD4,xg,hrow4⟩
      case round=>
        obtain ⟨i,g',hi,rfl,hR,hD,hU,hO⟩:=hrel;clear A8 hD4 xg hrow4 z1 z7 hRr hrow hbr MX hb4 hu hsr hw;by_cases gX:i<ps.length
        · have Bn:(i:Int)<ps.length:=by omega
          have hpo:=hps ps[i] (yaL gX);obtain ⟨p,hp⟩: ∃p,p=ps[i]:=⟨_,rfl⟩;obtain ⟨_,_,Df,hrw⟩:=aG.row hU;cases Df;rcases hrw with hnil|⟨G,rfl,ho,hG⟩
          · have:=yaH List.length hnil;rw [WJ] at this;have h0:5*ps.length=0:=this;exact absurd gX (by omega)
          have hcells: ∀w',lW w' w.heap.size (.slice (some ⟨G,0,none⟩) ps.length cu) ps→w'.rangeAt G (i*5) p.cells:=fun w' MS=>by
            obtain ⟨_,_,Df,hrw⟩:=aG.row MS;cases Df;rcases hrw with hnil|⟨G',eq2,_,hG'⟩
            · have:=yaH List.length hnil;rw [WJ] at this;have h0:5*ps.length=0:=this;exact absurd gX (by omega)
            · cases eq2;have:=zAZ hG' i gX
              rwa [yaq,ybH 5 i,←hp] at this
          rw [←hp] at hpo;clear hp ho hG;have hat:=hpo.2;have e1:IntKind.wrap .u64 p.aR=p.aR:=wrap_u64 _ (by omega) (by omega);have e2:IntKind.wrap .u64 (16*p.aR)=16*p.aR:=wrap_u64 _ (by omega) (by omega);obtain ⟨a,ha,ha2⟩: ∃a:Nat,(a:Int)=r.d+16*p.aR∧a+16≤20000:=⟨(r.d+16*p.aR).toNat,by omega,by omega⟩;have e3:IntKind.wrap .u64 (r.d+16*p.aR)=(a:Int):=by rw [wrap_u64 _ (by omega) (by omega)];omega
          clear ha hat;have hbd:=(yag wr.heap.size wr).drew;have tC:=hR.below hbd;have AZ:=hD.below hbd;have Td:=aG.keep hU hbd;have hOd:=aG.keep hO hbd;have hF: ∀w',lW w' w.heap.size (.slice (some ⟨G,0,none⟩) ps.length cu) ps→w'.cell? ⟨G,i*5,none⟩=some (.int .i64 p.aR)∧w'.cell? ⟨G,i*5+1,none⟩=some (.int .u64 p.a)∧w'.cell? ⟨G,i*5+2,none⟩=some (.int .u32 p.ln)∧w'.cell? ⟨G,i*5+3,none⟩=some (.int .u16 p.f)∧w'.cell? ⟨G,i*5+4,none⟩=some (.int .u16 p.nx):=fun w' MS=>by
            have hp0:=hcells w' MS;exact ⟨hp0 0 _ rfl,hp0 1 _ rfl,hp0 2 _ rfl,hp0 3 _ rfl,hp0 4 _ rfl⟩
          have hby:=fun w'=>zlz p hpo.1 w';have hx16:=Pt.Sl p;have hbb:=Pt.Sk p;obtain ⟨xs,hxs⟩: ∃xs,xs=Pt.bytes p:=⟨_,rfl⟩;rw [←hxs] at hby hx16 hbb;clear hxs hcells;obtain ⟨y0,y1,y2,y3,y4⟩:=hF _ Td;have y7:=tC.x7.cell 2 _ rfl;go_wp2_with fail;go_region_held3 (fun w'=>w'.cell? ⟨d.X7,2,none⟩=some (.int .u64 r.d)∧w'.cell? ⟨G,i*5,none⟩=some (.int .i64 p.aR)∧w'.cell? ⟨G,i*5+1,none⟩=some (.int .u64 p.a)∧w'.cell? ⟨G,i*5+2,none⟩=some (.int .u32 p.ln)∧w'.cell? ⟨G,i*5+3,none⟩=some (.int .u16 p.f)∧w'.cell? ⟨G,i*5+4,none⟩=some (.int .u16 p.nx)) (go_keep)
            ((first
              | (go_at_call 37;refine (hby _).mono ?_;rintro en w6 ⟨u,rfl,D7,hb6⟩;have rD:=tC.below hb6;have hD6:=AZ.more hb6 (Z':=fun b=>Z b∨u.ownBlock=some b) (fun b q=>q.imp id (fun e=>aG.lt D7 b e));have MU:=aG.keep Td hb6;have Tc:=aG.keep hOd hb6;obtain ⟨z0,z1,z2,z3,z4⟩:=hF _ MU;have z7:=rD.x7.cell 2 _ rfl)
              | (go_at_call 36;refine (Rz hD6 rD.xb (.inl (hZ _ (.inr (.inr (.inl rfl))))) D7 (fun b e=> .inr e) ⟨by omega,by omega⟩ hbb (by omega)).mono ?_;rintro en w8 ⟨rfl,Hf,iy⟩;have nu:=rD.Vb (fun b q=> .inl (hZ b q)) Hf iy;have hU8:=aG.kept MU (fun b e=>iy.block b (aG.lt MU b e).2 (fun q=>q (.inl (hZu b e))));have hO8:=aG.kept Tc (fun b e=>iy.block b (aG.lt Tc b e).2 (fun q=>q (.inl (Hl b e))));obtain ⟨v0,v1,v2,v3,v4⟩:=hF _ hU8;have v7:=nu.x7.cell 2 _ rfl)))
          all_goals (go_wp2_with fail)
          all_goals exact ⟨⟨i+1,_,by omega,by push_cast;rfl,nu,Hf.set (fun b q=> .inl q),hU8,hO8⟩,by simp only [RowKit.intOf];omega⟩
        · have Bn: ¬(i:Int)<ps.length:=by omega
          by_cases Ng:er=0
          · have hl0:=her Ng;subst Ng;obtain ⟨_,_,Df,hrw⟩:=aG.row hO;cases Df;rcases hrw with hnil|⟨I,rfl,ho,hG⟩
            · have:=yaH List.length hnil;simp only [bg,ybw,E5,ybv] at this;exact absurd hl0 (by omega)
            have hbd:=(yag wr.heap.size wr).drew;have tC:=hR.below hbd;obtain ⟨y,hy⟩: ∃y:Int,(bg (mW q r.n c.sl.length))[0]? =some (.int .i64 y):=by
              refine ⟨(mW q r.n c.sl.length)[0]'(by rw [E5];exact hl0),?_⟩;unfold bg;rw [ya5,yam (by rw [E5];exact hl0)];rfl
            have hl0':(0:Int)<c.sl.length:=by omega
            have hc0:=hG 0 _ hy;have yS:I<wr.heap.size:=(aG.lt hO I ho).2;have hcd:wr.drew.cell? ⟨I,0,none⟩=some (.int .i64 y):=hc0;have hkeep: ∀w':World,w'.heap[I]? =wr.heap[I]? →w'.cell? ⟨I,0,none⟩=some (.int .i64 y):=fun w' e=>gL hG e 0 _ hy;have hIx: ¬(I=d.XB∨ ¬Z I):=fun e=>e.elim (fun e=>by have:=(aG.lt hO I ho).1;omega) fun e=>e (Hl I ho);have AZ:=hD.below hbd;clear hG hy ho hc0;have v0:=tC.x7.cell 0 _ rfl;have v1:=tC.x7.cell 1 _ rfl;have v2:=tC.x7.cell 2 _ rfl;have v3:=tC.x7.cell 3 _ rfl;have v4:=tC.x7.cell 4 _ rfl;have D6:=YT AZ tC.xb (hZ _ (.inr (.inr (.inl rfl)))) Ea y;unfold Rg.val at D6;go_wp2_with fail;go_region_held3 (fun w'=>w'.cell? ⟨d.X7,0,none⟩=some (.bool false)∧w'.cell? ⟨d.X7,1,none⟩=some (.int .i64 r.n)∧w'.cell? ⟨d.X7,2,none⟩=some (.int .u64 r.d)∧w'.cell? ⟨d.X7,3,none⟩=some (.int .u64 r.v)∧w'.cell? ⟨d.X7,4,none⟩=some (.int .u64 r.c)∧w'.cell? ⟨I,0,none⟩=some (.int .i64 y)) (go_keep)
              ((first
                | (go_at_call 38;refine D6.mono ?_;rintro en w9 ⟨rfl,g2,DL,Nv,jV⟩;have wY:=tC.U8 hZ hx DL Nv jV;have u5:=hkeep w9 (jV.block I yS hIx);have u0:=wY.x7.cell 0 _ rfl;have u1:=wY.x7.cell 1 _ rfl;have u2:=wY.x7.cell 2 _ rfl;have u3:=wY.x7.cell 3 _ rfl;have u4:=wY.x7.cell 4 _ rfl)))
            all_goals (go_wp2_with fail)
            all_goals exact ⟨rfl,xn+1,_,s,g2,0,0,0,⟨rfl,rfl,rfl,rfl,rfl,rfl,rfl,rfl,rfl,rfl,rfl,rfl,rfl,rfl,rfl,rfl⟩,wY,hI.up,by omega⟩
          · have abP:(er==0)=false:=by simpa using Ng
            go_wp2_with fail;exact ⟨rfl,xn,_,s,g',0,0,0,⟨rfl,rfl,rfl,rfl,rfl,rfl,rfl,rfl,rfl,rfl,rfl,rfl,rfl,rfl,rfl,rfl⟩,hR,hI.up,by omega⟩
structure Tryz.Rg0 (r:Rg) (tot:Nat) (d:gB) (av:Value) (j:Nat) (E:Int) (tm:Array Value):Prop where
 sz:tm.size=323
 t0:tm.getD 0 undef= .int .i64 r.n
 t2:tm.getD 2 undef=av
 t7:tm.getD 7 undef= .pointer (some ⟨d.X7,0,none⟩)
 t8:tm.getD 8 undef= .int .u64 tot
 t10:tm.getD 10 undef= .pointer (some ⟨d.P,0,none⟩)
 t12:tm.getD 12 undef= .pointer (some ⟨d.P2,0,none⟩)
 t14:tm.getD 14 undef= .pointer (some ⟨d.XB,0,none⟩)
 t15:tm.getD 15 undef= .pointer (some ⟨d.S,0,none⟩)
 t16:tm.getD 16 undef= .int .i64 E
 t17:tm.getD 17 undef= .pointer (some ⟨d.S2,0,none⟩)
 t18:tm.getD 18 undef= .int .i64 E
 t19:tm.getD 19 undef= .int .i64 j
structure Tryz.RI (w0:World) (tot:Nat) (d:gB) (r:Rg) (av:Value) (j:Nat) (a:Act) (w:World):Prop where
 df:a.defers= []
 ex: ∃(E:Int) (s:SS) (g:Nat→Int),Rg0 r tot d av j E a.tmps∧Duo w0.heap.size (fun b=>b<w0.heap.size∨b=d.X7∨b=d.XB) w d r s g s g∧gD s j
 xb: ∃xn:Nat,xn≤j∧Cl w d.XB (rZ d xn)
 x7:Cl w d.X7 r.cells
 old:Below w0.heap.size w0 w
set_option maxRecDepth 100000 in
theorem Tryz.zBF {w wr:World} {tot:Nat} {d:gB} {r:Rg} {aa:Option Addr} {ca:Nat} {acts:List Ac} {j:Nat} {a1:Act} (hr:RI w tot d r (.slice aa acts.length ca) j a1 wr) (hj:j≤acts.length) (hA:sN w (.slice aa acts.length ca) acts) (Dk:acts.length≤60∧ ∀x∈acts,x.sl.length≤100) (hd:d.ok w.heap.size) (fQ:RgOk r) (hrt:r.d+tot≤((20000:Nat):Int)∧10≤tot):
    (bf prog [0,0,1,0,1,1,1,1,1,1,1,1,1,1,1,5]).wp prog (fun ex a' w'=>match ex with| .normal=>RI w tot d r (.slice aa acts.length ca) (j+1) a' w'∧j<acts.length| .exit i=>i=0∧RI w tot d r (.slice aa acts.length ca) j a' w'|_=>False) a1 wr:=by
  obtain ⟨hdf,⟨E,s,g,hf,hD,hI⟩,⟨xn,hxn,rf⟩,hX,hold⟩:=hr;obtain ⟨tm,ds⟩:=a1;have hdf:ds= []:=hdf;subst hdf;obtain ⟨jf,fP⟩:=KN (t:=tm) hf.sz hf.t0 hf.t2 hf.t7 hf.t8 hf.t10 hf.t12 hf.t14 hf.t15 hf.t16 hf.t17 hf.t18 hf.t19 rfl rfl rfl;generalize tm.getD 20 undef=Oq at fP;generalize tm.getD 21 undef=Ot at fP;generalize tm.getD 22 undef=q22 at fP;rw [fP];clear fP hf;have G9:=hA.ok;have Bb:acts= []∨ ∃R o,aa=some ⟨R,o,none⟩∧ ∀(i:Nat) (hi:i<acts.length),w.rangeAt R (o+8*i) acts[i].cells:=by
    obtain ⟨aa',c',e,h⟩:=hA.val;cases e;exact h
  refine kF (c':=(aD 0 (aD 0 (aD 1 (aD 0 (aD 1 (aD 1 (aD 1 (aD 1 (aD 1 (aD 1 (aD 1 (aD 1 (aD 1 (aD 1 (aD 1 (match (f5).body with|some c=>c|none=> .skip))))))))))))))))) (by kernel_rfl) ?_
  dsimp only [f5,aD]
  by_cases hjl:j<acts.length
  · have aaF:(j:Int)<acts.length:=by omega
    obtain ⟨R,o,hra,hrow⟩: ∃R o,aa=some ⟨R,o,none⟩∧ ∀(i:Nat) (hi:i<acts.length),w.rangeAt R (o+8*i) acts[i].cells:=by
      rcases Bb with q|⟨R,o,q1,q2⟩
      · rw [q] at hjl;simp at hjl
      · exact ⟨R,o,q1,q2⟩
    have hco:=G9 acts[j] (yaL hjl);have SQ:=Dk.2 acts[j] (yaL hjl);have hcw:=hrow j hjl;have hRl:R<w.heap.size:=yan w _ (hcw 0 _ rfl);have hcr:=gL hcw (hold.block R hRl);obtain ⟨c,hc⟩: ∃c,c=acts[j]:=⟨_,rfl⟩;rw [←hc] at hco SQ hcr;rw [ybH 8 j] at hcr;obtain ⟨sa,cs,hsv,aa4,hsr⟩:=hco.sv;have a0:=hcr 0 _ rfl;have a1:=hcr 1 _ rfl;have a2:=hcr 2 _ rfl;have a3:=hcr 3 _ rfl;have a4:=hcr 4 _ rfl;have a5:=hcr 5 _ rfl;have a6:=hcr 6 _ rfl;have a7:=hcr 7 _ rfl;rw [hsv] at a7;simp only [ya7] at a0;have aam:c.sl.length≤100:=SQ;have hce:c.cells= [.int .i64 c.k,.int .i64 c.n,.int .u32 c.v,.int .u64 c.a,.int .u32 c.l,.int .u16 c.f,.int .u16 c.x,.slice sa c.sl.length cs]:=by unfold Ac.cells;rw [hsv]
    have wU:j<60:=yad hjl Dk.1;clear hc hcr hcw hrow Bb G9 hA hsv aa4 hsr;subst hra;go_upto_block 2 with (first
      | (go_at_call 7;refine (Cf c.k 7 (by decide) _).mono ?_;rintro e w3 ⟨rfl,rfl⟩)
      | go_in)
    have hbW:=(((yag wr.heap.size wr).alloc (yab _) (Obj.cells #[.int .i64 c.k,.int .i64 c.n,.int .u32 c.v,.int .u64 c.a,.int .u32 c.l,.int .u16 c.f,.int .u16 c.x,.slice sa c.sl.length cs] 76)).alloc (by simp) (Obj.cells #[.int .i64 0,.int .i64 0,.int .i64 0] 81)).alloc (by simp;omega) (Obj.cells #[.int .i64 0,.int .i64 0,.int .i64 0] 81);have abd:=hold.size;have hxl:=hX.lt;have hdn:=hd.ne.2.2.2.2.1.2;have hdb:=hd.ne.2.2.2.2.2.1.2;have ab0:=rf.lt;have wR:Rw w d r wr.heap.size c xn _ s g s g (jg 0 0 0) (jg 0 0 0):=⟨hD.more hbW (fun b q=>by
        rcases q with q|q|q|q|q|q
        · exact .inl (.inl q)
        · exact .inl (.inr (.inl q))
        · exact .inl (.inr (.inr q))
        · exact .inr (by simp;omega)
        · exact .inr (by simp;omega)
        · exact .inr (by simp;omega)),hX.below hbW hX.lt,rf.below hbW rf.lt,
      by rw [hce];exact ((Cl.new wr _ _).alloc _).alloc _,
      (Cl.new2 (by simp)).alloc _,Cl.new2 (by simp),hold.trans (hbW.mono hold.size)⟩
    have aax:=hco.sv.below (hold.trans (hbW.mono hold.size));refine kF (c':=bf prog [1,0,1,1,0,0,1,0,0,1,0,1,1,1,1,1,1,1,1,1,1,1,5]) (by kernel_rfl) ?_;refine ya3 (?_:Code.wp _ _ (yh w tot d r (.slice (some ⟨R,o,none⟩) acts.length ca) j wr.heap.size c) _ _) ?_
    · have hm:c.k%7=0∨c.k%7=1∨c.k%7=2∨c.k%7=3∨c.k%7=4∨c.k%7=5∨c.k%7=6:=by omega
      have hok:c.ok _:=⟨hco.k,hco.n,hco.v,hco.a,hco.l,hco.f,hco.x,aax,hco.sn⟩;rcases hm with h|h|h|h|h|h|h
      · exact zBM (E:=E) ⟨rfl,rfl,rfl,rfl,rfl,rfl,rfl,rfl,rfl,rfl,rfl,rfl,rfl,rfl,rfl,rfl⟩ (yaH (Value.int .i64) h) wR hI hxn wU
      · exact zBL (E:=E) ⟨rfl,rfl,rfl,rfl,rfl,rfl,rfl,rfl,rfl,rfl,rfl,rfl,rfl,rfl,rfl,rfl⟩ (yaH (Value.int .i64) h) wR hI hxn wU hco.v
      · exact zBK (E:=E) ⟨rfl,rfl,rfl,rfl,rfl,rfl,rfl,rfl,rfl,rfl,rfl,rfl,rfl,rfl,rfl,rfl⟩ (yaH (Value.int .i64) h) wR hI hxn wU ⟨by omega,by omega,by omega⟩ fQ
      · exact zBJ (E:=E) ⟨rfl,rfl,rfl,rfl,rfl,rfl,rfl,rfl,rfl,rfl,rfl,rfl,rfl,rfl,rfl,rfl⟩ (yaH (Value.int .i64) h) wR hI hxn wU ⟨by omega,by omega,by omega⟩ fQ
      · exact zBI (E:=E) ⟨rfl,rfl,rfl,rfl,rfl,rfl,rfl,rfl,rfl,rfl,rfl,rfl,rfl,rfl,rfl,rfl⟩ (yaH (Value.int .i64) h) wR hI hxn wU hok hrt
      · exact zBH (E:=E) ⟨rfl,rfl,rfl,rfl,rfl,rfl,rfl,rfl,rfl,rfl,rfl,rfl,rfl,rfl,rfl,rfl⟩ (yaH (Value.int .i64) h) wR hI hxn wU ⟨by omega,by omega,by omega⟩ hok
      · exact zBG (E:=E) ⟨rfl,rfl,rfl,rfl,rfl,rfl,rfl,rfl,rfl,rfl,rfl,rfl,rfl,rfl,rfl,rfl⟩ (yaH (Value.int .i64) h) wR hI hxn wU ⟨by omega,by omega,by omega⟩ hok aam
    · rename_i K1 hK1 K0 hK;intro ex a' w' hpost;cases ex with
      | normal=>
        obtain ⟨hds,IL,E',s',g',px,py,pz,hf',hw',hI',Ea⟩:=hpost;obtain ⟨tm',ds'⟩:=a';have hds:ds'= []:=hds;subst hds;refine hK _ _ (kF (c':=bf prog [1,1,1,0,0,1,0,0,1,0,1,1,1,1,1,1,1,1,1,1,1,5]) (by kernel_rfl) (ya3 (zEK hf' hw' hI' wU) ?_));intro ex2 a2 w2 wT;obtain ⟨rfl,Nc,hf2,hw2⟩:=wT;obtain ⟨U6,ds2⟩:=a2;have Nc:ds2= []:=Nc;subst Nc;obtain ⟨jf2,Nt⟩:=KN (t:=U6) hf2.sz hf2.t0 hf2.t2 hf2.t7 hf2.t8 hf2.t10 hf2.t12 hf2.t14 hf2.t15 hf2.t16 hf2.t17 hf2.t18 hf2.t19 hf2.t20 hf2.t21 hf2.t22;have Nt:U6=_:=Nt;rw [Nt];refine hK1 _ _ ?_;clear hK hK1 hbW wR;go_wp2_with fail;exact ⟨rfl,⟨E',s',g',⟨rfl,rfl,rfl,rfl,rfl,rfl,rfl,rfl,rfl,rfl,rfl,rfl,rfl⟩,hw2.duo.set (fun b q=>q.elim (fun q=> .inl q) (fun q=>q.elim (fun q=> .inr (.inl q)) (fun q=> .inr (.inr (.inl q))))),hI'⟩,⟨IL,Ea,hw2.xb⟩,hw2.x7,hw2.old⟩
      | _=>exact hpost.elim
  · have aaF: ¬(j:Int)<acts.length:=by omega
    go_wp2_with fail;exact ⟨rfl,⟨E,s,g,⟨rfl,rfl,rfl,rfl,rfl,rfl,rfl,rfl,rfl,rfl,rfl,rfl,rfl⟩,hD,hI⟩,⟨xn,hxn,rf⟩,hX,hold⟩
def Tryz.Gf (g:Nat→Int):ByteArray:=strOfNums ((List.range 20000).map g)
theorem Tryz.zBS {w:World} {G c:Nat} {g:Nat→Int} (h:w.rangeAt G 0 (row g 0 20000)):(convert 77 9 (.slice (some ⟨G,0,none⟩) 20000 c)).run prog w= .ok (.string (Gf g)) w:=
 run_convert_bytes_arg (P:=prog) w 77 5 (by kernel_rfl) (by kernel_rfl) G 0 20000 c ((List.range 20000).map g) (by rw [ybw,List.length_range]) (fun i hi=>by
  have hx:(row g 0 20000)[i]? =some (.int .u8 (g i)):=by
   unfold row;rw [ya5,ybY hi];simp only [yaJ,yaq]
  have hy:((List.range 20000).map g).getD i 0=g i:=by
   rw [yaD,ya5,ybY hi];rfl
  rw [hy];exact h i _ hx) 9 (by kernel_rfl)
theorem Tryz.zxM {w':World} {b2:Nat} {v:Value} {g:Nat→Int} (h:w'.ownsRow b2 5 1 v 20000 (row g 0 20000)): ∃G c,v= .slice (some ⟨G,0,none⟩) 20000 c∧ ∀w2,Below w'.heap.size w' w2→(convert 77 9 (.slice (some ⟨G,0,none⟩) 20000 c)).run prog w2= .ok (.string (Gf g)) w2:=by
 have h1:aG 5 1 w' b2 v 20000 (row g 0 20000):=h;obtain ⟨sa,c,rfl,hr⟩:=aG.row h1;rcases hr with hr|⟨G,rfl,ho,hG⟩
 ·have:=yaH List.length hr;rw [BM] at this;exact absurd this (by decide)
 ·exact ⟨G,c,rfl,fun w2 hb=>zBS (gL hG (hb.block G (aG.lt h1 G ho).2))⟩
section
variable {n0:Nat} {Z:Nat→Prop} {d:Tryz.gB} {r:Tryz.Rg} {w:World} {s1:Tryz.SS} {g1:Nat→Int} {s2:Tryz.SS} {g2:Nat→Int}
theorem Tryz.zGx (hd:Duo n0 Z w d r s1 g1 s2 g2):Calls prog 25 #[.pointer (some ⟨d.P,0,none⟩)] w fun e w'=> ∃G c,e= .returned (.slice (some ⟨G,0,none⟩) 20000 c)∧(∀w2,Below w'.heap.size w' w2→(convert 77 9 (.slice (some ⟨G,0,none⟩) 20000 c)).run prog w2= .ok (.string (Gf g1)) w2)∧Below w.heap.size w w':=by
 obtain ⟨lv,h1,_,_⟩:=hd.ex;refine (zyp d.P d.L d.Bs d.B 20000 g1 w h1.mem (by decide) (by decide)).mono ?_;rintro e w' ⟨v,rfl,hv,hb⟩;obtain ⟨G,c,rfl,hc⟩:=zxM hv;exact ⟨G,c,rfl,hc,hb⟩
theorem Tryz.zGw (hd:Duo n0 Z w d r s1 g1 s2 g2):Calls prog 47 #[.pointer (some ⟨d.P2,0,none⟩)] w fun e w'=> ∃G c,e= .returned (.slice (some ⟨G,0,none⟩) 20000 c)∧(∀w2,Below w'.heap.size w' w2→(convert 77 9 (.slice (some ⟨G,0,none⟩) 20000 c)).run prog w2= .ok (.string (Gf g2)) w2)∧Below w.heap.size w w':=by
 obtain ⟨lv,_,h2,_⟩:=hd.ex;refine (zvd d.P2 d.L2 d.ji d.B2 20000 g2 w h2.rm (by decide) (by decide)).mono ?_;rintro e w' ⟨v,rfl,hv,hb⟩;obtain ⟨G,c,rfl,hc⟩:=zxM hv;exact ⟨G,c,rfl,hc,hb⟩
end
end Go.Proofs
namespace Go.Proofs
open Go.Dw Go.RowKit Go.Maps Go.Sort Go.Deep
set_option maxRecDepth 100000 in
theorem Tryz.aby (NC: ∀w,Calls prog 6 #[] w fun e w'=>e= .returned (.bool true)∧Below w.heap.size w w') {w:World} {av:Value} {acts:List Ac} (hA:sN w av acts) (size:Int) (ev tb pk:Bool):
    Calls prog 5 #[.int .i64 size,.agg #[.bool ev,.bool tb,.bool pk],av] w fun e w'=>e= .returned (.bool true)∧Below w.heap.size w w':=by
  have G9:=hA.ok;obtain ⟨aa,ca,hav,Bb⟩:=hA.val;obtain ⟨n,hn,hsh⟩: ∃n:Nat,(n=1∨n=2∨n=4∨n=8∨n=16)∧ ∃k:Nat,size%5=k∧k<5∧n=1<<<k:=by
    have h0:0≤size%5:=ybo _ (by decide);have h1:size%5<5:=ybg _ (by decide);have h2:size%5=0∨size%5=1∨size%5=2∨size%5=3∨size%5=4:=by omega
    rcases h2 with h|h|h|h|h
    · exact ⟨1,by decide,0,h,by decide,rfl⟩
    · exact ⟨2,by decide,1,h,by decide,rfl⟩
    · exact ⟨4,by decide,2,h,by decide,rfl⟩
    · exact ⟨8,by decide,3,h,by decide,rfl⟩
    · exact ⟨16,by decide,4,h,by decide,rfl⟩
  obtain ⟨k,hk1,hk2,hk3⟩:=hsh;have hwk:IntKind.wrap .u64 (k:Int)=k:=bE (by omega) (by omega);have hsh:wrap64 (2^k)=(n:Int):=by
    have:k=0∨k=1∨k=2∨k=3∨k=4:=by omega
    rcases this with rfl|rfl|rfl|rfl|rfl<;>(subst hk3;first|decide|decide+kernel|simp [wrap64])
  clear hk3;have hA1: ∀w1:World,Below (w.alloc (Obj.cells #[Value.bool ev,Value.bool tb,Value.bool pk] 23)).heap.size (w.alloc (Obj.cells #[Value.bool ev,Value.bool tb,Value.bool pk] 23)) w1→sN w1 av acts:=fun w1 hb=>sN.below hA ((ydP (yag w.heap.size w) (yab _) _).trans (hb.mono (by simp)));have fQ:=zxd hn;obtain ⟨tot,hto,hrt,hfit⟩: ∃tot:Nat,((qW n:Int)+6+8*n-4096)=tot∧((pI n).d+tot≤((20000:Nat):Int)∧10≤tot)∧((pI n).d+16*(pI n).n≤((20000:Nat):Int)∧(pI n).v+6+2*(pI n).n≤((20000:Nat):Int)∧(pI n).c+6+8*(pI n).n≤((20000:Nat):Int)):=by
    rcases hn with rfl|rfl|rfl|rfl|rfl
    · exact ⟨qW 1+6+8*1-4096,by decide,by decide,by decide⟩
    · exact ⟨qW 2+6+8*2-4096,by decide,by decide,by decide⟩
    · exact ⟨qW 4+6+8*4-4096,by decide,by decide,by decide⟩
    · exact ⟨qW 8+6+8*8-4096,by decide,by decide,by decide⟩
    · exact ⟨qW 16+6+8*16-4096,by decide,by decide,by decide⟩
  have hpl: ∀w:World,Calls prog 30 #[.bool false,.int .i64 n,.int .u64 4096] w fun e w'=>e= .returned (.tuple #[.agg #[.bool false,.int .i64 (pI n).n,.int .u64 (pI n).d,.int .u64 (pI n).v,.int .u64 (pI n).c],.int .u64 tot,.int .i64 0])∧Below w.heap.size w w':=fun w=>hto▸zxI n hn w;have NJ:=fun R w (c:Cl w R [.int .u64 0,.int .u64 20000])=>zD9 R 20000 1 w (c.cell 0 _ rfl) (c.cell 1 _ rfl) (by decide) (by decide);have zb:=fun R w (c:Cl w R [.int .u64 0,.int .u64 20000])=>zxa (w:=w) (R:=R) (c.cell 0 _ rfl) (c.cell 1 _ rfl);obtain ⟨r,hr⟩: ∃r,r=pI n:=⟨_,rfl⟩;have hrn:(n:Int)=r.n:=by rw [hr];rfl
  rw [←hr] at fQ hrt hfit hpl;rw [hrn] at hsh hpl;clear hr hrn hto;have hck:=fun w'=>vB r fQ w';have hpy: ∀(w:World) (P:Nat),Calls prog 33 #[.pointer (some ⟨P,0,none⟩),.agg #[.bool false,.int .i64 r.n,.int .u64 r.d,.int .u64 r.v,.int .u64 r.c],.agg #[.bool ev,.bool tb,.bool false]] w fun e w'=> ∃S,e= .returned (.tuple #[.pointer (some ⟨S,0,none⟩),.int .i64 0])∧w.heap.size≤S∧Cl w' S ((SS.fresh ev tb).aI r P (.slice none 0 0) (.slice none 0 0))∧Below w.heap.size w w':=fun w P=>zvc (w:=w) (P:=P) (ev:=ev) (tb:=tb) hck;have TY: ∀(w:World) (P:Nat),Calls prog 33 #[.pointer (some ⟨P,0,none⟩),.agg #[.bool false,.int .i64 r.n,.int .u64 r.d,.int .u64 r.v,.int .u64 r.c],.agg #[.bool ev,.bool tb,.bool true]] w fun e w'=>e= .returned (.tuple #[.pointer none,.int .i64 2])∧Below w.heap.size w w':=fun w P=>zxb (w:=w) (P:=P) (r:=r) (ev:=ev) (tb:=tb);have hps: ∀ {w:World} {P L Bs B:Nat} {g:Nat→Int},GM w P L Bs B 20000 g→Calls prog 32 #[.pointer (some ⟨P,0,none⟩),.agg #[.bool false,.int .i64 r.n,.int .u64 r.d,.int .u64 r.v,.int .u64 r.c],.agg #[.bool ev,.bool tb,.bool false]] w fun e w'=> ∃S M,e= .returned (.tuple #[.pointer (some ⟨S,0,none⟩),.int .i64 0])∧w.heap.size≤S∧w.heap.size≤M∧(∀A:Nat→Prop,A S→A M→iq A w' S P M r (SS.fresh ev tb))∧Below w.heap.size w w':=fun st=>zD8 (r:=r) st fQ;have TW: ∀ {w:World} {P L Bs B:Nat} {g:Nat→Int},GM w P L Bs B 20000 g→Calls prog 32 #[.pointer (some ⟨P,0,none⟩),.agg #[.bool false,.int .i64 r.n,.int .u64 r.d,.int .u64 r.v,.int .u64 r.c],.agg #[.bool ev,.bool tb,.bool true]] w fun e w'=>e= .returned (.tuple #[.pointer none,.int .i64 2])∧Below w.heap.size w w':=fun st=>zA9 (r:=r) st;clear hck;subst hav;cases pk with
  | true=>
    clear hpy hps;go_enter func5,ntmps5;go_wp2_with (first
      | (go_at_call 6;refine (NC _).mono ?_;rintro e w1 ⟨rfl,hb1⟩;have ka:=(Cl.new w _ _).below hb1 (by simp))
      | (go_at_call 23;refine (zpl (hA1 _ hb1)).mono ?_;rintro e w2 ⟨b,rfl,hlt,hb2⟩;replace ka:=ka.below hb2 ka.lt)
      | (go_at_call 7;refine (Cf size 5 (by decide) _).mono ?_;rintro e w3 ⟨rfl,rfl⟩;rw [hk1])
      | (go_at_call 30;rw [hsh];refine (hpl _).mono ?_;rintro e w4 ⟨rfl,hb4⟩;replace ka:=ka.below hb4 ka.lt)
      | (go_at_call 31;refine (NJ (w4.heap.size+1) _ (Cl.new2 (jB _ _))).mono ?_;rintro e w5 ⟨P,L,Bs,B,rfl,hg,hb5,hP,hL,He,hB⟩)
      | (go_at_call 9;refine (zb w5.heap.size _ (Cl.new2 rfl)).mono ?_;rintro e w6 ⟨P2,L2,ji,B2,rfl,hg2,hb6,hP2,hL2,MG,hB2⟩;have kr:=(((Cl.new w4 _ _).alloc _).below hb5 (by simp<;>omega));replace kr:=(kr.alloc _).below hb6 (by have:=kr.lt;simp<;>omega);have Hy:=hg.below (((yag w5.heap.size w5).alloc (yab _) _).trans (hb6.mono (by simp)));have hs5:=hb5.size;have hs6:=hb6.size;simp only [jB] at hs5 hs6;have qm:=(((ka.alloc _).alloc _).below hb5 (by have:=ka.lt;simp<;>omega));replace qm:=(qm.alloc _).below hb6 (by have:=qm.lt;simp<;>omega);have hbX:=(yag w6.heap.size w6).alloc (yab _) (Obj.cells #[.pointer (some ⟨P,0,none⟩),.pointer (some ⟨P2,0,none⟩),.int .i64 0] 91);have mO:=kr.below hbX kr.lt;have qo:=qm.below hbX qm.lt;have DN:=Hy.below hbX;have Nj:=hg2.below hbX;have Bz:=Cl.new w6 #[.pointer (some ⟨P,0,none⟩),.pointer (some ⟨P2,0,none⟩),.int .i64 0] 91;have x0:=qo.cell 0 _ rfl;have x1:=qo.cell 1 _ rfl;have x2:=qo.cell 2 _ rfl;have y0:=mO.cell 0 _ rfl;have y1:=mO.cell 1 _ rfl;have y2:=mO.cell 2 _ rfl;have y3:=mO.cell 3 _ rfl;have y4:=mO.cell 4 _ rfl)
      | (go_at_call 32;refine (TW DN).mono ?_;rintro e w7 ⟨rfl,iX⟩;clear x0 x1 x2 y0 y1 y2 y3 y4;have xu:=qo.below iX qo.lt;have l8:=mO.below iX mO.lt;have x0:=xu.cell 0 _ rfl;have x1:=xu.cell 1 _ rfl;have x2:=xu.cell 2 _ rfl;have y0:=l8.cell 0 _ rfl;have y1:=l8.cell 1 _ rfl;have y2:=l8.cell 2 _ rfl;have y3:=l8.cell 3 _ rfl;have y4:=l8.cell 4 _ rfl)
      | (go_at_call 33;refine (TY _ _).mono ?_;rintro e w8 ⟨rfl,eT⟩)
      | go_in)
    · have hbl:=((ydP (yag w.heap.size w) (yab _) (Obj.cells #[Value.bool ev,Value.bool tb,Value.bool true] 23)).trans (hb1.mono (by simp))).trans (hb2.mono (by have:=hb1.size;simp at this;omega));exact xR (fn:=Tryz.f5) (Post:=fun e w'=>e= .returned (.bool true)∧RowKit.Below w.heap.size w w') rfl rfl rfl ⟨rfl,hbl⟩
    · have hq:True:=trivial;have Bg:Below w.heap.size w w3:=((ydP (yag w.heap.size w) (yab _) (Obj.cells #[Value.bool ev,Value.bool tb,Value.bool true] 23)).trans (hb1.mono (by simp))).trans (hb2.mono (by have:=hb1.size;simp at this;omega));have hs3:=Bg.size;have Bh:=Bg.trans (hb4.mono hs3);have hs4:=Bh.size;have Bd:Below w4.heap.size w4 w5:=(((yag w4.heap.size w4).alloc (yab _) _).alloc (by simp) _).trans (hb5.mono (by simp;omega));have Be:Below w5.heap.size w5 w6:=((yag w5.heap.size w5).alloc (yab _) _).trans (hb6.mono (by simp));have Ie:=hbX.size;have hs7:=iX.size;have NT:=eT.size;simp only [jB] at Ie hs7;have Bj:Below w.heap.size w w8:=((((Bh.trans (Bd.mono hs4)).trans (Be.mono (by omega))).trans (hbX.mono (by omega))).trans (iX.mono (by simp only [jB];omega))).trans (eT.mono (by omega));exact xR (fn:=Tryz.f5) (Post:=fun e w'=>e= .returned (.bool true)∧RowKit.Below w.heap.size w w') rfl rfl rfl ⟨rfl,Bj⟩
  | false=>
    clear TY TW;go_enter func5,ntmps5;go_wp2_with (first
      | (go_at_call 6;refine (NC _).mono ?_;rintro e w1 ⟨rfl,hb1⟩;have ka:=(Cl.new w _ _).below hb1 (by simp))
      | (go_at_call 23;refine (zpl (hA1 _ hb1)).mono ?_;rintro e w2 ⟨b,rfl,hlt,hb2⟩;replace ka:=ka.below hb2 ka.lt)
      | (go_at_call 7;refine (Cf size 5 (by decide) _).mono ?_;rintro e w3 ⟨rfl,rfl⟩;rw [hk1])
      | (go_at_call 30;rw [hsh];refine (hpl _).mono ?_;rintro e w4 ⟨rfl,hb4⟩;replace ka:=ka.below hb4 ka.lt)
      | (go_at_call 31;refine (NJ (w4.heap.size+1) _ (Cl.new2 (jB _ _))).mono ?_;rintro e w5 ⟨P,L,Bs,B,rfl,hg,hb5,hP,hL,He,hB⟩)
      | (go_at_call 9;refine (zb w5.heap.size _ (Cl.new2 rfl)).mono ?_;rintro e w6 ⟨P2,L2,ji,B2,rfl,hg2,hb6,hP2,hL2,MG,hB2⟩;have kr:=(((Cl.new w4 _ _).alloc _).below hb5 (by simp<;>omega));replace kr:=(kr.alloc _).below hb6 (by have:=kr.lt;simp<;>omega);have Hy:=hg.below (((yag w5.heap.size w5).alloc (yab _) _).trans (hb6.mono (by simp)));have hs5:=hb5.size;have hs6:=hb6.size;simp only [jB] at hs5 hs6;have qm:=(((ka.alloc _).alloc _).below hb5 (by have:=ka.lt;simp<;>omega));replace qm:=(qm.alloc _).below hb6 (by have:=qm.lt;simp<;>omega);have hbX:=(yag w6.heap.size w6).alloc (yab _) (Obj.cells #[.pointer (some ⟨P,0,none⟩),.pointer (some ⟨P2,0,none⟩),.int .i64 0] 91);have mO:=kr.below hbX kr.lt;have qo:=qm.below hbX qm.lt;have DN:=Hy.below hbX;have Nj:=hg2.below hbX;have Bz:=Cl.new w6 #[.pointer (some ⟨P,0,none⟩),.pointer (some ⟨P2,0,none⟩),.int .i64 0] 91;have x0:=qo.cell 0 _ rfl;have x1:=qo.cell 1 _ rfl;have x2:=qo.cell 2 _ rfl;have y0:=mO.cell 0 _ rfl;have y1:=mO.cell 1 _ rfl;have y2:=mO.cell 2 _ rfl;have y3:=mO.cell 3 _ rfl;have y4:=mO.cell 4 _ rfl)
      | (go_at_call 32;refine (hps DN).mono ?_;rintro e w7 ⟨S,M,rfl,hS,hM,hso,iX⟩;clear x0 x1 x2 y0 y1 y2 y3 y4;have xu:=qo.below iX qo.lt;have l8:=mO.below iX mO.lt;have x0:=xu.cell 0 _ rfl;have x1:=xu.cell 1 _ rfl;have x2:=xu.cell 2 _ rfl;have y0:=l8.cell 0 _ rfl;have y1:=l8.cell 1 _ rfl;have y2:=l8.cell 2 _ rfl;have y3:=l8.cell 3 _ rfl;have y4:=l8.cell 4 _ rfl)
      | (go_at_call 33;refine (hpy _ _).mono ?_;rintro e w8 ⟨S2,rfl,hS2,hy,eT⟩)
      | go_in)
    · have hbl:=((ydP (yag w.heap.size w) (yab _) (Obj.cells #[Value.bool ev,Value.bool tb,Value.bool false] 23)).trans (hb1.mono (by simp))).trans (hb2.mono (by have:=hb1.size;simp at this;omega));exact xR (fn:=Tryz.f5) (Post:=fun e w'=>e= .returned (.bool true)∧RowKit.Below w.heap.size w w') rfl rfl rfl ⟨rfl,hbl⟩
    · have hbt:b=true:=by cases b with|true=>rfl|false=>rename_i h;exact absurd h (by simp)
      have Dk:=hlt hbt;have Bg:Below w.heap.size w w3:=((ydP (yag w.heap.size w) (yab _) (Obj.cells #[Value.bool ev,Value.bool tb,Value.bool false] 23)).trans (hb1.mono (by simp))).trans (hb2.mono (by have:=hb1.size;simp at this;omega));have hs3:=Bg.size;have Bh:=Bg.trans (hb4.mono hs3);have hs4:=Bh.size;have Bd:Below w4.heap.size w4 w5:=(((yag w4.heap.size w4).alloc (yab _) _).alloc (by simp) _).trans (hb5.mono (by simp;omega));have Be:Below w5.heap.size w5 w6:=((yag w5.heap.size w5).alloc (yab _) _).trans (hb6.mono (by simp));have Ie:=hbX.size;have hs7:=iX.size;have NT:=eT.size;simp only [jB] at Ie hs7;have Bj:Below w.heap.size w w8:=((((Bh.trans (Bd.mono hs4)).trans (Be.mono (by omega))).trans (hbX.mono (by omega))).trans (iX.mono (by simp only [jB];omega))).trans (eT.mono (by omega));simp only [jB] at hP hL He hB hP2 hL2 MG hB2 hS hM;have HY:S<w7.heap.size:=(hso (fun _=>True) trivial trivial).rO;have NA:M<w7.heap.size:=(hso (fun _=>True) trivial trivial).tO;have TD:=hg.pl;have hgl:=hg.ll;have hgs:=hg.sl;have hgb:=hg.bl;have TF:=hg2.pl;have TB:=hg2.ll;have TG:=hg2.sl;have Ty:=hg2.bl;have hyl:=hy.lt;have hd:gB.ok ⟨w4.heap.size,w6.heap.size,S,P,L,Bs,B,M,S2,P2,L2,ji,B2,w8.heap.size⟩ w.heap.size:=⟨w4.heap.size+1,w5.heap.size,w6.heap.size,w6.heap.size+1,w7.heap.size,by show w.heap.size≤w4.heap.size;omega,by show w4.heap.size<_;omega,⟨by show _≤P;omega,by show _≤L;omega,by show _≤Bs;omega,by show _≤B;omega⟩,⟨TD,hgl,hgs,hgb⟩,⟨by show _≤P2;omega,by show _≤L2;omega,by show _≤ji;omega,by show _≤B2;omega⟩,⟨TF,TB,TG,Ty⟩,⟨yab _,ycF _⟩,⟨by show _≤S;omega,by show _≤M;omega⟩,⟨HY,NA⟩,by show _≤S2;omega,hyl⟩;have hD0:=zEJ (Z:=fun b=>b<w.heap.size∨b=w4.heap.size∨b=w6.heap.size) (ev:=ev) (tb:=tb) (r:=r) hd rfl (by have:=Bj.size;omega) ((DN.below iX).below eT) ((Nj.below iX).below eT) (fun A aS aM=>(hso A aS aM).below eT) hy fQ hfit (fun b q=>q);have Dt:=l8.below eT l8.lt;have rf:=(Bz.below iX Bz.lt).below eT (by have:=(Bz.below iX Bz.lt).lt;omega);obtain ⟨d,hdd⟩: ∃d:gB,d=⟨w4.heap.size,w6.heap.size,S,P,L,Bs,B,M,S2,P2,L2,ji,B2,w8.heap.size⟩:=⟨_,rfl⟩;rw [←hdd] at hd hD0;have f1:d.X7=w4.heap.size:=by rw [hdd]
      have f2:d.S=S:=by rw [hdd]
      have f3:d.P=P:=by rw [hdd]
      have f4:d.S2=S2:=by rw [hdd]
      have f5:d.P2=P2:=by rw [hdd]
      have f6:d.XB=w6.heap.size:=by rw [hdd]
      clear hdd;rw [←f1] at Dt hD0 ⊢;rw [←f6] at rf hD0 ⊢;rw [←f3,←f5] at rf ⊢;rw [←f2,←f4];replace rf:Cl w8 d.XB (rZ d 0):=rf;replace Dt:Cl w8 d.X7 r.cells:=Dt;clear f1 f2 f3 f4 f5 f6;clear hP hL He hB hP2 hL2 MG hB2 HY NA TD hgl hgs hgb TF TB TG Ty hyl NT hs7 hs6 hs5 hs4 hs3 Bd Be Bh Bg hy hso Hy hg2 hg eT iX hb6 hb5 hb4 hb1 hb2 ka qm xu kr l8 x0 x1 x2 y0 y1 y2 y3 y4 hS2 hS hM hps hpy hpl NJ zb hA1 NC hwk hk1 hk2 hlt hbX mO qo DN Nj Bz Ie hsh;have hn0:=Bj.size;rename_i K hK;have hA':sN w (.slice aa acts.length ca) acts:=hA;refine kF (c':= .loop (bf prog [0,0,1,0,1,1,1,1,1,1,1,1,1,1,1,5])) (by kernel_rfl) ?_;refine xQ (fun (j:Nat) a' w'=>j≤acts.length∧RI w tot d r (.slice aa acts.length ca) j a' w') (fun j=>acts.length-j) (fun j a1 w1 hI=> ?_) 0 _ _ ⟨yax _,rfl,⟨0,_,_,⟨rfl,rfl,rfl,rfl,rfl,rfl,rfl,rfl,rfl,rfl,rfl,rfl,rfl⟩,hD0,gD.fresh ev tb⟩,⟨0,yab _,rf⟩,Dt,Bj⟩;refine ya3 (zBF hI.2 hI.1 hA' Dk hd fQ hrt) fun ex a2 w2 hh=> ?_;clear hD0 Dt rf Bj hn0 hI;cases ex with
      | normal=>exact ⟨j+1,by have:=hh.2;omega,by have:=hh.2;omega,hh.1⟩
      | exit i=>
        obtain ⟨rfl,hR⟩:=hh;show K a2 w2;refine hK _ _ ?_;clear hK;obtain ⟨hdf,⟨E,s,g,hf,hD,hI⟩,_,hX,hold⟩:=hR;obtain ⟨tm,ds⟩:=a2;have hdf:ds= []:=hdf;subst hdf;obtain ⟨jf,fP⟩:=KN (t:=tm) hf.sz hf.t0 hf.t2 hf.t7 hf.t8 hf.t10 hf.t12 hf.t14 hf.t15 hf.t16 hf.t17 hf.t18 hf.t19 rfl rfl rfl;generalize tm.getD 20 undef=Oq at fP;generalize tm.getD 21 undef=Ot at fP;generalize tm.getD 22 undef=q22 at fP;rw [fP];clear fP hf hX hI hA hA' G9 Bb Dk hd;have AZ:=hD.below ((yag _ w2).drew);have hbd:=hold.trans (((yag _ w2).drew).mono hold.size);obtain ⟨str,hstr⟩: ∃str,str=Gf g:=⟨_,rfl⟩;have hi1:=zGx AZ;have hi2:=fun w' (hb:Below w2.drew.heap.size w2.drew w')=>zGw (AZ.below hb);rw [←hstr] at hi1 hi2;clear hstr;go_wp2_with fail;go_region_law (first
          | (go_simp;go_at_call 25;refine hi1.mono ?_;rintro en w3 ⟨G1,c1,rfl,hv1,hb3⟩;have abW:=hv1 w3 (yag _ _))
          | (go_simp;go_at_call 47;refine (hi2 _ hb3).mono ?_;rintro en w4 ⟨G2,c2,rfl,hv2,hb4⟩;have abX:=hv1 w4 hb4;have hv24:=hv2 w4 (yag _ _)))
        all_goals
          go_wp2_with fail;exact xR (fn:=Tryz.f5) (Post:=fun e w'=>e= .returned (.bool true)∧RowKit.Below w.heap.size w w') rfl rfl rfl ⟨rfl,(hbd.trans (hb3.mono hbd.size)).trans (hb4.mono (hbd.trans (hb3.mono hbd.size)).size)⟩
      | _=>exact hh.elim
end Go.Proofs
namespace Go.Proofs.YtpogddachhjgaaaGreat
theorem zvv:(Dw.ev Tryz.prog (Dw.JK 58 [87]) 100000000 (.call 6 [] Dw.ru Dw.isTrue)).good=true:=by kernel_rfl
theorem abf:Dw.VD Tryz.prog 6:=Dw.zu3 (by kernel_rfl) (fun w=>Tryz.zDg) zvv
theorem zrp:Tryz.pinned.checked.prog.mayEnter=true:=by kernel_rfl
end Go.Proofs.YtpogddachhjgaaaGreat
namespace Go.Proofs.YtpogddachhjgaaaGreat.sserveScript
open Go.ChangeShapes Go.WideShapes Go.ChangeAt Go.RowKit
theorem aag:joinedFacts Tryz.pinned.checked.prog 5 Tryz.f5 Rows.sserveScriptSpec Rows.sserveScriptRow=true:=by
 unfold joinedFacts;rw [zrp];kernel_rfl
end Go.Proofs.YtpogddachhjgaaaGreat.sserveScript
end
