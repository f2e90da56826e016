/-
  Proved: laws on the way to 'PdriveScriptProof' (texts VdN Lives5 Enter PdriveScriptFacts); no condition.
-/
import Derived.Test.YtkemikknnokdhaaGreatM6
import Derived.Deep.RegionLaw
import Derived.Test.YtkemikknnokdhaaGreatProg
import Derived.KernelRfl
import Derived.Test.YtkemikknnokdhaaGreatRows
import Derived.WalkKit
import Derived.ProofKit
import Derived.OpenShut
set_option linter.unusedSimpArgs false
set_option linter.unusedVariables false
set_option maxHeartbeats 4000000
noncomputable section
namespace Go.Proofs
open Go.Dw Go.RowKit Go.Maps Go.Sort Go.Deep
theorem Tryz.zuv {n0:Nat} {Z:Nat→Prop} {w:World} {d:fB} {r:Rg} {ev tb:Bool} (hd:d.ok n0) (hb2:d.b2=w.heap.size) (hg:GM w d.P d.L d.Bs d.B 60000 (fun _=>0)) (hg2:aV w d.P2 d.L2 d.iC d.B2 60000 (fun _=>0)) (hS:Cl w d.S (tL ev tb r d.P d.M)) (hI:Cl w d.M (List.replicate r.n.toNat (.pointer none))) (hy:Cl w d.S2 (sZ ev tb r d.P2)) (hSM:d.S≠d.M) (gZ:gU r) (hZ: ∀b,Z b→b=d.X7):Duo n0 Z w d r (DS.fresh ev tb r.n) (fun _=>0) (DS.fresh ev tb r.n) (fun _=>0):=by
 have Gx:=hS.lt;have Gw:=hI.lt;have hlB:=hg.bl;have ab1:=hg2.bl;have ab2:=hy.lt;have hne:=hd.ne;obtain ⟨n1,n2,n3,n4,q1,q2,⟨q3,q4,q5,q6⟩,⟨q7,q8,q9,TP⟩,⟨Hf,TQ,q13,q14⟩,⟨MS,q16,q17,q18⟩,⟨MU,MV⟩,⟨MW,q22⟩,q23,q24⟩:=hd.ex;have hA: ∀b,d.A b→b<w.heap.size:=fun b hb=>by rcases hb with rfl|rfl|rfl|rfl|rfl<;>omega
 refine ⟨⟨.slice none 0 0,zuq gZ hS hI hg hSM (.inl (.inl (.inl rfl))) (.inl (.inl (.inr (.inl rfl)))) (.inl (.inl (.inr (.inr (.inl rfl))))) (fun b hb=> ?_) (by decide) (by decide) ⟨by omega,by omega,by omega,by omega⟩ ⟨by omega,by omega,by omega,by omega⟩,zup gZ hy hg2 (.inl (.inr (.inr (.inr (.inl rfl))))) (.inl (.inr (.inr (.inr (.inr rfl))))) (fun b hb=> ?_) ⟨by omega,by omega,by omega,by omega,by omega⟩ (by omega) (by decide) (by decide) ⟨by omega,by omega,by omega,by omega⟩,fun b e=>(by cases e)⟩,hd,fun b hb=> ?_,fun b hb=> ?_⟩
 ·rcases hb with (hb|hb)|hb
  ·exact hA b hb
  ·have:=hZ b hb;omega
  ·cases hb
 ·rcases hb with hb|hb
  ·exact hA b hb
  ·have:=hZ b hb;omega
 ·have q:=hZ b hb;exact ⟨by omega,q▸hne.2.2.2.2.1.1⟩
 ·have q:=hZ b hb;omega
theorem Tryz.XQ {K:Nat→Prop} {b0:Nat} {w w':World} (h:Dw.Mv K w w') (hk: ∀k,K k→b0≤k) (hb:b0≤w.heap.size):Below b0 w w':=⟨h.os,h.tape,h.output,h.size,fun b hb'=>h.block b (by omega) fun q=>by have:=hk b q;omega⟩
set_option maxRecDepth 100000 in
theorem Tryz.aai (LV: ∀w,Calls prog 5 #[] w fun e w'=>e= .returned (.bool true)∧Below w.heap.size w w') {w:World} {av:Value} {acts:List Dc} (hA:rW w av acts) (size:Int) (ev tb pk:Bool):
    Calls prog 3 #[.int .i64 size,.agg #[.bool ev,.bool tb,.bool pk],av] w fun e w'=>e= .returned (.bool true)∧Below w.heap.size w w':=by
  have F9:=hA.ok;obtain ⟨aa,ca,hav,Ag⟩:=hA.val;obtain ⟨k,hk1,hk2⟩: ∃k:Nat,size%16=k∧k<16:=by
    have h0:0≤size%16:=ybI _ (by decide);have h1:size%16<16:=ybC _ (by decide);exact ⟨(size%16).toNat,by omega,by omega⟩
  have hn:1≤k+1∧k+1≤16:=by omega
  have hA1: ∀w1:World,Below (w.alloc (Obj.cells #[Value.bool ev,Value.bool tb,Value.bool pk] 23)).heap.size (w.alloc (Obj.cells #[Value.bool ev,Value.bool tb,Value.bool pk] 23)) w1→rW w1 av acts:=fun w1 hb=>rW.below hA ((ydO (yab w.heap.size w) (yaa _) _).trans (hb.mono (by simp)));have hwk:IntKind.wrap .i64 (1+(k:Int))=((k+1:Nat):Int):=by rw [dV (by omega) (by omega)];omega
  have hpl:=zpC (k+1) hn;have gZ:=zpB hn;generalize hm:k+1=n at hwk hpl gZ hn;clear hm;have L8:=fun R w (c:Cl w R [.int .u64 0,.int .u64 60000])=>zwH R 60000 1 w (c.cell 0 _ rfl) (c.cell 1 _ rfl) (by decide) (by decide);have yD:=fun R w (c:Cl w R [.int .u64 0,.int .u64 60000])=>zqN (w:=w) (R:=R) (c.cell 0 _ rfl) (c.cell 1 _ rfl);have Md: ∀w:World,Calls prog 8 #[.bool true,.int .i64 n,.int .u64 4096] w fun e w'=>e= .returned (.tuple #[.agg #[.bool true,.int .i64 n,.int .u64 4096,.int .u64 (4096+16*n),.int .u64 (4100+16*n)],.int .u64 (8+16*n),.int .i64 0])∧Below w.heap.size w w':=fun w=>hpl w;clear hpl;obtain ⟨r,hr⟩: ∃r,r=Pp n:=⟨_,rfl⟩;have hpv:r.fu= .agg #[.bool true,.int .i64 n,.int .u64 4096,.int .u64 (4096+16*n),.int .u64 (4100+16*n)]:=by rw [hr];rfl
  rw [←hr] at gZ;have hrn:KI r.n n:=⟨by rw [hr];rfl⟩;have hN1:60000≤1048576:=by decide
  have Lf:40000≤60000:=by decide
  have hpy: ∀ {w:World} {P L Bs B:Nat},aV w P L Bs B 60000 (fun _=>0)→Calls prog 12 #[.pointer (some ⟨P,0,none⟩),.agg #[.bool true,.int .i64 n,.int .u64 4096,.int .u64 (4096+16*n),.int .u64 (4100+16*n)],.agg #[.bool ev,.bool tb,.bool true],.int .u64 20000] w fun e w'=> ∃S,e= .returned (.tuple #[.pointer (some ⟨S,0,none⟩),.int .i64 0])∧w.heap.size≤S∧Cl w' S (sZ ev tb r P)∧aV w' P L Bs B 60000 (fun _=>0)∧Dw.Mv (· =B) w w':=fun st=>hpv▸zv6 st gZ hN1 Lf;have SY: ∀(w:World) (P:Nat),Calls prog 12 #[.pointer (some ⟨P,0,none⟩),.agg #[.bool true,.int .i64 n,.int .u64 4096,.int .u64 (4096+16*n),.int .u64 (4100+16*n)],.agg #[.bool ev,.bool tb,.bool false],.int .u64 20000] w fun e w'=>e= .returned (.tuple #[.pointer none,.int .i64 2])∧Below w.heap.size w w':=fun w P=>hpv▸zv4 (w:=w) (P:=P) (r:=r) (ev:=ev) (tb:=tb);have hps: ∀ {w:World} {P L Bs B:Nat},GM w P L Bs B 60000 (fun _=>0)→Calls prog 11 #[.pointer (some ⟨P,0,none⟩),.agg #[.bool true,.int .i64 n,.int .u64 4096,.int .u64 (4096+16*n),.int .u64 (4100+16*n)],.agg #[.bool ev,.bool tb,.bool true],.int .u64 20000] w fun e w'=> ∃S M,e= .returned (.tuple #[.pointer (some ⟨S,0,none⟩),.int .i64 0])∧(w.heap.size≤S∧w.heap.size≤M∧S≠M)∧Cl w' S (tL ev tb r P M)∧Cl w' M (List.replicate r.n.toNat (.pointer none))∧GM w' P L Bs B 60000 (fun _=>0)∧Dw.Mv (· =B) w w':=fun st=>hpv▸zub st gZ hN1 Lf;have SV: ∀ {w:World} {P L Bs B:Nat} {g:Nat→Int},GM w P L Bs B 60000 g→Calls prog 11 #[.pointer (some ⟨P,0,none⟩),.agg #[.bool true,.int .i64 n,.int .u64 4096,.int .u64 (4096+16*n),.int .u64 (4100+16*n)],.agg #[.bool ev,.bool tb,.bool false],.int .u64 20000] w fun e w'=>e= .returned (.tuple #[.pointer none,.int .i64 2])∧Below w.heap.size w w':=fun st=>hpv▸zt9 (r:=r) st;clear hr hpv;subst hav;obtain ⟨bb,hbb⟩: ∃bb,bb=tY acts:=⟨_,rfl⟩;have hlt:=fun (q:bb=true)=>QE (hbb▸q);clear hN1 Lf;cases pk with
  | false=>
    clear hpy hps;go_enter func3,ntmps3;go_wp2_with (first
      | (go_at_call 5;refine (LV _).mono ?_;rintro e w1 ⟨rfl,hb1⟩;have ka:=(Cl.new w _ _).below hb1 (by simp))
      | (go_at_call 6;refine (Wn (hA1 _ hb1)).mono ?_;rintro e w2 ⟨rfl,hw2⟩;have hw2:=hw2.symm;subst hw2;rw [←hbb])
      | (go_at_call 7;refine (ES size 16 (by decide) _).mono ?_;rintro e w3 ⟨rfl,rfl⟩;rw [hk1])
      | (go_at_call 8;refine (Md _).mono ?_;rintro e w4 ⟨rfl,hb4⟩;replace ka:=ka.below hb4 ka.lt)
      | (go_at_call 9;refine (L8 (w4.heap.size+1) _ (Cl.new2 (fw _ _))).mono ?_;rintro e w5 ⟨P,L,Bs,B,rfl,hg,hb5,hP,hL,K8,hB⟩)
      | (go_at_call 10;refine (yD w5.heap.size _ (Cl.new2 rfl)).mono ?_;rintro e w6 ⟨P2,L2,iC,B2,rfl,hg2,hb6,hP2,hL2,Ga,hB2⟩;have kr:=(((Cl.new w4 _ _).alloc _).below hb5 (by simp<;>omega));replace kr:=(kr.alloc _).below hb6 (by have:=kr.lt;simp<;>omega);have Gp:=hg.below (((yab w5.heap.size w5).alloc (yaa _) _).trans (hb6.mono (by simp)));have hs5:=hb5.size;have hs6:=hb6.size;simp only [fw] at hs5 hs6;have kL:=(((ka.alloc _).alloc _).below hb5 (by have:=ka.lt;simp<;>omega));replace kL:=(kL.alloc _).below hb6 (by have:=kL.lt;simp<;>omega);have x0:=kL.cell 0 _ rfl;have x1:=kL.cell 1 _ rfl;have x2:=kL.cell 2 _ rfl;have y0:=kr.cell 0 _ rfl;have y1:=kr.cell 1 _ rfl;have y2:=kr.cell 2 _ rfl;have y3:=kr.cell 3 _ rfl;have y4:=kr.cell 4 _ rfl)
      | (go_at_call 11;refine (SV Gp).mono ?_;rintro e w7 ⟨rfl,iW⟩;clear x0 x1 x2 y0 y1 y2 y3 y4;have wL:=kL.below iW kL.lt;have nC:=kr.below iW kr.lt;have x0:=wL.cell 0 _ rfl;have x1:=wL.cell 1 _ rfl;have x2:=wL.cell 2 _ rfl;have y0:=nC.cell 0 _ rfl;have y1:=nC.cell 1 _ rfl;have y2:=nC.cell 2 _ rfl;have y3:=nC.cell 3 _ rfl;have y4:=nC.cell 4 _ rfl)
      | (go_at_call 12;refine (SY _ _).mono ?_;rintro e w8 ⟨rfl,eT⟩)
      | go_in)
    · have hbl:=(ydO (yab w.heap.size w) (yaa _) (Obj.cells #[Value.bool ev,Value.bool tb,Value.bool false] 23)).trans (hb1.mono (by simp));exact ze (fn:=Tryz.f3) (Post:=fun e w'=>e= .returned (.bool true)∧RowKit.Below w.heap.size w w') rfl rfl rfl ⟨rfl,hbl⟩
    · have hq:True:=trivial;have Ap:Below w.heap.size w w3:=(ydO (yab w.heap.size w) (yaa _) (Obj.cells #[Value.bool ev,Value.bool tb,Value.bool false] 23)).trans (hb1.mono (by simp));have hs3:=Ap.size;have Aq:=Ap.trans (hb4.mono hs3);have hs4:=Aq.size;have Aj:Below w4.heap.size w4 w5:=(((yab w4.heap.size w4).alloc (yaa _) _).alloc (by simp) _).trans (hb5.mono (by simp;omega));have Ak:Below w5.heap.size w5 w6:=((yab w5.heap.size w5).alloc (yaa _) _).trans (hb6.mono (by simp));have hs7:=iW.size;have Te:=eT.size;have Db:Below w.heap.size w w8:=(((Aq.trans (Aj.mono hs4)).trans (Ak.mono (by omega))).trans (iW.mono (by omega))).trans (eT.mono (by omega));exact ze (fn:=Tryz.f3) (Post:=fun e w'=>e= .returned (.bool true)∧RowKit.Below w.heap.size w w') rfl rfl rfl ⟨rfl,Db⟩
  | true=>
    clear SY SV;go_enter func3,ntmps3;go_wp2_with (first
      | (go_at_call 5;refine (LV _).mono ?_;rintro e w1 ⟨rfl,hb1⟩;have ka:=(Cl.new w _ _).below hb1 (by simp))
      | (go_at_call 6;refine (Wn (hA1 _ hb1)).mono ?_;rintro e w2 ⟨rfl,hw2⟩;have hw2:=hw2.symm;subst hw2;rw [←hbb])
      | (go_at_call 7;refine (ES size 16 (by decide) _).mono ?_;rintro e w3 ⟨rfl,rfl⟩;rw [hk1])
      | (go_at_call 8;refine (Md _).mono ?_;rintro e w4 ⟨rfl,hb4⟩;replace ka:=ka.below hb4 ka.lt)
      | (go_at_call 9;refine (L8 (w4.heap.size+1) _ (Cl.new2 (fw _ _))).mono ?_;rintro e w5 ⟨P,L,Bs,B,rfl,hg,hb5,hP,hL,K8,hB⟩)
      | (go_at_call 10;refine (yD w5.heap.size _ (Cl.new2 rfl)).mono ?_;rintro e w6 ⟨P2,L2,iC,B2,rfl,hg2,hb6,hP2,hL2,Ga,hB2⟩;have kr:=(((Cl.new w4 _ _).alloc _).below hb5 (by simp<;>omega));replace kr:=(kr.alloc _).below hb6 (by have:=kr.lt;simp<;>omega);have Gp:=hg.below (((yab w5.heap.size w5).alloc (yaa _) _).trans (hb6.mono (by simp)));have hs5:=hb5.size;have hs6:=hb6.size;simp only [fw] at hs5 hs6;have kL:=(((ka.alloc _).alloc _).below hb5 (by have:=ka.lt;simp<;>omega));replace kL:=(kL.alloc _).below hb6 (by have:=kL.lt;simp<;>omega);have x0:=kL.cell 0 _ rfl;have x1:=kL.cell 1 _ rfl;have x2:=kL.cell 2 _ rfl;have y0:=kr.cell 0 _ rfl;have y1:=kr.cell 1 _ rfl;have y2:=kr.cell 2 _ rfl;have y3:=kr.cell 3 _ rfl;have y4:=kr.cell 4 _ rfl)
      | (go_at_call 11;refine (hps Gp).mono ?_;rintro e w7 ⟨S,M,rfl,⟨hS,hM,hSM⟩,hso,hsm,Sc,jR⟩;clear x0 x1 x2 y0 y1 y2 y3 y4;have lk:=ka.lt;have lP:=hg.pl;have lB:=hg.bl;have wL:=kL.kept (jR.block _ kL.lt (by simp only [fw] at hB;show¬w.heap.size=B;omega));have nC:=kr.kept (jR.block _ kr.lt (by simp only [fw] at hB;show¬w4.heap.size=B;omega));have R9:=hg2.kept (fun k hk q=>jR.block k hk (by simp only [fw] at hP2 hL2 Ga hB2;show¬k=B;omega)) jR.size;have x0:=wL.cell 0 _ rfl;have x1:=wL.cell 1 _ rfl;have x2:=wL.cell 2 _ rfl;have y0:=nC.cell 0 _ rfl;have y1:=nC.cell 1 _ rfl;have y2:=nC.cell 2 _ rfl;have y3:=nC.cell 3 _ rfl;have y4:=nC.cell 4 _ rfl)
      | (go_at_call 12;refine (hpy R9).mono ?_;rintro e w8 ⟨S2,rfl,hS2,hy,Sb,dm⟩)
      | go_in)
    · have hbl:=(ydO (yab w.heap.size w) (yaa _) (Obj.cells #[Value.bool ev,Value.bool tb,Value.bool true] 23)).trans (hb1.mono (by simp));exact ze (fn:=Tryz.f3) (Post:=fun e w'=>e= .returned (.bool true)∧RowKit.Below w.heap.size w w') rfl rfl rfl ⟨rfl,hbl⟩
    · have hbt:bb=true:=by
        rename_i hnb;rw [hbb];have hnb:(!(tY acts))=false:=by assumption
        simpa using hnb
      have Ab:=hlt hbt;have Ap:Below w.heap.size w w3:=(ydO (yab w.heap.size w) (yaa _) (Obj.cells #[Value.bool ev,Value.bool tb,Value.bool true] 23)).trans (hb1.mono (by simp));have hs3:=Ap.size;have Aq:=Ap.trans (hb4.mono hs3);have hs4:=Aq.size;have Aj:Below w4.heap.size w4 w5:=(((yab w4.heap.size w4).alloc (yaa _) _).alloc (by simp) _).trans (hb5.mono (by simp;omega));have Ak:Below w5.heap.size w5 w6:=((yab w5.heap.size w5).alloc (yaa _) _).trans (hb6.mono (by simp));have hs7:=jR.size;have Te:=dm.size;simp only [fw] at hP hL K8 hB hP2 hL2 Ga hB2;have iW:Below w.heap.size w6 w7:=XQ jR (fun k q=>by have q:k=B:=q;omega) (by omega);have eT:Below w.heap.size w7 w8:=XQ dm (fun k q=>by have q:k=B2:=q;omega) (by omega);have Db:Below w.heap.size w w8:=(((Aq.trans (Aj.mono hs4)).trans (Ak.mono (by omega))).trans iW).trans eT;have Gx:=hso.lt;have Gw:=hsm.lt;have Sm:=hg.pl;have hgl:=hg.ll;have hgs:=hg.sl;have hgb:=hg.bl;have Sn:=hg2.pl;have Sk:=hg2.ll;have Sq:=hg2.sl;have Sd:=hg2.bl;have hyl:=hy.lt;have hd:fB.ok ⟨w4.heap.size,S,P,L,Bs,B,M,S2,P2,L2,iC,B2,w8.heap.size⟩ w.heap.size:=⟨w4.heap.size+1,w5.heap.size,w6.heap.size,w7.heap.size,by show w.heap.size≤w4.heap.size;omega,by show w4.heap.size<_;omega,⟨by show _≤P;omega,by show _≤L;omega,by show _≤Bs;omega,by show _≤B;omega⟩,⟨Sm,hgl,hgs,hgb⟩,⟨by show _≤P2;omega,by show _≤L2;omega,by show _≤iC;omega,by show _≤B2;omega⟩,⟨Sn,Sk,Sq,Sd⟩,⟨by show _≤S;omega,by show _≤M;omega⟩,⟨Gx,Gw⟩,by show _≤S2;omega,hyl⟩;have hD0:=zuv (Z:=fun b=>b=w4.heap.size) (ev:=ev) (tb:=tb) (r:=r) hd rfl (Sc.kept (fun k hk q=>dm.block k hk (by show¬k=B2;omega)) dm.size) Sb (hso.kept (dm.block _ Gx (by show¬S=B2;omega))) (hsm.kept (dm.block _ Gw (by show¬M=B2;omega))) hy hSM gZ (fun b q=>q);have Ll:=nC.kept (dm.block _ nC.lt (by show¬w4.heap.size=B2;omega));obtain ⟨d,hdd⟩: ∃d:fB,d=⟨w4.heap.size,S,P,L,Bs,B,M,S2,P2,L2,iC,B2,w8.heap.size⟩:=⟨_,rfl⟩;rw [←hdd] at hd hD0;have f1:d.X7=w4.heap.size:=by rw [hdd]
      have f2:d.S=S:=by rw [hdd]
      have f3:d.P=P:=by rw [hdd]
      have f4:d.S2=S2:=by rw [hdd]
      have f5:d.P2=P2:=by rw [hdd]
      clear hdd;rw [←f1] at Ll hD0 ⊢;rw [←f2,←f3,←f4,←f5];clear f1 f2 f3 f4 f5;clear hP hL K8 hB hP2 hL2 Ga hB2 Gx Gw Sm hgl hgs hgb Sn Sk Sq Sd hyl Te hs7 hs6 hs5 hs4 hs3 Aj Ak Aq Ap hy hsm hso Gp hg2 hg eT iW hb6 hb5 hb4 hb1 ka kL wL kr nC x0 x1 x2 y0 y1 y2 y3 y4 hS2 hS hM hSM hps hpy Md L8 yD hA1 LV hwk hk1 hk2 hlt hbb jR dm Sc R9 Sb lk lP lB;have hn0:=Db.size;rename_i K hK;have hA':rW w (.slice aa acts.length ca) acts:=hA;refine mr (c':= .loop (bS prog [0,0,1,0,1,1,1,1,1,1,1,1,1,1,3])) (by kernel_rfl) ?_;refine IL (fun (j:Nat) a' w'=>j≤acts.length∧RI w n d r (.slice aa acts.length ca) j a' w') (fun j=>acts.length-j) (fun j a1 w1 hI=> ?_) 0 _ _ ⟨yar _,rfl,⟨0,_,_,⟨rfl,rfl,rfl,rfl,rfl,rfl,rfl,rfl,rfl,rfl,rfl,rfl⟩,hD0,DI.fresh ev tb r.n⟩,Ll,Db⟩;refine ybu (zuw hI.2 hI.1 hA' Ab hd hn gZ hrn) fun ex a2 w2 hh=> ?_;clear hD0 Ll Db hn0 hI;cases ex with
      | normal=>exact ⟨j+1,by have:=hh.2;omega,by have:=hh.2;omega,hh.1⟩
      | exit i=>
        obtain ⟨rfl,hR⟩:=hh;show K a2 w2;refine hK _ _ ?_;clear hK;obtain ⟨hdf,⟨E,s,g,hf,hD,hI⟩,hX,hold⟩:=hR;obtain ⟨tm,ds⟩:=a2;have hdf:ds= []:=hdf;subst hdf;obtain ⟨jf,dR⟩:=JA (t:=tm) hf.sz hf.t0 hf.t2 hf.t7 hf.t8 hf.t10 hf.t12 hf.t14 hf.t15 hf.t16 hf.t17 hf.t18 rfl rfl rfl;generalize tm.getD 19 undef=MU at dR;generalize tm.getD 20 undef=MV at dR;generalize tm.getD 21 undef=MW at dR;rw [dR];clear dR hf hX hI hA hA' F9 Ag Ab hd;have Rp:=hD.below ((yab _ w2).drew);have hbd:=hold.trans (((yab _ w2).drew).mono hold.size);obtain ⟨str,hstr⟩: ∃str,str=Fx g:=⟨_,rfl⟩;have hi1:=zyv Rp;have hi2:=fun w' (hb:Below w2.drew.heap.size w2.drew w')=>zyu (Rp.below hb);rw [←hstr] at hi1 hi2;clear hstr;go_wp2_with fail;go_region_law (first
          | (go_simp;go_at_call 36;refine hi1.mono ?_;rintro en w3 ⟨G1,c1,rfl,hv1,hb3⟩;have ach:=hv1 w3 (yab _ _))
          | (go_simp;go_at_call 37;refine (hi2 _ hb3).mono ?_;rintro en w4 ⟨G2,c2,rfl,hv2,hb4⟩;have aci:=hv1 w4 hb4;have hv24:=hv2 w4 (yab _ _)))
        all_goals
          go_wp2_with fail;exact ze (fn:=Tryz.f3) (Post:=fun e w'=>e= .returned (.bool true)∧RowKit.Below w.heap.size w w') rfl rfl rfl ⟨rfl,(hbd.trans (hb3.mono hbd.size)).trans (hb4.mono (hbd.trans (hb3.mono hbd.size)).size)⟩
      | _=>exact hh.elim
end Go.Proofs
namespace Go.Proofs.YtkemikknnokdhaaGreat
theorem zpL:(Dw.ev Tryz.prog (Dw.zH) 100000000 (.call 5 [] Dw.og Dw.isTrue)).good=true:=by kernel_rfl
theorem abb:Dw.zvv Tryz.prog 5:=Dw.zps (by kernel_rfl) (fun w=>Dw.Zr) zpL
theorem zmX:Tryz.pinned.checked.prog.mayEnter=true:=by kernel_rfl
end Go.Proofs.YtkemikknnokdhaaGreat
namespace Go.Proofs.YtkemikknnokdhaaGreat.pdriveScript
open Go.ChangeShapes Go.WideShapes Go.ChangeAt Go.RowKit
theorem aaf:joinedFacts Tryz.pinned.checked.prog 3 Tryz.f3 Rows.pdriveScriptSpec Rows.pdriveScriptRow=true:=by
 unfold joinedFacts;rw [zmX];kernel_rfl
end Go.Proofs.YtkemikknnokdhaaGreat.pdriveScript
end
