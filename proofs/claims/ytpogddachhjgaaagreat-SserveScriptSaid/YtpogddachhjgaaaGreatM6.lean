/-
  Proved: laws on the way to 'SserveScriptProof' (texts UbN PsG0 PsG PsH PsI PsJ PsK0 PsK PsL PsM PsF PsN PsO PsP0 PsP PsQ PsR0 PsR PsS PsT PsU PsX PsY PtA0 PtA PtB PtC PtD PtE0 PtE PtF PtG PtH PtI PtJ PtK PtL PtM PtN PuB PvA PvB PuA0 PuA PuC PvC PuD PuE PuF PuG PuH PuI PuI2 PvD PvE PvF PvN QaJ QaK UaA UaB UaC UaD QaL UaE UbO UbP UcA UcB UcE UcF UdA UdB UdC UdD XdK0 UdE UdF); no condition.
-/
import Derived.Test.YtpogddachhjgaaaGreatM5
import Derived.Deep.CutRange
import Derived.Deep.RegionLaw
import Derived.Deep.RegionWith
import Derived.Deep.RegionHeld3
import Derived.Deep.QuietTactic
import Derived.BigQuiet
set_option linter.unusedSimpArgs false
set_option linter.unusedVariables false
set_option maxHeartbeats 4000000
noncomputable section
namespace Go.Proofs
open Go.Dw Go.RowKit Go.Maps Go.Sort Go.Deep
theorem Tryz.Y9 {tk:List (Int×List Sg)} {vs:List Value} (h:vs.length=tk.length) {k:Nat} (hk:k<tk.length) (i:Nat) (hi:i<(tk.take k++tk.drop (k+1)).length) (hi':i<(vs.take k++vs.drop (k+1)).length): ∃(j:Nat) (hj:j<tk.length) (hj':j<vs.length),(tk.take k++tk.drop (k+1))[i]=tk[j]∧(vs.take k++vs.drop (k+1))[i]=vs[j]:=by
 have hl:(tk.take k).length=k:=by simp;omega
 have hl':(vs.take k).length=k:=by simp;omega
 simp only [yaQ,ycs,hl] at hi;by_cases hik:i<k
 ·refine ⟨i,by omega,by omega,?_,?_⟩
  ·rw [ybR (by omega),List.getElem_take]
  ·rw [ybR (by omega),List.getElem_take]
 ·refine ⟨k+1+(i-k),by omega,by omega,?_,?_⟩
  ·rw [ybL (by omega),List.getElem_drop];simp only [hl]
  ·rw [ybL (by omega),List.getElem_drop];simp only [hl']
set_option maxRecDepth 100000 in
theorem Tryz.R6:(prog.info? 148).map (fun i=>(i.zero,i.size,i.bytes))=some (some (.agg #[.int .i64 0,.slice none 0 0]),2,32):=by kernel_rfl
theorem Tryz.ZN (w:World) (t:TypeId) (sz:Nat):((w.alloc (Obj.cells #[] t)).drew).ownsRow w.heap.size t sz (.slice (some ⟨w.heap.size,0,none⟩) 0 0) 0 []:=
 ⟨by simp,.inr ⟨_,0,_,rfl,yab _,ydh w _,yab _,yax _,by simp,by simp⟩⟩
theorem Tryz.Xq {w:World} {G:Nat} {cs:List Value} (h:w.rangeAt G 0 cs) {k c:Nat} (hc:cs.length≤c*2): ∀j u,(cs.drop (k*2))[j]? =some u→w.cell? ((if c=k then (⟨G,0,none⟩:Addr) else ⟨G,k*2,none⟩).add j)=some u:=fun j u hu=>by
 by_cases hk:c=k
 ·subst hk;rw [List.drop_eq_nil_of_le hc] at hu;cases hu
 ·rw [yai hk];rw [Dw.addr_add];rw [yb7] at hu;have:=h _ u hu
  rwa [yaq] at this
theorem Tryz.zxS (us V:Int):decide (((us-V)%65536-1)%65536<(us-(us-1)%65536)%65536)=decide ((us-V-1)%65536<1):=by
 have e1:((us-V)%65536-1)%65536=(us-V-1)%65536:=by omega
 have e2:(us-(us-1)%65536)%65536=1:=by omega
 rw [e1,e2]
set_option maxRecDepth 100000 in
theorem Tryz.zoM {A:Nat→Prop} {w:World} {S P L Bs B N b2:Nat} {r:Rg} {s s':SS} {g:Nat→Int} {lv:Value} (h:aV A w S P L Bs B N b2 r s g lv) (hb:s.br=false) (hp:s.ph=15) (hl:s.tk.length≤100000) (hs':s'=uG r g s):
    Calls prog 78 #[.pointer (some ⟨S,0,none⟩)] w fun e w'=>e= .returned (.tuple #[.agg #[.int .i64 2,.int .i64 (if s.ev=true then 5 else 2),.int .i64 0],.int .i64 0])∧ ∃dV,aV A w' S P L Bs B N b2 r s' g dV∧(∀b,dV.ownBlock=some b→w.heap.size≤b)∧Dw.Mv (· =S) w w':=by
  have hRR:=h;obtain ⟨sv,vs,q1,q2,q3⟩:=h.obj;obtain ⟨t,hg⟩:=h.pb.ret (by omega);have k2:=(Cl.new w #[.int .i64 0,.int .i64 0,.int .i64 0] 81).alloc (Obj.cells #[.int .i64 2,.int .i64 2,.int .i64 0] 81);have kb:=Cl.new2 (w:=w.alloc (Obj.cells #[.int .i64 0,.int .i64 0,.int .i64 0] 81)) (b:=w.heap.size+1) (arr:= #[.int .i64 2,.int .i64 2,.int .i64 0]) (t:=81) (by simp);have hbx:=((yag w.heap.size w).alloc (yab _) (Obj.cells #[.int .i64 0,.int .i64 0,.int .i64 0] 81)).alloc (by simp) (Obj.cells #[.int .i64 2,.int .i64 2,.int .i64 0] 81);have p1:=q1.below hbx q1.lt;have ig:=h.rm.below hbx;have p0:=q1.below ((yag w.heap.size w).alloc (yab _) (Obj.cells #[.int .i64 0,.int .i64 0,.int .i64 0] 81)) q1.lt;have c12:=p0.cell 12 _ rfl;rw [hp] at c12;have c6:=p1.cell 6 _ rfl;have hbn:=h.rg.bnd;have hv0:=h.rg.v0;have fD:=h.pb.us;have hfit:=h.fit;have hN:=h.hN;obtain ⟨k,hk,k1,kt,k3⟩:=Ey hg;have hdel:=zsn hk k1 k3;unfold uG at hs';rw [hdel] at hs';have Uc: ∀e∈s.tk.take k++s.tk.drop (k+1),0≤e.1∧e.1<65536:=fun e he=>h.mP e (by rw [←hdel] at he;exact (BL _ _).subset he);have TT:((s.tk.take k++s.tk.drop (k+1)).map (·.1)).Nodup:=by rw [←hdel];exact h.nd.sublist ((BL _ _).map _)
  obtain ⟨kR,tK⟩: ∃kR,kR=CW r g s:=⟨_,rfl⟩;rw [←tK] at hs';have Ic: ∀v2:Value,((((s.aI r P sv lv).set 18 (.bool kR)).set 11 v2).set 12 (.int .i64 0)).set 19 (.bool true)=s'.aI r P sv v2:=fun v2=>by
    rw [hs'];unfold SS.aI;rw [hb];rfl
  have mJ:s'.tk=s.tk.take k++s.tk.drop (k+1):=by rw [hs'];rfl
  have GZ:s'.sg=s.sg:=by rw [hs'];rfl
  have GY:s'.ph=0:=by rw [hs'];rfl
  have GX:s'.br=false:=by rw [hs'];rfl
  have hpb:eF s':=hs'▸⟨h.pb.nx,h.pb.us,h.pb.hd,h.pb.wr,.inl (yax _),fun q=>absurd q (by show¬11≤0;decide)⟩;clear hs';obtain ⟨q5,⟨ty,hrow⟩,q6⟩:=id q3;obtain ⟨sa,c,hlv,zi⟩:=aG.row hrow;rcases zi with hr|⟨G,hsa,qY,hr⟩
  · have:=yaH List.length hr;rw [vF s.tk vs q3.1] at this;simp only [ybv] at this;omega
  have MI:=hrow.lt G qY;have hcap:s.tk.length≤c:=by rw [hlv] at hrow;exact aG.cap hrow (by omega)
  have hGS:G≠S:=by have:=h.lo.1;omega
  have aaY:=q1.lt;have nS:w.heap.size≠S:=by omega
  have Ep:w.heap.size+1≠S:=by omega
  have hT: ∀ {w'},Dw.Mv (· =S) w w'→wu A w' b2 lv s.tk vs:=fun {w'} hm=>q3.kept (fun b hb hn=>hm.block b hb fun e=>hn (by have e:b=S:=e;rw [e];exact h.aS)) (fun b e=>hm.block b (hrow.lt b e).2 fun e2=>by have e2:b=S:=e2;have:=(hrow.lt b e).1;have:=h.lo.1;omega);have hfind:=fun (w8:World) (p8:Cl w8 S ((s.aI r P sv lv).set 18 (.bool kR))) (iy:Dw.Mv (· =S) w w8)=>Jm (S:=S) (p8.cell 11 lv rfl) (hT iy) hl s.hd k (.inr ⟨k,hk,rfl,k1,k3⟩);have hone:=zqz q5 q6;have hlen:=vF s.tk vs q5;have Ua: ∀ {w'},Dw.Mv (· =S) w w'→w'.rangeAt G 0 (dI s.tk vs):=fun {w'} hm=>gL hr (hm.block G MI.2 hGS);clear aaY hdel;cases hev:s.ev
  case false=>
    rw [hev] at c6;have eG:=fun w'=>zAp r h.rg w';obtain ⟨a,ha⟩: ∃a:Nat,r.v=a:=⟨r.v.toNat,by omega⟩;have ha2:r.v.toNat=a:=by rw [ha];rfl
    unfold CW at tK;rw [hev,yai (by decide),ha2] at tK;rw [ha] at eG;have hld:=zL p1 ig hN 2 0 a 2 (.inr (.inl rfl)) (by omega) eG;have bV:=kE g h.rm.byte a 2;generalize aC g a 2=V at hld bV tK;have hvt:V.tmod 2=V%2:=ybs bV.1;clear ha ha2 eG hv0 hfit;go_enter func78,ntmps78;go_wp2_with (first
      | (go_at_call 106;refine hld.mono ?_;rintro en w3 ⟨rfl,hb3⟩;have p3:=p1.below hb3 p1.lt;have y6:=p3.cell 6 _ rfl;rw [hev] at y6;have Vp:=p3.cell 18 _ rfl;have f18:=p3.free 18;have p8:Cl (w3.setCell ⟨S,18,none⟩ (.bool (V%2==0))) S ((s.aI r P sv lv).set 18 (.bool kR)):=by
           rw [tK];exact p3.set 18 _ (by simp [SS.aI])
         have z6:=p8.cell 6 _ rfl;rw [hev] at z6;have BI:=p8.cell 15 _ rfl;have iy:Dw.Mv (· =S) w (w3.setCell ⟨S,18,none⟩ (.bool (V%2==0))):=cZ (eO (hbx.trans (hb3.mono hbx.size))) S 18 (.bool (V%2==0)) rfl;have uU:=(k2.below hb3 k2.lt).kept (yah w3 ⟨S,18,none⟩ (.bool (V%2==0)) w.heap.size nS);have Bw:=(kb.below hb3 kb.lt).kept (yah w3 ⟨S,18,none⟩ (.bool (V%2==0)) (w.heap.size+1) Ep)
         skip)
      | (go_at_call 73;refine (hfind _ p8 iy).mono ?_;rintro en w9 ⟨rfl,uQ⟩)
      | go_in)
    have hg1:=fun (w4:World) (v2:Value) (p4:Cl w4 S (((s.aI r P sv lv).set 18 (.bool kR)).set 11 v2))=>og p4 (by simp [SS.aI]) rfl rfl 2 2 0 0 true rfl;have jV:Dw.Mv (· =S) w w9:=iy.trans (eO uQ);have p9:=p8.below uQ p8.lt;have tN:=uU.below uQ uU.lt;have Eh:=Bw.below uQ Bw.lt;have Dl:=Ua jV;have MJ:G<w9.heap.size:=yad MI.2 jV.size;have vz:=p9.cell 11 _ rfl;have f11:=p9.free 11;rw [hlv,hsa] at vz;obtain ⟨i0,hi0,j1,j2,j3⟩:=ybl R6;have hU:prog.underlying 108=some (.slice 148):=by kernel_rfl
    have hoe:=ZN w9 148 2;have uM:G<((w9.alloc (Obj.cells #[] 148)).drew).heap.size:=by simp;omega
    have qc:((w9.alloc (Obj.cells #[] 148)).drew).rangeAt G 0 (dI s.tk vs):=gL Dl (yc3 w9 _ (h:=MJ));have hn1:((dI s.tk vs).take (k*2)).length=k*2:=by rw [ybz,hlen];omega
    have hn2:((dI s.tk vs).drop ((k+1)*2)).length=(s.tk.length-(k+1))*2:=by rw [ycs,hlen];omega
    have c1:(0:Int)≤(k:Int):=by omega
    have c2:(k:Int)≤(c:Int):=by omega
    have c3:(k:Int)+1≤(s.tk.length:Int):=by omega
    have c4:(s.tk.length:Int)≤(c:Int):=by omega
    have c5:(0:Int)≤(k:Int)+1:=by omega
    have c6:=Cw k (by omega);have c7:(k:Int)+1≤(c:Int):=by omega
    have abb:w9.heap.size≠S:=by have:=p9.lt;omega
    have M4:=(yag w9.heap.size w9).alloc (yab _) (Obj.cells #[] 148);have zD:=p9.below M4 p9.lt;have xH:=zD.cell 11 _ rfl;rw [hlv,hsa] at xH;have uP:S<((w9.alloc (Obj.cells #[] 148)).drew).heap.size:=zD.lt;go_cut [] from 134 to 152 (fun wx=> ∃v2 t2,aG t2 2 wx w9.heap.size v2 (s.tk.length-1) (dI (s.tk.take k++s.tk.drop (k+1)) (vs.take k++vs.drop (k+1)))∧Cl wx S (((s.aI r P sv lv).set 18 (.bool kR)).set 11 v2)∧Dw.Mv (· =S) w9 wx)
    case first=>
      go_region_law (first
        | (refine qC (P0:=prog) (by rfl) _ _ _ (by rfl) w9.heap.size 148 148 i0 _ 2 32 hU hi0 j1 j2 j3 rfl (by decide) (.slice (some ⟨w9.heap.size,0,none⟩) 0 0) 0 [] (by rfl) hoe (some ⟨G,0,none⟩) ⟨G,0,none⟩ rfl k c ((dI s.tk vs).take (k*2)) (by rfl) hn1
             (zmt qc (k*2)) (fun u hu=>hone u (ybA hu)) (by unfold maxLen;omega) (by omega) (by simp) ?_
           intro v1 wa t1 hown1 hgrow1 tH;have qX:=YL qc hgrow1 uM (fun e=>by simp [Value.ownBlock] at e;omega);have hSb:=hgrow1.block S uP (fun e=>by simp [Value.ownBlock] at e;omega);have Et:=zD.kept (w':=wa) hSb;have IQ:=Et.cell 11 _ rfl;rw [hlv,hsa] at IQ)
        | (refine qC (P0:=prog) (by rfl) _ _ _ (by rfl) w9.heap.size 148 t1 i0 _ 2 32 hU hi0 j1 j2 j3 rfl (by decide) v1 (0+k) ([]++(dI s.tk vs).take (k*2)) (by rfl) hown1 (if c=k+1 then some ⟨G,0,none⟩ else some ⟨G,(k+1)*2,none⟩) (if c=k+1 then ⟨G,0,none⟩ else ⟨G,(k+1)*2,none⟩) (by split<;>rfl) (s.tk.length-(k+1)) (c-(k+1)) ((dI s.tk vs).drop ((k+1)*2)) (by rfl) hn2
             (Xq qX (by rw [hlen];omega)) (fun u hu=>hone u (ya2 hu)) (by unfold maxLen;omega) (by omega) (by have:=hgrow1.size;simp at this;omega) ?_
           intro v2 wb t2 hown2 hgrow2 Dy;have MR:=hgrow2.block S (yad uP hgrow1.size) (fun e=>by
             rcases tH with q|q
             · rw [q] at e;simp [Value.ownBlock] at e;omega
             · rw [q] at e;simp at e;have:=p9.lt;omega)
           have zF:=Et.kept (w':=wb) MR;have abF:=zF.cell 11 _ rfl;obtain ⟨fU,c2,hv2,DT⟩:=aG.row hown2;clear DT;subst hv2;have aak:=zF.free 11))
      all_goals (go_wp2_with fail)
      all_goals
        go_meet;have hcs: []++(dI s.tk vs).take (k*2)++(dI s.tk vs).drop ((k+1)*2)=dI (s.tk.take k++s.tk.drop (k+1)) (vs.take k++vs.drop (k+1)):=by
          rw [ycd,Xx q5 (by omega),Xz q5 (by omega),ED _ _ (by simp [q5])]
        have hcl:0+k+(s.tk.length-(k+1))=s.tk.length-1:=by omega
        have Na:k+(s.tk.length-(k+1))=s.tk.length-1:=by omega
        rw [hcs,hcl] at hown2;rw [Na];have e1:Below w9.heap.size w9 ((w9.alloc (Obj.cells #[] 148)).drew):=⟨rfl,rfl,rfl,by simp,fun b hb=>yc3 w9 _ (h:=hb)⟩;have e2:Below w9.heap.size ((w9.alloc (Obj.cells #[] 148)).drew) wa:=⟨hgrow1.os,hgrow1.tape,hgrow1.output,hgrow1.size,fun b hb=>hgrow1.block b (by simp;omega) (fun e=>by simp [Value.ownBlock] at e;omega)⟩;have hs1:=hgrow1.size;simp at hs1;have e3:Below w9.heap.size wa wb:=⟨hgrow2.os,hgrow2.tape,hgrow2.output,hgrow2.size,fun b hb=>hgrow2.block b (by omega) (fun e=>by
          rcases tH with h|h
          · rw [h] at e;simp [Value.ownBlock] at e;omega
          · rw [h] at e;simp at e;omega)⟩
        exact ⟨_,t2,aG.kept hown2 fun b hh=>yah wb ⟨S,11,none⟩ _ b fun e=>by have e:b=S:=e;have:=(aG.lt hown2 b hh).1;have:=p9.lt;omega,zF.set 11 _ (by simp [SS.aI]),cZ (eO ((e1.trans e2).trans e3)) S 11 _ rfl⟩
    case rest=>
      obtain ⟨v2,t2,hown2,Oj,y8⟩:=hcut;have ND:=jV.trans y8;have Ej:Cl wc w.heap.size _:=tN.kept (y8.block _ tN.lt nS);have zo:=Eh.kept (y8.block _ Eh.lt Ep);have e0:=zo.cell 0 _ rfl;have e1:=zo.cell 1 _ rfl;have e2:=zo.cell 2 _ rfl;have hg2:=hg1 _ _ Oj;rw [Ic] at hg2;clear hg1;clear xH vz f11 Dl qc hoe hone hlen hn1 hn2;go_wp2_with (first
        | (go_at_call 105;refine hg2.mono ?_;rintro en OH ⟨rfl,DJ,rz⟩;have kc:=Ej.kept (rz.block _ Ej.lt nS);have b0:=kc.cell 0 _ rfl;have b1:=kc.cell 1 _ rfl;have b2':=kc.cell 2 _ rfl;have g0:=kc.free 0;have g1:=kc.free 1;have g2:=kc.free 2)
        | go_in)
      have sf:=((kc.set 0 (.int .i64 2) (by simp)).set 1 (.int .i64 2) (by simp)).set 2 (.int .i64 0) (by simp);refine yaI (gI rfl _ _ w.heap.size [.int .i64 2,.int .i64 2,.int .i64 0] _ rfl (fun j y hy=>by rw [yaq];exact sf.cell j y hy) underlying81 rfl (by kernel_rfl)) rfl ?_;have oQ:=gN (gN (gN (ND.trans rz) w.heap.size 0 (.int .i64 2) (.inr (yab _))) w.heap.size 1 (.int .i64 2) (.inr (yab _))) w.heap.size 2 (.int .i64 0) (.inr (yab _));have DK:=((DJ.kept (yah _ ⟨w.heap.size,0,none⟩ (.int .i64 2) S (fun e=>nS e.symm))).kept (yah _ ⟨w.heap.size,1,none⟩ (.int .i64 2) S (fun e=>nS e.symm))).kept (yah _ ⟨w.heap.size,2,none⟩ (.int .i64 0) S (fun e=>nS e.symm));have h9:=jV.size;have hv2: ∀b,v2.ownBlock=some b→w.heap.size+1≤b∧b<wc.heap.size:=fun b e=>by have:=hown2.lt b e;have:=tN.lt;omega
      have hseg: ∀ {v:Value} {l:List Sg} {w':World},Dw.Mv (· =S) w w'→aL (fun b=>A b∨lv.ownBlock=some b) w v l→aL (fun b=>A b∨v2.ownBlock=some b) w' v l:=fun hm q=>aL.uY q (fun b hb hh=>hh.elim .inl fun e=>by have:=(hv2 b e).1;omega) fun b hb hn=>hm.block b hb fun e=>hn (.inl (by have e:b=S:=e;rw [e];exact hRR.aS));have DY:=aG.kept (w':=((OH.setCell ⟨w.heap.size,0,none⟩ (.int .i64 2)).setCell ⟨w.heap.size,1,none⟩ (.int .i64 2)).setCell ⟨w.heap.size,2,none⟩ (.int .i64 0)) hown2 fun b e=>by
        have q1:=hv2 b e;have n1:b≠w.heap.size:=by omega
        exact (yah _ ⟨w.heap.size,2,none⟩ (.int .i64 0) b n1).trans ((yah _ ⟨w.heap.size,1,none⟩ (.int .i64 2) b n1).trans ((yah _ ⟨w.heap.size,0,none⟩ (.int .i64 2) b n1).trans (rz.block b q1.2 fun e2=>by have e2:b=S:=e2;have:=q1.1;have:=q1.2;have:=hRR.lo.1;have:=hRR.b2;omega)))
      refine ⟨rfl,v2,hRR.tX (oQ.mono fun b e=> .inl e) DK (hseg oQ (GZ▸q2)) (vs':=vs.take k++vs.drop (k+1)) ⟨?_,⟨t2,?_⟩,fun i hi hi'=> ?_⟩ hpb (fun q=> ?_) (mJ▸Uc) (mJ▸TT),fun b e=>by have:=(hv2 b e).1;omega,oQ⟩
      · rw [mJ];simp [q5]
      · rw [mJ];have hl2:(s.tk.take k++s.tk.drop (k+1)).length=s.tk.length-1:=by simp;omega
        rw [hl2];exact aG.mono DY (by have:=hRR.b2;omega)
      · obtain ⟨j,hj,hj',e1,e2⟩:=Y9 (tk:=s.tk) (vs:=vs) q5 hk i (mJ▸hi) hi';rw [e2];have e3:s'.tk[i]=s.tk[j]:=by rw [←e1];congr 1
        rw [e3];exact hseg oQ (q6 j hj hj')
      · rcases q with q|q
        · exact absurd GY q
        · rw [GX] at q;cases q
  case true=>
    rw [hev] at c6;have d6:=c6;have eG:=fun w'=>zAi r h.rg w';obtain ⟨a,ha⟩: ∃a:Nat,r.v+4+2*r.n=a:=⟨(r.v+4+2*r.n).toNat,by omega⟩;have ha2:(r.v+4+2*r.n).toNat=a:=by rw [ha];rfl
    unfold CW at tK;rw [hev,yak rfl,ha2] at tK;rw [ha] at eG;have Uu:=(Cl.new w #[.int .i64 0,.int .i64 0,.int .i64 0] 81).alloc (Obj.cells #[.int .i64 2,.int .i64 5,.int .i64 0] 81);have kA:=Cl.new2 (w:=w.alloc (Obj.cells #[.int .i64 0,.int .i64 0,.int .i64 0] 81)) (b:=w.heap.size+1) (arr:= #[.int .i64 2,.int .i64 5,.int .i64 0]) (t:=81) (by simp);have iC:=((yag w.heap.size w).alloc (yab _) (Obj.cells #[.int .i64 0,.int .i64 0,.int .i64 0] 81)).alloc (by simp) (Obj.cells #[.int .i64 2,.int .i64 5,.int .i64 0] 81);have pA:=q1.below iC q1.lt;have rmA:=h.rm.below iC;have NG:=eO (K:=(· =S)) iC;have c6:=pA.cell 6 _ rfl;rw [hev] at c6;have hld:=zL pA rmA hN 5 0 a 2 (.inr (.inl rfl)) (by omega) eG;have bV:=kE g h.rm.byte a 2;generalize aC g a 2=V at hld bV tK;have hvt:V.tmod 2=V%2:=ybs bV.1;have w1':IntKind.wrap .u16 V=V:=yw (by omega) (by omega);have SG:decide (((s.us-V)%65536-1)%65536<(s.us-IntKind.wrap .u16 (s.us-1))%65536)=kR:=by rw [FC,zxS,tK]
    have hne: ∀w',Calls prog 107 #[.int .u16 V,.int .u16 s.us,.int .u16 (IntKind.wrap .u16 (s.us-1))] w' fun e w2=>e= .returned (.bool kR)∧Below w'.heap.size w' w2:=fun w'=>by
      have q:=zq8 V s.us (IntKind.wrap .u16 (s.us-1)) w';rw [SG] at q;refine q.mono ?_;rintro e w2 ⟨rfl,rfl⟩;exact ⟨rfl,yag _ _⟩
    clear ha ha2 eG hv0 hfit tK SG;go_enter func78,ntmps78;go_wp2_with (first
      | (go_at_call 106;refine hld.mono ?_;rintro en w3 ⟨rfl,hb3⟩;have p3:=pA.below hb3 pA.lt;have y6:=p3.cell 6 _ rfl;rw [hev] at y6;have Vp:=p3.cell 18 _ rfl;have f18:=p3.free 18;have p8:=p3.set 18 (.bool (V%2==0)) (by simp [SS.aI]);have z6:=p8.cell 6 _ rfl;rw [hev] at z6;have BI:=p8.cell 15 _ rfl;have iy:Dw.Mv (· =S) w (w3.setCell ⟨S,18,none⟩ (.bool (V%2==0))):=cZ (NG.trans (eO hb3)) S 18 (.bool (V%2==0)) rfl;have uU:=(Uu.below hb3 Uu.lt).kept (yah w3 ⟨S,18,none⟩ (.bool (V%2==0)) w.heap.size nS);have Bw:=(kA.below hb3 kA.lt).kept (yah w3 ⟨S,18,none⟩ (.bool (V%2==0)) (w.heap.size+1) Ep))
      | go_in)
    generalize w3.setCell ⟨S,18,none⟩ (.bool (V%2==0))=w8 at p8 iy uU Bw z6 BI ⊢;have pq:=p8.kept (w':=w8.drew) rfl;have kq:=uU.kept (w':=w8.drew) rfl;have N7:=Bw.kept (w':=w8.drew) rfl;have TP:Dw.Mv (· =S) w w8.drew:=⟨iy.os,iy.tape,iy.output,iy.size,iy.block⟩;clear y6 Vp f18 p3 hb3 c6;have z10:=p8.cell 10 _ rfl;go_wp2_with fail;go_region_held3 (fun w'=>w'.cell? ⟨S,10,none⟩=some (.int .u16 s.us)) (go_keep)
      ((first
        | (go_at_call 107;refine (hne _).mono ?_;rintro en w6 ⟨rfl,hb6⟩;have p6:=pq.below hb6 pq.lt;have v10:=p6.cell 10 _ rfl;have v18:=p6.cell 18 _ rfl;have f18:=p6.free 18;have pz:Cl (w6.setCell ⟨S,18,none⟩ (.bool kR)) S ((s.aI r P sv lv).set 18 (.bool kR)):=p6.set 18 (.bool kR) (by simp [SS.aI]);have d10:=pz.cell 10 _ rfl)))
    have hmz:Dw.Mv (· =S) w (w6.setCell ⟨S,18,none⟩ (.bool kR)):=cZ (TP.trans (eO hb6)) S 18 (.bool kR) rfl;have N9:=(kq.below hb6 kq.lt).kept (yah w6 ⟨S,18,none⟩ (.bool kR) w.heap.size nS);have N8:=(N7.below hb6 N7.lt).kept (yah w6 ⟨S,18,none⟩ (.bool kR) (w.heap.size+1) Ep);clear d10 v10 v18 f18 p6 hb6;generalize w6.setCell ⟨S,18,none⟩ (.bool kR)=wz at pz hmz N9 N8 ⊢;clear z10 z6 BI pq kq N7 TP p8 iy uU Bw;have BI:=pz.cell 15 _ rfl;have hf:=hfind _ pz hmz;go_wp2_with (first
      | (go_at_call 73;refine hf.mono ?_;rintro en w9 ⟨rfl,uQ⟩)
      | go_in)
    have hg1:=fun (w4:World) (v2:Value) (p4:Cl w4 S (((s.aI r P sv lv).set 18 (.bool kR)).set 11 v2))=>og p4 (by simp [SS.aI]) rfl rfl 2 5 0 0 true rfl;have jV:Dw.Mv (· =S) w w9:=hmz.trans (eO uQ);have p9:=pz.below uQ pz.lt;have tN:=N9.below uQ N9.lt;have Eh:=N8.below uQ N8.lt;have Dl:=Ua jV;have MJ:G<w9.heap.size:=yad MI.2 jV.size;have vz:=p9.cell 11 _ rfl;have f11:=p9.free 11;rw [hlv,hsa] at vz;obtain ⟨i0,hi0,j1,j2,j3⟩:=ybl R6;have hU:prog.underlying 108=some (.slice 148):=by kernel_rfl
    have hoe:=ZN w9 148 2;have uM:G<((w9.alloc (Obj.cells #[] 148)).drew).heap.size:=by simp;omega
    have qc:((w9.alloc (Obj.cells #[] 148)).drew).rangeAt G 0 (dI s.tk vs):=gL Dl (yc3 w9 _ (h:=MJ));have hn1:((dI s.tk vs).take (k*2)).length=k*2:=by rw [ybz,hlen];omega
    have hn2:((dI s.tk vs).drop ((k+1)*2)).length=(s.tk.length-(k+1))*2:=by rw [ycs,hlen];omega
    have c1:(0:Int)≤(k:Int):=by omega
    have c2:(k:Int)≤(c:Int):=by omega
    have c3:(k:Int)+1≤(s.tk.length:Int):=by omega
    have c4:(s.tk.length:Int)≤(c:Int):=by omega
    have c5:(0:Int)≤(k:Int)+1:=by omega
    have c6:=Cw k (by omega);have c7:(k:Int)+1≤(c:Int):=by omega
    have abb:w9.heap.size≠S:=by have:=p9.lt;omega
    have M4:=(yag w9.heap.size w9).alloc (yab _) (Obj.cells #[] 148);have zD:=p9.below M4 p9.lt;have xH:=zD.cell 11 _ rfl;rw [hlv,hsa] at xH;have uP:S<((w9.alloc (Obj.cells #[] 148)).drew).heap.size:=zD.lt;go_cut [] from 134 to 152 (fun wx=> ∃v2 t2,aG t2 2 wx w9.heap.size v2 (s.tk.length-1) (dI (s.tk.take k++s.tk.drop (k+1)) (vs.take k++vs.drop (k+1)))∧Cl wx S (((s.aI r P sv lv).set 18 (.bool kR)).set 11 v2)∧Dw.Mv (· =S) w9 wx)
    case first=>
      go_region_law (first
        | (refine qC (P0:=prog) (by rfl) _ _ _ (by rfl) w9.heap.size 148 148 i0 _ 2 32 hU hi0 j1 j2 j3 rfl (by decide) (.slice (some ⟨w9.heap.size,0,none⟩) 0 0) 0 [] (by rfl) hoe (some ⟨G,0,none⟩) ⟨G,0,none⟩ rfl k c ((dI s.tk vs).take (k*2)) (by rfl) hn1
             (zmt qc (k*2)) (fun u hu=>hone u (ybA hu)) (by unfold maxLen;omega) (by omega) (by simp) ?_
           intro v1 wa t1 hown1 hgrow1 tH;have qX:=YL qc hgrow1 uM (fun e=>by simp [Value.ownBlock] at e;omega);have hSb:=hgrow1.block S uP (fun e=>by simp [Value.ownBlock] at e;omega);have Et:=zD.kept (w':=wa) hSb;have IQ:=Et.cell 11 _ rfl;rw [hlv,hsa] at IQ)
        | (refine qC (P0:=prog) (by rfl) _ _ _ (by rfl) w9.heap.size 148 t1 i0 _ 2 32 hU hi0 j1 j2 j3 rfl (by decide) v1 (0+k) ([]++(dI s.tk vs).take (k*2)) (by rfl) hown1 (if c=k+1 then some ⟨G,0,none⟩ else some ⟨G,(k+1)*2,none⟩) (if c=k+1 then ⟨G,0,none⟩ else ⟨G,(k+1)*2,none⟩) (by split<;>rfl) (s.tk.length-(k+1)) (c-(k+1)) ((dI s.tk vs).drop ((k+1)*2)) (by rfl) hn2
             (Xq qX (by rw [hlen];omega)) (fun u hu=>hone u (ya2 hu)) (by unfold maxLen;omega) (by omega) (by have:=hgrow1.size;simp at this;omega) ?_
           intro v2 wb t2 hown2 hgrow2 Dy;have MR:=hgrow2.block S (yad uP hgrow1.size) (fun e=>by
             rcases tH with q|q
             · rw [q] at e;simp [Value.ownBlock] at e;omega
             · rw [q] at e;simp at e;have:=p9.lt;omega)
           have zF:=Et.kept (w':=wb) MR;have abF:=zF.cell 11 _ rfl;obtain ⟨fU,c2,hv2,DT⟩:=aG.row hown2;clear DT;subst hv2;have aak:=zF.free 11))
      all_goals (go_wp2_with fail)
      all_goals
        go_meet;have hcs: []++(dI s.tk vs).take (k*2)++(dI s.tk vs).drop ((k+1)*2)=dI (s.tk.take k++s.tk.drop (k+1)) (vs.take k++vs.drop (k+1)):=by
          rw [ycd,Xx q5 (by omega),Xz q5 (by omega),ED _ _ (by simp [q5])]
        have hcl:0+k+(s.tk.length-(k+1))=s.tk.length-1:=by omega
        have Na:k+(s.tk.length-(k+1))=s.tk.length-1:=by omega
        rw [hcs,hcl] at hown2;rw [Na];have e1:Below w9.heap.size w9 ((w9.alloc (Obj.cells #[] 148)).drew):=⟨rfl,rfl,rfl,by simp,fun b hb=>yc3 w9 _ (h:=hb)⟩;have e2:Below w9.heap.size ((w9.alloc (Obj.cells #[] 148)).drew) wa:=⟨hgrow1.os,hgrow1.tape,hgrow1.output,hgrow1.size,fun b hb=>hgrow1.block b (by simp;omega) (fun e=>by simp [Value.ownBlock] at e;omega)⟩;have hs1:=hgrow1.size;simp at hs1;have e3:Below w9.heap.size wa wb:=⟨hgrow2.os,hgrow2.tape,hgrow2.output,hgrow2.size,fun b hb=>hgrow2.block b (by omega) (fun e=>by
          rcases tH with h|h
          · rw [h] at e;simp [Value.ownBlock] at e;omega
          · rw [h] at e;simp at e;omega)⟩
        exact ⟨_,t2,aG.kept hown2 fun b hh=>yah wb ⟨S,11,none⟩ _ b fun e=>by have e:b=S:=e;have:=(aG.lt hown2 b hh).1;have:=p9.lt;omega,zF.set 11 _ (by simp [SS.aI]),cZ (eO ((e1.trans e2).trans e3)) S 11 _ rfl⟩
    case rest=>
      obtain ⟨v2,t2,hown2,Oj,y8⟩:=hcut;have ND:=jV.trans y8;have Ej:Cl wc w.heap.size _:=tN.kept (y8.block _ tN.lt nS);have zo:=Eh.kept (y8.block _ Eh.lt Ep);have e0:=zo.cell 0 _ rfl;have e1:=zo.cell 1 _ rfl;have e2:=zo.cell 2 _ rfl;have hg2:=hg1 _ _ Oj;rw [Ic] at hg2;clear hg1;clear xH vz f11 Dl qc hoe hone hlen hn1 hn2;go_wp2_with (first
        | (go_at_call 105;refine hg2.mono ?_;rintro en OH ⟨rfl,DJ,rz⟩;have kc:=Ej.kept (rz.block _ Ej.lt nS);have b0:=kc.cell 0 _ rfl;have b1:=kc.cell 1 _ rfl;have b2':=kc.cell 2 _ rfl;have g0:=kc.free 0;have g1:=kc.free 1;have g2:=kc.free 2)
        | go_in)
      have sf:=((kc.set 0 (.int .i64 2) (by simp)).set 1 (.int .i64 5) (by simp)).set 2 (.int .i64 0) (by simp);refine yaI (gI rfl _ _ w.heap.size [.int .i64 2,.int .i64 5,.int .i64 0] _ rfl (fun j y hy=>by rw [yaq];exact sf.cell j y hy) underlying81 rfl (by kernel_rfl)) rfl ?_;have oQ:=gN (gN (gN (ND.trans rz) w.heap.size 0 (.int .i64 2) (.inr (yab _))) w.heap.size 1 (.int .i64 5) (.inr (yab _))) w.heap.size 2 (.int .i64 0) (.inr (yab _));have DK:=((DJ.kept (yah _ ⟨w.heap.size,0,none⟩ (.int .i64 2) S (fun e=>nS e.symm))).kept (yah _ ⟨w.heap.size,1,none⟩ (.int .i64 5) S (fun e=>nS e.symm))).kept (yah _ ⟨w.heap.size,2,none⟩ (.int .i64 0) S (fun e=>nS e.symm));have h9:=jV.size;have hv2: ∀b,v2.ownBlock=some b→w.heap.size+1≤b∧b<wc.heap.size:=fun b e=>by have:=hown2.lt b e;have:=tN.lt;omega
      have hseg: ∀ {v:Value} {l:List Sg} {w':World},Dw.Mv (· =S) w w'→aL (fun b=>A b∨lv.ownBlock=some b) w v l→aL (fun b=>A b∨v2.ownBlock=some b) w' v l:=fun hm q=>aL.uY q (fun b hb hh=>hh.elim .inl fun e=>by have:=(hv2 b e).1;omega) fun b hb hn=>hm.block b hb fun e=>hn (.inl (by have e:b=S:=e;rw [e];exact hRR.aS));have DY:=aG.kept (w':=((OH.setCell ⟨w.heap.size,0,none⟩ (.int .i64 2)).setCell ⟨w.heap.size,1,none⟩ (.int .i64 5)).setCell ⟨w.heap.size,2,none⟩ (.int .i64 0)) hown2 fun b e=>by
        have q1:=hv2 b e;have n1:b≠w.heap.size:=by omega
        exact (yah _ ⟨w.heap.size,2,none⟩ (.int .i64 0) b n1).trans ((yah _ ⟨w.heap.size,1,none⟩ (.int .i64 5) b n1).trans ((yah _ ⟨w.heap.size,0,none⟩ (.int .i64 2) b n1).trans (rz.block b q1.2 fun e2=>by have e2:b=S:=e2;have:=q1.1;have:=q1.2;have:=hRR.lo.1;have:=hRR.b2;omega)))
      refine ⟨rfl,v2,hRR.tX (oQ.mono fun b e=> .inl e) DK (hseg oQ (GZ▸q2)) (vs':=vs.take k++vs.drop (k+1)) ⟨?_,⟨t2,?_⟩,fun i hi hi'=> ?_⟩ hpb (fun q=> ?_) (mJ▸Uc) (mJ▸TT),fun b e=>by have:=(hv2 b e).1;omega,oQ⟩
      · rw [mJ];simp [q5]
      · rw [mJ];have hl2:(s.tk.take k++s.tk.drop (k+1)).length=s.tk.length-1:=by simp;omega
        rw [hl2];exact aG.mono DY (by have:=hRR.b2;omega)
      · obtain ⟨j,hj,hj',e1,e2⟩:=Y9 (tk:=s.tk) (vs:=vs) q5 hk i (mJ▸hi) hi';rw [e2];have e3:s'.tk[i]=s.tk[j]:=by rw [←e1];congr 1
        rw [e3];exact hseg oQ (q6 j hj hj')
      · rcases q with q|q
        · exact absurd GY q
        · rw [GX] at q;cases q
end Go.Proofs
namespace Go.Proofs
open Go.Dw Go.RowKit
section
variable {ρ:Val} {P L Bs B N:Nat} {n d v c i ct id nx e:Int} {tb wr nwr:Bool} {sv:Value} {g:Nat→Int} {b2 W0:Nat} {l l3:List Tryz.Sg} {a q1 q2 q3:Nat} {w0:World} {K:Nat→Prop}
end
end Go.Proofs
namespace Go.Proofs
open Go.Dw Go.RowKit Go.Maps Go.Sort
section
variable {A:Nat→Prop} {w:World} {S P L Bs B M N:Nat} {r:Tryz.Rg} {s:Tryz.PS} {g:Nat→Int}
end
end Go.Proofs
namespace Go.Proofs
open Go.Dw Go.RowKit Go.Maps Go.Sort
def Tryz.UN (n:Int) (l:List Sg):Prop:=lT l=0∧(l.length:Int)≤n
instance (n:Int) (l:List Tryz.Sg):Decidable (Tryz.UN n l):=by unfold Tryz.UN;infer_instance
structure Tryz.Ob (σ:Type) where
 L:σ→(Nat→Prop)→World→Prop
 T:Nat→Prop
 kept: ∀ {s F w w'},L s F w→(∀b,F b→w'.heap[b]? =w.heap[b]?)→w.heap.size≤w'.heap.size→L s F w'
 leans: ∀ {s F w},L s F w→ ∀b,T b→F b
section
variable {σ:Type} {O:Tryz.Ob σ} {X:Nat→Prop} {bX:Nat} {ρ:Val} {w0:World} {K:Nat→Prop} {b2:Nat} {sk:Nat→σ} {rows:Nat→List Tryz.vZ} {f:FuncId} {args:List AV} {res:AV} {k k':Nat}
end
section
variable {S P L Bs B M N:Nat} {r:Tryz.Rg} {s s':Tryz.PS×(Nat→Int)} {F F':Nat→Prop} {w w':World}
end
section
variable {X:Nat→Prop} {bX:Nat} {ρ:Val} {w0:World} {K:Nat→Prop} {S P L Bs B M N:Nat} {r:Tryz.Rg} {b2:Nat} {sk:Nat→Tryz.PS×(Nat→Int)} {rows:Nat→List Tryz.vZ} {f:FuncId} {args:List AV} {res:AV} {k k':Nat}
end
end Go.Proofs
namespace Go.Proofs
open Go.Dw Go.RowKit Go.Maps Go.Sort
section
variable {ρ:Val} {w0:World} {K:Nat→Prop} {X:Nat→Prop} {bX:Nat} {S P L Bs B M N:Nat} {r:Tryz.Rg} {b2:Nat} {sk:Nat→Tryz.PS×(Nat→Int)} {rows:Nat→List Tryz.vZ} {k k' q:Nat}
end
end Go.Proofs
namespace Go.Proofs
open Go.Dw Go.RowKit Go.Maps Go.Sort
structure Tryz.Pc where
 k:Int
 n:Int
 v:Int
 a:Int
 l:Int
 f:Int
 x:Int
 gd:Bool
 sv:Value
 sl:List Sg
structure Tryz.PmV where
 r:Rg
 c:Pc
 ab3:Int
 i:Int
 steps:Int
 na:Int
 nw:Bool
 h1:Int
 h2:Int
 pick:Int
 code:Int
 err:Int
 x:Int
 y:Int
 z:Int
 cnt:Int
 na2:Int
 nw2:Bool
 abH:Bool
 abI:Bool
 off:Bool
 ret:Bool
 busy:Bool
 mem:Value
 aj:Value
 acts:Value
section
variable {ρ:Val} {m:Tryz.PmV}
end
section
variable {W0:World} {X9 X15 S P L Bs B M:Nat} {r:Tryz.Rg} {av:Value} {acts:List Tryz.Pc} {s:Tryz.PS×(Nat→Int)} {i steps:Nat} {na:Int} {nw:Bool} {a:Act} {w:World}
end
end Go.Proofs
namespace Go.Proofs
open Go.Dw Go.RowKit Go.Maps Go.Sort Go.Deep
theorem Tryz.zr6 (g:Nat→Int) (a:Nat): ∀k,aC g a (k+1)=g a+256*aC g (a+1) k
 | 0=>by simp [aC]
 | k+1=>by
  have ih:=zr6 g a k;rw [show aC g a (k+1+1)=aC g a (k+1)+g (a+(k+1))*256^(k+1) from rfl,ih,
   show aC g (a+1) (k+1)=aC g (a+1) k+g (a+1+k)*256^k from rfl,show a+(k+1)=a+1+k by omega]
  rw [ycT,Int.mul_add,Int.add_assoc];congr 2;rw [←Int.mul_assoc,ydr _ 256]
set_option maxRecDepth 100000 in
theorem Tryz.zig {g:Nat→Int} (hg: ∀j,0≤g j∧g j<256) (a X o c off n:Nat) (w:World) (h:w.rangeAt X o (row g a 16)) (hn:off+n≤16) (h8:1≤n∧n≤8):
  Calls prog 165 #[.slice (some ⟨X,o,none⟩) 16 c,.int .i64 off,.int .i64 n] w fun e w'=>e= .returned (.int .u64 (aC g (a+off) n))∧w'=w:=by
 obtain ⟨m0,rfl⟩: ∃m0,n=m0+1:=⟨n-1,by omega⟩;have hn1:IntKind.wrap .i64 (((m0+1:Nat):Int)-1)=m0:=by rw [gV (by omega) (by omega)];omega
 have hcell: ∀i,i<m0+1→w.cell? ⟨X,o+(off+i),none⟩=some (.int .u8 (g (a+off+i))):=fun i hi=>by
  have:=h (off+i) (.int .u8 (g (a+(off+i)))) (by unfold row;rw [ya5,ybY (by omega)];rfl);rw [this,ybh]
 go_enter func165,ntmps165;go_wp2_with fail;go_loopw [7,8] (fun v i wr=>wr=w∧((i= .int .i64 (-1)∧v= .int .u64 (aC g (a+off) (m0+1)))∨ ∃m:Nat,m≤m0∧i= .int .i64 m∧v= .int .u64 (aC g (a+off+(m+1)) (m0-m)))) (fun _ i _=>(RowKit.intOf i+1).toNat)
 case atStart=>exact ⟨rfl,.inr ⟨m0,yab _,rfl,by rw [ydq];rfl⟩⟩
 case round=>
  obtain ⟨rfl,⟨rfl,rfl⟩|⟨m,hm,rfl,rfl⟩⟩:=hrel
  ·go_wp2_with fail;go_ret;exact ⟨rfl,rfl⟩
  ·have hc:=hcell m (by omega);have hgb:=hg (a+off+m);have hwb:=kE g hg (a+off+(m+1)) (m0-m);have hpw:(256:Int)^(m0-m)≤256^7:=by
    exact_mod_cast ybp (by decide) (by omega:m0-m≤7)
   have h7:(256:Int)^7=72057594037927936:=by decide
   have hnext:aC g (a+off+m) (m0-m+1)=g (a+off+m)+256*aC g (a+off+(m+1)) (m0-m):=zr6 g (a+off+m) (m0-m);generalize aC g (a+off+(m+1)) (m0-m)=V at hwb hnext ⊢;generalize hB:g (a+off+m)=Bt at hc hgb hnext;have e1:IntKind.wrap .u64 (256*V)=256*V:=bE (by omega) (by omega);have e2:IntKind.wrap .u64 (256*V+Bt)=256*V+Bt:=bE (by omega) (by omega);have e3:IntKind.wrap .u64 Bt=Bt:=bE (by omega) (by omega);have e4:IntKind.wrap .i64 ((off:Int)+(m:Int))=((off+m:Nat):Int):=by rw [gV (by omega) (by omega)];omega
   by_cases hm0:m=0
   ·have e5:IntKind.wrap .i64 ((m:Int)-1)= -1:=by rw [gV (by omega) (by omega)];omega
    have hz:(fun _:Unit=>m)=fun _=>0:=by rw [hm0]
    clear hm0;go_wp2_with fail;have hm0:m=0:=ybV hz ();refine ⟨⟨trivial,.inl ⟨rfl,?_⟩⟩,?_⟩
    ·have:aC g (a+off) (m0+1)=Bt+256*V:=by rw [←hnext,hm0];rfl
     rw [this,Int.add_comm]
    ·simp only [RowKit.intOf];omega
   ·have e5:IntKind.wrap .i64 ((m:Int)-1)=((m-1:Nat):Int):=by rw [gV (by omega) (by omega)];omega
    have hpos:1≤m:=by omega
    clear hm0;go_wp2_with fail;refine ⟨⟨trivial,.inr ⟨m-1,by omega,rfl,?_⟩⟩,?_⟩
    ·rw [show m-1+1=m by omega,show m0-(m-1)=m0-m+1 by omega,hnext,Int.add_comm]
    ·simp only [RowKit.intOf];omega
structure Tryz.dw (w0 w:World) (X b2 P L Bs B N:Nat) (g:Nat→Int) (v0 v:Value) (l:List Sg) (n e:Int):Prop where
 cl:Cl w X [.pointer (some ⟨P,0,none⟩),v,.int .i64 n,.int .i64 e]
 own:cO w b2 v l
 rm:bO w P L Bs B N g
 lo:X<b2∧P<b2∧L<b2∧Bs<b2∧B<b2
 nx:X≠P∧X≠L∧X≠Bs∧X≠B
 b2:b2≤w0.heap.size
 mv:Dw.Mv (fun b=>b=X∨v0.ownBlock=some b) w0 w
 ob: ∀b,v.ownBlock=some b→v0.ownBlock=some b∨w0.heap.size≤b
section
variable {w0 w w':World} {X b2 P L Bs B N:Nat} {g:Nat→Int} {v0 v:Value} {l:List Tryz.Sg} {n e:Int}
theorem Tryz.dw.below (h:dw w0 w X b2 P L Bs B N g v0 v l n e) (hb:Below w.heap.size w w'):dw w0 w' X b2 P L Bs B N g v0 v l n e:=
 ⟨h.cl.below hb h.cl.lt,h.own.kept fun b hh=>hb.block b (h.own.lt b hh).2.1,h.rm.below hb,h.lo,h.nx,h.b2,h.mv.trans ⟨hb.os,hb.tape,hb.output,hb.size,fun b hh _=>hb.block b hh⟩,h.ob⟩
theorem Tryz.dw.stopped {e':Int} (h:dw w0 w X b2 P L Bs B N g v0 v l n e) (hc:Cl w' X [.pointer (some ⟨P,0,none⟩),v,.int .i64 n,.int .i64 e']) (hm:Dw.Mv (· =X) w w'):dw w0 w' X b2 P L Bs B N g v0 v l n e':=
 ⟨hc,h.own.kept fun b hh=>hm.block b (h.own.lt b hh).2.1 fun q=>by have:=(h.own.lt b hh).1;have:=h.lo.1;have q:b=X:=q;omega,h.rm.lF hm h.nx,h.lo,h.nx,h.b2,h.mv.trans (hm.mono fun b q=> .inl q),h.ob⟩
theorem Tryz.dw.UY {v':Value} {x:Sg} (h:dw w0 w X b2 P L Bs B N g v0 v l n e) (hc:Cl w' X [.pointer (some ⟨P,0,none⟩),v',.int .i64 n,.int .i64 e]) (ho:cO w' b2 v' (l++ [x])) (hm:Dw.Mv (fun b=>b=X∨v.ownBlock=some b) w w') (hb: ∀b,v'.ownBlock=some b→v.ownBlock=some b∨w.heap.size≤b):dw w0 w' X b2 P L Bs B N g v0 v' (l++ [x]) n e:=by
 have hs:=h.mv.size;have hlt:=h.own.lt;have hlo:=h.lo;refine ⟨hc,ho,h.rm.kept (fun k hk hq=>hm.block k hk fun q=> ?_) hm.size,h.lo,h.nx,h.b2,⟨hm.os.trans h.mv.os,hm.tape.trans h.mv.tape,hm.output.trans h.mv.output,yau hs hm.size,fun b hb' hn=> ?_⟩,fun b hh=> ?_⟩
 ·obtain ⟨n1,n2,n3,n4⟩:=h.nx;rcases q with q|q
  ·rw [q] at hq;rcases hq with hq|hq|hq|hq<;>contradiction
  ·have:=(hlt k q).1;omega
 ·refine (hm.block b (yad hb' hs) fun q=> ?_).trans (h.mv.block b hb' hn);rcases q with q|q
  ·exact hn (.inl q)
  ·rcases h.ob b q with q|q
   ·exact hn (.inr q)
   ·omega
 ·rcases hb b hh with q|q
  ·exact h.ob b q
  ·exact .inr (by omega)
end
end Go.Proofs
namespace Go.Proofs
open Go.Dw Go.RowKit Go.Maps Go.Sort Go.Deep
theorem Tryz.dw.size {w0 w:World} {X b2 P L Bs B N:Nat} {g:Nat→Int} {v0 v:Value} {l:List Sg} {n e:Int} (h:dw w0 w X b2 P L Bs B N g v0 v l n e):b2≤w.heap.size:=yau h.b2 h.mv.size
set_option maxRecDepth 100000 in
theorem Tryz.zvb {g:Nat→Int} (hg: ∀j,0≤g j∧g j<256) (a X o c:Nat) (w:World) (h:w.rangeAt X o (row g a 16)):
    Calls prog 157 #[.slice (some ⟨X,o,none⟩) 16 c] w fun e w'=>e= .returned (.tuple #[descVal g a,.int .i64 0])∧Below w.heap.size w w':=by
  have hX:X<w.heap.size:=yan w _ (h 0 (.int .u8 (g (a+0))) (by unfold row;rw [ya5,ybY (by omega)];rfl));have hk: ∀w1,Below w.heap.size w w1→w1.rangeAt X o (row g a 16):=fun w1 hb=>gL h (hb.block X hX);have q0:=fun w1 hb=>zig hg a X o c 0 8 w1 (hk w1 hb) (by omega) (by omega);have q1:=fun w1 hb=>zig hg a X o c 8 4 w1 (hk w1 hb) (by omega) (by omega);have q2:=fun w1 hb=>zig hg a X o c 12 2 w1 (hk w1 hb) (by omega) (by omega);have q3:=fun w1 hb=>zig hg a X o c 14 2 w1 (hk w1 hb) (by omega) (by omega);have b1:=kE g hg (a+8) 4;have b2:=kE g hg (a+12) 2;have b3:=kE g hg (a+14) 2;have p4:(256:Int)^4=4294967296:=by decide
  have p2:(256:Int)^2=65536:=by decide
  have e1:IntKind.wrap .u32 (aC g (a+8) 4)=aC g (a+8) 4:=La (by omega) (by omega);have e2:IntKind.wrap .u16 (aC g (a+12) 2)=aC g (a+12) 2:=yw (by omega) (by omega);have e3:IntKind.wrap .u16 (aC g (a+14) 2)=aC g (a+14) 2:=yw (by omega) (by omega);simp only [ya7,Int.cast_ofNat_Int,Int.natCast_zero] at q0 q1 q2 q3;unfold descVal;generalize aC g a 8=W0 at q0 ⊢;generalize aC g (a+8) 4=W1 at q1 e1 ⊢;generalize aC g (a+12) 2=W2 at q2 e2 ⊢;generalize aC g (a+14) 2=W3 at q3 e3 ⊢;clear b1 b2 b3 p4 p2;have hA:=(yag w.heap.size w).alloc (yab _);go_enter func157,ntmps157;go_wp2_with (first
    | (go_at_call_has 165 (Value.int IntKind.i64 0);refine (q0 _ (hA _)).mono ?_;rintro e w' ⟨rfl,hw⟩;have hw:=hw.symm;subst hw)
    | (go_at_call_has 165 (Value.int IntKind.i64 4);refine (q1 _ (hA _)).mono ?_;rintro e w' ⟨rfl,hw⟩;have hw:=hw.symm;subst hw)
    | (go_at_call_has 165 (Value.int IntKind.i64 12);refine (q2 _ (hA _)).mono ?_;rintro e w' ⟨rfl,hw⟩;have hw:=hw.symm;subst hw)
    | (go_at_call_has 165 (Value.int IntKind.i64 14);refine (q3 _ (hA _)).mono ?_;rintro e w' ⟨rfl,hw⟩;have hw:=hw.symm;subst hw)
    | go_in)
  refine yaI (gI rfl _ _ w.heap.size [.int .u64 W0,.int .u32 W1,.int .u16 W2,.int .u16 W3] _ rfl (fun j v hv=>by rw [yaq];exact (Cl.new w _ _).cell j v hv) underlying74 rfl (by kernel_rfl)) rfl ?_;exact ⟨rfl,hA _⟩
section
variable {w0 w w':World} {X b2 P L Bs B N:Nat} {g:Nat→Int} {v0 v:Value} {l:List Tryz.Sg} {n n' e:Int}
theorem Tryz.dw.count (h:dw w0 w X b2 P L Bs B N g v0 v l n e) (hc:Cl w' X [.pointer (some ⟨P,0,none⟩),v,.int .i64 n',.int .i64 e]) (hm:Dw.Mv (· =X) w w'):dw w0 w' X b2 P L Bs B N g v0 v l n' e:=
 ⟨hc,h.own.kept fun b hh=>hm.block b (h.own.lt b hh).2.1 fun q=>by have:=(h.own.lt b hh).1;have:=h.lo.1;have q:b=X:=q;omega,h.rm.lF hm h.nx,h.lo,h.nx,h.b2,h.mv.trans (hm.mono fun b q=> .inl q),h.ob⟩
theorem Tryz.dw.other (h:dw w0 w X b2 P L Bs B N g v0 v l n e) {K:Nat→Prop} (hm:Dw.Mv K w w') (hK: ∀b,K b→w0.heap.size≤b∧v.ownBlock≠some b):dw w0 w' X b2 P L Bs B N g v0 v l n e:=by
 obtain ⟨l1,l2,l3,l4,l5⟩:=h.lo;have hb2:=h.b2;have hn: ∀b,b<b2→ ¬K b:=fun b hb q=>by have:=(hK b q).1;omega
 refine ⟨h.cl.kept (hm.block X h.cl.lt (hn X l1)),h.own.kept fun b hh=>hm.block b (h.own.lt b hh).2.1 fun q=>(hK b q).2 hh,h.rm.kept (fun k hk hq=>hm.block k hk (hn k (by rcases hq with q|q|q|q<;>omega))) hm.size,h.lo,h.nx,h.b2,⟨hm.os.trans h.mv.os,hm.tape.trans h.mv.tape,hm.output.trans h.mv.output,yau h.mv.size hm.size,fun b hb hq=>(hm.block b (yad hb h.mv.size) fun q=>by have:=(hK b q).1;omega).trans (h.mv.block b hb hq)⟩,h.ob⟩
end
end Go.Proofs
namespace Go.Proofs
open Go.Dw Go.RowKit Go.Maps Go.Sort Go.Deep
theorem Tryz.zFQ {w:World} {b2 a:Nat} {g:Nat→Int} {v:Value} (h:w.ownsRow b2 5 1 v 16 (row g a 16)): ∃G c,v= .slice (some ⟨G,0,none⟩) 16 c∧b2≤G∧w.rangeAt G 0 (row g a 16):=by
 have h':aG 5 1 w b2 v 16 (row g a 16):=h;obtain ⟨sa,c,rfl,hr⟩:=aG.row h';rcases hr with hr|⟨G,rfl,ho,hr⟩
 ·have:=yaH List.length hr;rw [BM] at this;simp at this
 ·exact ⟨G,c,rfl,(aG.lt h' G ho).1,hr⟩
section
variable {w0 w w':World} {X b2 P L Bs B N:Nat} {g:Nat→Int} {v0 v:Value} {l:List Tryz.Sg} {n n' e:Int}
theorem Tryz.dw.Sj (h:dw w0 w X b2 P L Bs B N g v0 v l n e) {T:Nat} (hT:w0.heap.size≤T) (hv:v.ownBlock≠some T) (x0 x1 x2 x3:Value):dw w0 ((((w.setCell ⟨T,0,none⟩ x0).setCell ⟨T,1,none⟩ x1).setCell ⟨T,2,none⟩ x2).setCell ⟨T,3,none⟩ x3) X b2 P L Bs B N g v0 v l n e:=
 h.other (K:=(· =T)) (cZ (cZ (cZ (cZ (Dw.Mv.refl (· =T) w) T 0 x0 rfl) T 1 x1 rfl) T 2 x2 rfl) T 3 x3 rfl) fun b q=>by
  have q:b=T:=q;subst q;exact ⟨hT,hv⟩
set_option maxRecDepth 100000 in
theorem Tryz.zAH {a:Nat} (h:dw w0 w X b2 P L Bs B N g v0 v l n e) (hN:N≤1048576) (hin:a+16≤N) (hn:0≤n∧n<4611686018427387904):
    Calls prog 143 #[.pointer (some ⟨X,0,none⟩),.int .u64 a] w fun en w'=>en= .returned (.tuple #[descVal g a,.bool true])∧dw w0 w' X b2 P L Bs B N g v0 v l (n+1) e∧Dw.Mv (· =X) w w':=by
  have hbx:=(yag w.heap.size w).alloc (yab _) (Obj.cells #[.int .u64 0,.int .u32 0,.int .u16 0,.int .u16 0] 74);have k4:=Cl.new w #[.int .u64 0,.int .u32 0,.int .u16 0,.int .u16 0] 74;have h1:=h.below hbx;have c0:=h1.cl.cell 0 _ rfl;have hrd:=zAu P L Bs B N a 16 g _ h1.rm hN (by decide) hin;have hbyte:=h.rm.byte;have Br:=fun X' c' w' (hq:w'.rangeAt X' 0 (row g a 16))=>zvb hbyte a X' 0 c' w' hq;unfold descVal at Br ⊢;generalize aC g a 8=A1 at Br ⊢;generalize aC g (a+8) 4=L1 at Br ⊢;generalize aC g (a+12) 2=F1 at Br ⊢;generalize aC g (a+14) 2=N1 at Br ⊢;have e1:IntKind.wrap .i64 (n+1)=n+1:=gV (by omega) (by omega);have hT0:w0.heap.size≤w.heap.size:=h.mv.size;have NY:v.ownBlock≠some w.heap.size:=fun q=>by have:=(h.own.lt _ q).2.1;omega
  have Du:=h.cl.lt;have MW:X≠w.heap.size:=by omega
  go_enter func143,ntmps143;go_wp2_with (first
    | (go_at_call 156;refine hrd.mono ?_;rintro en w1 ⟨vb,rfl,hrow,hb1⟩;obtain ⟨G,cp,rfl,hG,aaZ⟩:=zFQ hrow;have h2:=h1.below hb1;have k2:=k4.below hb1 k4.lt;have c2:=h2.cl.cell 2 _ rfl;have f2:=h2.cl.free 2;have h3:=h2.count (h2.cl.set 2 (.int .i64 (n+1)) (by simp)) (cZ (Dw.Mv.refl _ _) X 2 (.int .i64 (n+1)) rfl);have k3:=k2.kept (yah _ ⟨X,2,none⟩ (.int .i64 (n+1)) w.heap.size (fun q=>MW q.symm));have hGX:G≠X:=(by simp at hG;omega);have hr3:=gL aaZ (yah _ ⟨X,2,none⟩ (.int .i64 (n+1)) G hGX))
    | (go_at_call 157;refine (Br _ _ _ hr3).mono ?_;rintro en w2 ⟨rfl,hb2⟩;have h4:=(h3.below hb2).below ((yag _ w2).alloc (yab _) (Obj.cells #[.int .u64 A1,.int .u32 L1,.int .u16 F1,.int .u16 N1] 74));have k6:=(k3.below hb2 k3.lt).alloc (Obj.cells #[.int .u64 A1,.int .u32 L1,.int .u16 F1,.int .u16 N1] 74);have j8:=Cl.new w2 #[.int .u64 A1,.int .u32 L1,.int .u16 F1,.int .u16 N1] 74;have b0:=k6.cell 0 _ rfl;have b1:=k6.cell 1 _ rfl;have b2':=k6.cell 2 _ rfl;have b3:=k6.cell 3 _ rfl;have g0:=k6.free 0;have g1:=k6.free 1;have g2:=k6.free 2;have g3:=k6.free 3)
    | go_in)
  have hmv:Dw.Mv (· =X) w (w2.alloc (Obj.cells #[.int .u64 A1,.int .u32 L1,.int .u16 F1,.int .u16 N1] 74)):=((cZ ((eO (K:=(· =X)) hbx).trans (eO hb1)) X 2 (.int .i64 (n+1)) rfl).trans (eO hb2)).trans (eO ((yag _ w2).alloc (yab _) _));have sf:=(((k6.set 0 (.int .u64 A1) (by simp)).set 1 (.int .u32 L1) (by simp)).set 2 (.int .u16 F1) (by simp)).set 3 (.int .u16 N1) (by simp);have h5:=h4.Sj hT0 NY (.int .u64 A1) (.int .u32 L1) (.int .u16 F1) (.int .u16 N1);refine yaI (gI rfl _ _ w.heap.size [.int .u64 A1,.int .u32 L1,.int .u16 F1,.int .u16 N1] _ rfl (fun j y hy=>by rw [yaq];exact sf.cell j y hy) underlying74 rfl (by kernel_rfl)) rfl ?_;exact ⟨rfl,h5,gN (gN (gN (gN hmv w.heap.size 0 (.int .u64 A1) (.inr (yab _))) w.heap.size 1 (.int .u32 L1) (.inr (yab _))) w.heap.size 2 (.int .u16 F1) (.inr (yab _))) w.heap.size 3 (.int .u16 N1) (.inr (yab _))⟩
set_option maxRecDepth 100000 in
theorem Tryz.zxj {A:Int} (h:dw w0 w X b2 P L Bs B N g v0 v l n 0) (hN:N≤1048576) (ha:0≤A∧A<18446744073709551616) (hout: ¬A+16≤N):
    Calls prog 143 #[.pointer (some ⟨X,0,none⟩),.int .u64 A] w fun en w'=>en= .returned (.tuple #[.agg #[.int .u64 0,.int .u32 0,.int .u16 0,.int .u16 0],.bool false])∧dw w0 w' X b2 P L Bs B N g v0 v l n 5∧Dw.Mv (· =X) w w':=by
  have hbx:=(yag w.heap.size w).alloc (yab _) (Obj.cells #[.int .u64 0,.int .u32 0,.int .u16 0,.int .u16 0] 74);have k4:=Cl.new w #[.int .u64 0,.int .u32 0,.int .u16 0,.int .u16 0] 74;have h1:=h.below hbx;have c0:=h1.cl.cell 0 _ rfl;have hrd:=zw6 P L Bs B N A 16 g _ h1.rm hN (by decide) (by decide) ha.1 ha.2 hout;have hT0:w0.heap.size≤w.heap.size:=h.mv.size;have NY:v.ownBlock≠some w.heap.size:=fun q=>by have:=(h.own.lt _ q).2.1;omega
  have Du:=h.cl.lt;have MW:w.heap.size≠X:=by omega
  go_enter func143,ntmps143;go_wp2_with (first
    | (go_at_call 156;refine hrd.mono ?_;rintro en w1 ⟨rfl,hb1⟩;have h2:=h1.below hb1)
    | (go_at_call 142;refine (Ka X (.pointer (some ⟨P,0,none⟩)) v n 0 5 _ h2.cl).mono ?_;rintro en w2 ⟨rfl,hc2,hm2⟩;have h3:=h2.stopped hc2 hm2;have k3:=(k4.below hb1 k4.lt).kept (hm2.block w.heap.size (yad k4.lt hb1.size) MW);have b0:=k3.cell 0 _ rfl;have b1:=k3.cell 1 _ rfl;have b2':=k3.cell 2 _ rfl;have b3:=k3.cell 3 _ rfl;have g0:=k3.free 0;have g1:=k3.free 1;have g2:=k3.free 2;have g3:=k3.free 3)
    | go_in)
  have hmv:Dw.Mv (· =X) w w2:=((eO hbx).trans (eO hb1)).trans hm2;have sf:=(((k3.set 0 (.int .u64 0) (by simp)).set 1 (.int .u32 0) (by simp)).set 2 (.int .u16 0) (by simp)).set 3 (.int .u16 0) (by simp);have h5:=h3.Sj hT0 NY (.int .u64 0) (.int .u32 0) (.int .u16 0) (.int .u16 0);refine yaI (gI rfl _ _ w.heap.size [.int .u64 0,.int .u32 0,.int .u16 0,.int .u16 0] _ rfl (fun j y hy=>by rw [yaq];exact sf.cell j y hy) underlying74 rfl (by kernel_rfl)) rfl ?_;exact ⟨rfl,h5,gN (gN (gN (gN hmv w.heap.size 0 (.int .u64 0) (.inr (yab _))) w.heap.size 1 (.int .u32 0) (.inr (yab _))) w.heap.size 2 (.int .u16 0) (.inr (yab _))) w.heap.size 3 (.int .u16 0) (.inr (yab _))⟩
end
end Go.Proofs
namespace Go.Proofs
open Go.Dw Go.RowKit Go.Maps Go.Sort Go.Deep
def Tryz.mg (inner table:Bool) (T:Int→Int→WS→WS):Int→Int→Int→WS→WS:=fun A Ln F s=>
 if inner=true∨table=false∨ ¬F%2=0 then { s with e:=4 } else T A Ln s
def Tryz.Uv:Value→Nat
 | .slice _ n _=>n
 | _=>0
set_option maxRecDepth 100000 in
theorem Tryz.zly {w0 w:World} {X b2 P L Bs B N:Nat} {g:Nat→Int} {v0 v:Value} {s:WS} (h:dw w0 w X b2 P L Bs B N g v0 v s.aQ s.n 0) (hs0:s.e=0) (hN:N≤1048576) {A c k:Int} {inner table:Bool} (ha:0≤A∧A<18446744073709551616) (hc:0≤c∧c≤32768) (hk:0≤k∧k<65536) (hsn:0≤s.n∧s.n+c≤90000) (hsl:s.aQ.length+c.toNat≤90000) {T:Int→Int→WS→WS}
    (hT:inner=false→ ∀(w1:World) (v1:Value) (s1:WS) (A1 L1:Int),dw w0 w1 X b2 P L Bs B N g v0 v1 s1.aQ s1.n 0→s1.e=0→0≤A1∧A1<18446744073709551616→0≤L1∧L1<4294967296→0≤s1.n∧s1.n≤s.n+c+1→s1.aQ.length≤s.aQ.length+c.toNat→Calls prog 144 #[.pointer (some ⟨X,0,none⟩),.int .u64 A1,.int .u32 L1] w1 fun en w'=>en= .returned (.tuple #[])∧ ∃v',dw w0 w' X b2 P L Bs B N g v0 v' (T A1 L1 s1).aQ (T A1 L1 s1).n (T A1 L1 s1).e):
    Calls prog 126 #[.pointer (some ⟨X,0,none⟩),.int .u64 A,.int .i64 c,.int .i64 k,.bool inner,.bool table] w fun en w'=>en= .returned (.tuple #[])∧ ∃(v':Value) (R:WS),R=fH N g (mg inner table T) (c.toNat+1) A c k [] s∧dw w0 w' X b2 P L Bs B N g v0 v' R.aQ R.n R.e:=by
  obtain ⟨i0,hi0,j1,j2,j3⟩:=ybl Ja;have hlo:=h.lo.1;have hb2:=h.b2;have abd:=h.mv.size;go_enter func126,ntmps126;go_wp2_with fail;go_loopw [12,13] (fun sv kv wr=> ∃(k':Int) (seen:List Int) (s':WS) (v':Value) (f:Nat),kv= .int .i64 k'∧(0≤k'∧k'<65536)∧f+seen.length=c.toNat+1∧seen.Nodup∧(∀y∈seen,0≤y∧y<c)∧dw w0 wr X b2 P L Bs B N g v0 v' s'.aQ s'.n 0∧s'.e=0∧s'.aQ.length≤s.aQ.length+seen.length∧(0≤s'.n∧s'.n≤s.n+seen.length)∧aG 3 1 wr w.heap.size sv seen.length (bg seen.reverse)∧(∀b,sv.ownBlock=some b→v'.ownBlock≠some b)∧((fun _:Unit=>fH N g (mg inner table T) (c.toNat+1) A c k [] s)=fun _=>fH N g (mg inner table T) f A c k' seen s')∧w.heap.size≤wr.heap.size) (fun sv _ _=>c.toNat+1-Uv sv)
  case atStart=>exact ⟨k,[],s,v,c.toNat+1,rfl,hk,rfl,ycB,fun y hy=>(by cases hy),h,hs0,yab _,⟨hsn.1,by simp⟩,aG.nil _ _ _ _,fun b e=>(by cases e),rfl,yab _⟩
  case round=>
    obtain ⟨k',seen,s',v',f,rfl,hk',hf,hnd,hsr,hR,he0,hl',hn',hown,hap,hQ,abZ⟩:=hrel;have hlen:=zsB hnd hsr;obtain ⟨sa,cs,rfl,hrow⟩:=aG.row hown;obtain ⟨f',rfl⟩: ∃f',f=f'+1:=⟨f-1,by omega⟩;have hg:=hR.rm.byte;have hrl:seen.reverse.length=seen.length:=List.length_reverse;have hcl:(bg seen.reverse).length=seen.length:=by simp [bg]
    have hstop:=fun w1 (Hg:dw w0 w1 X b2 P L Bs B N g v0 v' s'.aQ s'.n 0)=>Ka X (.pointer (some ⟨P,0,none⟩)) v' s'.n 0 4 w1 Hg.cl;have hsplit:fH N g (mg inner table T) (f'+1) A c k' seen s'=if k'∈seen∨c≤k' then { s' with e:=4 }
      else if¬(A+16*k')%18446744073709551616+16≤N then { s' with e:=5 }
      else if aC g (((A+16*k')%18446744073709551616).toNat+12) 2/4%2=1 then
        mg inner table T (aC g ((A+16*k')%18446744073709551616).toNat 8) (aC g (((A+16*k')%18446744073709551616).toNat+8) 4) (aC g (((A+16*k')%18446744073709551616).toNat+12) 2) { s' with n:=s'.n+1 }
      else if aC g (((A+16*k')%18446744073709551616).toNat+12) 2%2=0 then ⟨s'.aQ++ [lq g ((A+16*k')%18446744073709551616).toNat],s'.n+1,s'.e⟩
      else fH N g (mg inner table T) f' A c (aC g (((A+16*k')%18446744073709551616).toNat+14) 2) (k'::seen) ⟨s'.aQ++ [lq g ((A+16*k')%18446744073709551616).toNat],s'.n+1,s'.e⟩:=rfl
    have hbad:k'∈seen∨c≤k'→ ∀w1,Cl w1 X [.pointer (some ⟨P,0,none⟩),v',.int .i64 s'.n,.int .i64 (xG 0 4)]→ ∀w2,dw w0 w2 X b2 P L Bs B N g v0 v' s'.aQ s'.n 0→Dw.Mv (· =X) w2 w1→ ∃(v':Value) (R:WS),R=fH N g (mg inner table T) (c.toNat+1) A c k [] s∧dw w0 w1 X b2 P L Bs B N g v0 v' R.aQ R.n R.e:=fun hq w1 hc1 w2 hR2 hm2=>
      ⟨v',{ s' with e:=4 },by rw [ybV hQ (),hsplit,yak hq],hR2.stopped hc1 hm2⟩
    go_wp2_with fail;go_loopw [14] (fun iv wr2=>wr2=wr∧ ∃i:Nat,i≤seen.length∧iv= .int .i64 i∧ ∀(j:Nat) (hj:j<seen.reverse.length),j<i→seen.reverse[j]≠k') (fun iv _=>seen.length-(RowKit.intOf iv).toNat)
    case atStart=>exact ⟨rfl,0,yax _,rfl,fun j _ hj=>absurd hj (by omega)⟩
    case round=>
      obtain ⟨rfl,i,hi,rfl,hall⟩:=hrel;by_cases hil:i<seen.length
      · have HV:(i:Int)<seen.length:=by omega
        rcases hrow with hr|⟨G,rfl,qY,hr⟩
        · have:=yaH List.length hr;rw [hcl] at this;simp only [ybv] at this;omega
        have hir:i<seen.reverse.length:=by omega
        have e1:=hr i (.int .i64 seen.reverse[i]) (by unfold bg;rw [ya5,yam hir];rfl);rw [yaq] at e1;have hmem:seen.reverse[i]∈seen:=List.mem_reverse.1 (yaL hir);generalize hy:seen.reverse[i]=y at e1 hmem;by_cases hyk:y=k'
        · subst hyk;have hb:=hbad (.inl hmem);clear hbad hQ hsplit;go_wp2_with (first
            | (go_at_call 142;refine (hstop _ hR).mono ?_;rintro en w1 ⟨rfl,hc1,hm1⟩)
            | go_in)
          refine yaI (ycZ rfl _ _ _) rfl ?_;exact ⟨rfl,hb _ hc1 _ hR hm1⟩
        · have ab2:(y==k')=false:=by simpa using hyk
          clear hbad hQ hsplit;go_wp2_with fail;refine ⟨⟨trivial,i+1,by omega,by push_cast;rfl,fun j hj hlt=> ?_⟩,by simp only [RowKit.intOf];omega⟩;by_cases hji:j=i
          · subst hji;rw [hy];exact hyk
          · exact hall j hj (by omega)
      · have HV: ¬(i:Int)<seen.length:=by omega
        have hnm:k'∉seen:=fun hm=>by
          obtain ⟨j,hj,e⟩:=ydg (List.mem_reverse.2 hm);exact hall j hj (by omega) e
        have hk0: ¬k'<0:=by omega
        clear hall;by_cases hck:c≤k'
        · have hb:=hbad (.inr hck);clear hbad hQ hsplit;go_wp2_with (first
            | (go_at_call 142;refine (hstop _ hR).mono ?_;rintro en w1 ⟨rfl,hc1,hm1⟩)
            | go_in)
          refine yaI (ycZ rfl _ _ _) rfl ?_;exact ⟨rfl,hb _ hc1 _ hR hm1⟩
        · rw [yai (fun q=>q.elim hnm hck)] at hsplit;clear hbad hstop;have aaw:k'<c:=by omega
          have w1':IntKind.wrap .u64 k'=k':=bE (by omega) (by omega);have w2':IntKind.wrap .u64 (16*k')=16*k':=bE (by omega) (by omega);obtain ⟨a,ha'⟩: ∃a:Nat,(A+16*k')%18446744073709551616=a:=⟨((A+16*k')%18446744073709551616).toNat,by omega⟩;have w3':IntKind.wrap .u64 (A+16*k')=(a:Int):=by rw [Ca,ha']
          have haB:(a:Int)<18446744073709551616:=by omega
          rw [ha'] at hsplit;simp only [yaV] at hsplit;clear ha' hck;have iC:=(yag wr.heap.size wr).alloc (yab _) (Obj.cells #[.int .i64 k'] 3);have D5:aG 3 1 (wr.alloc (Obj.cells #[.int .i64 k'] 3)) w.heap.size (.slice sa seen.length cs) seen.length (bg seen.reverse):=aG.kept hown fun b e=>iC.block b (aG.lt hown b e).2;have A9:=hR.below iC;have hnews: ∀j u,([.int .i64 k']:List Value)[j]? =some u→(wr.alloc (Obj.cells #[.int .i64 k'] 3)).cell? ((⟨wr.heap.size,0,none⟩:Addr).add j)=some u:=fun j u hu=>by
            rw [Dw.addr_add];exact (Cl.new wr #[.int .i64 k'] 3).cell (0+j) u (by rw [yaq];exact hu)
          have hone: ∀u∈([.int .i64 k']:List Value),u.oneCell'=true:=fun u hu=>by rw [yaF] at hu;subst hu;rfl
          have hRl:=hR.own.lt;have hol:=fun b e=>aG.lt hown b e;have after: ∀(mQ:Value) (wa:World),wa.ownsRow w.heap.size 3 1 mQ (seen.length+1) (bg seen.reverse++ [.int .i64 k'])→(wr.alloc (Obj.cells #[.int .i64 k'] 3)).grownBy wa (Value.slice sa seen.length cs).ownBlock→(mQ.ownBlock=(Value.slice sa seen.length cs).ownBlock∨mQ.ownBlock=some (wr.alloc (Obj.cells #[.int .i64 k'] 3)).heap.size)→dw w0 wa X b2 P L Bs B N g v0 v' s'.aQ s'.n 0∧aG 3 1 wa w.heap.size mQ (k'::seen).length (bg (k'::seen).reverse)∧ ∀b,mQ.ownBlock=some b→v'.ownBlock≠some b:=fun mQ wa g1 g3 g4=>by
            refine ⟨A9.other (K:=fun b=>(Value.slice sa seen.length cs).ownBlock=some b) ⟨g3.os,g3.tape,g3.output,g3.size,fun b hb hn=>g3.block b hb fun e=>hn e.symm⟩ fun b e=>⟨by have:=(hol b e).1;omega,hap b e⟩,?_,fun b e q=> ?_⟩
            · have e1:bg (k'::seen).reverse=bg seen.reverse++ [.int .i64 k']:=by simp [bg]
              rw [e1];exact g1
            · rcases g4 with g4|g4
              · exact hap b (g4▸e) q
              · rw [g4] at e;have:=(hRl b q).2.1;simp at e;omega
          clear hown hrow;have hwr:=hR.mv.size;by_cases hin:a+16≤N
          · have hin':(a:Int)+16≤N:=by omega
            rw [yai (by omega)] at hsplit;have rq:=fun w1 (h1:dw w0 w1 X b2 P L Bs B N g v0 v' s'.aQ s'.n 0)=>zAH (a:=a) h1 hN hin ⟨hn'.1,by omega⟩;clear haB;have bF:=kE g hg (a+12) 2;have bA:=kE g hg a 8;have bL:=kE g hg (a+8) 4;have bN:=kE g hg (a+14) 2;rw [show (256:Int)^2=65536 from by decide] at bF bN;rw [show (256:Int)^8=18446744073709551616 from by decide] at bA;rw [show (256:Int)^4=4294967296 from by decide] at bL;have hseg:lq g a=⟨aC g a 8,aC g (a+8) 4,aC g (a+12) 2/2%2*2 !=0⟩:=rfl;rw [hseg] at hsplit;clear hseg;unfold descVal at rq;generalize aC g a 8=A1 at rq hsplit bA;generalize aC g (a+8) 4=L1 at rq hsplit bL;generalize aC g (a+12) 2=F1 at rq hsplit bF;generalize aC g (a+14) 2=N1 at rq hsplit bN;have hb4:bits .and .u16 F1 4=F1/4%2*4:=by have:=Rv F1 2 (by decide) bF.1 bF.2;simpa using this
            have hb1:bits .and .u16 F1 1=F1%2:=by have:=Rv F1 0 (by decide) bF.1 bF.2;simpa using this
            have wN:IntKind.wrap .i64 N1=N1:=gV (by omega) (by omega);have qf:(fun _:Unit=>fH N g (mg inner table T) (c.toNat+1) A c k [] s)=fun _=>_:=hQ.trans (funext fun _=>hsplit);clear hQ hsplit;by_cases hF:F1/4%2=1
            · rw [hF] at hb4;have MZ:bits .and .u16 F1 4=4:=by rw [hb4];rfl
              clear hb4;simp only [hF,ybU] at qf;by_cases hin2:inner=true∨table=false∨ ¬F1%2=0
              · have MO:(fun _:Unit=>fH N g (mg inner table T) (c.toNat+1) A c k [] s)=fun _=> { s' with n:=s'.n+1,e:=4 }:=qf.trans (funext fun _=>by unfold mg;rw [yak hin2]);have Nq:inner=true∨(inner=false∧table=false)∨(inner=false∧table=true∧F1%2=1):=by
                  cases inner<;>cases table<;>simp at hin2 ⊢ <;>omega
                clear qf hin2 hT;rcases Nq with rfl|⟨rfl,rfl⟩|⟨rfl,rfl,hf1⟩
                all_goals
                  try rw [hf1] at hb1
                  go_wp2_with (first
                    | (at_builtin;go_loud (refine ya4 _ rfl _ _ 35 rfl w.heap.size 3 i0 _ 1 8 (by kernel_rfl) hi0 j1 j2 j3 rfl (by decide) (.slice sa seen.length cs) seen.length (bg seen.reverse) rfl D5 ⟨wr.heap.size,0,none⟩ 1 1 [.int .i64 k'] rfl rfl hnews hone (by unfold maxLen;omega) (by omega) (by simp;omega) ?_);intro mQ wa g1 g3 _ g4;obtain ⟨uN,hO2,Bc⟩:=after mQ wa g1 g3 g4;go_frame)
                    | (go_at_call 143;refine (rq _ uN).mono ?_;rintro en w1 ⟨rfl,h1,hm1⟩;have hR2:=h1.below ((yag _ w1).alloc (yab _) (Obj.cells #[.int .u64 A1,.int .u32 L1,.int .u16 F1,.int .u16 N1] 74)))
                    | (go_at_call 142;refine (Ka X (.pointer (some ⟨P,0,none⟩)) v' (s'.n+1) 0 4 _ hR2.cl).mono ?_;rintro en w4 ⟨rfl,hc4,jU⟩)
                    | go_in)
                  refine yaI (ycZ rfl _ _ _) rfl ?_;exact ⟨rfl,v',_,(ybV MO ()).symm,hR2.stopped hc4 jU⟩
              · have Nq:inner=false∧table=true∧F1%2=0:=by
                  cases inner<;>cases table<;>simp at hin2 ⊢ <;>omega
                obtain ⟨rfl,rfl,hf1⟩:=Nq;have MO:(fun _:Unit=>fH N g (mg false true T) (c.toNat+1) A c k [] s)=fun _=>T A1 L1 { s' with n:=s'.n+1 }:=qf.trans (funext fun _=>by unfold mg;rw [yai hin2]);have hT2:=fun w4 v4 h4=>hT rfl w4 v4 { s' with n:=s'.n+1 } A1 L1 h4 he0 bA bL ⟨by show 0≤s'.n+1;omega,by show s'.n+1≤s.n+c+1;omega⟩ (by show s'.aQ.length≤s.aQ.length+c.toNat;omega);rw [hf1] at hb1;clear qf hin2 hT;go_wp2_with (first
                  | (at_builtin;go_loud (refine ya4 _ rfl _ _ 35 rfl w.heap.size 3 i0 _ 1 8 (by kernel_rfl) hi0 j1 j2 j3 rfl (by decide) (.slice sa seen.length cs) seen.length (bg seen.reverse) rfl D5 ⟨wr.heap.size,0,none⟩ 1 1 [.int .i64 k'] rfl rfl hnews hone (by unfold maxLen;omega) (by omega) (by simp;omega) ?_);intro mQ wa g1 g3 _ g4;obtain ⟨uN,hO2,Bc⟩:=after mQ wa g1 g3 g4;go_frame)
                  | (go_at_call 143;refine (rq _ uN).mono ?_;rintro en w1 ⟨rfl,h1,hm1⟩;have hR2:=h1.below ((yag _ w1).alloc (yab _) (Obj.cells #[.int .u64 A1,.int .u32 L1,.int .u16 F1,.int .u16 N1] 74)))
                  | (go_at_call 144;refine (hT2 _ _ hR2).mono ?_;rintro en w4 ⟨rfl,v4,h4⟩)
                  | go_in)
                refine yaI (ycZ rfl _ _ _) rfl ?_;exact ⟨rfl,v4,_,(ybV MO ()).symm,h4⟩
            · have wQ:F1/4%2=0:=by omega
              rw [wQ] at hb4;have MZ:bits .and .u16 F1 4=0:=by rw [hb4];rfl
              clear hb4;simp only [hF,ybm] at qf;by_cases hf1:F1%2=0
              · simp only [hf1,ybU] at qf;rw [hf1] at hb1;clear hT;go_wp2_with (first
                  | (at_builtin;go_loud (refine ya4 _ rfl _ _ 35 rfl w.heap.size 3 i0 _ 1 8 (by kernel_rfl) hi0 j1 j2 j3 rfl (by decide) (.slice sa seen.length cs) seen.length (bg seen.reverse) rfl D5 ⟨wr.heap.size,0,none⟩ 1 1 [.int .i64 k'] rfl rfl hnews hone (by unfold maxLen;omega) (by omega) (by simp;omega) ?_);intro mQ wa g1 g3 _ g4;obtain ⟨uN,hO2,Bc⟩:=after mQ wa g1 g3 g4;go_frame)
                  | (go_at_call 143;refine (rq _ uN).mono ?_;rintro en w1 ⟨rfl,h1,hm1⟩;have hR2:=h1.below ((yag _ w1).alloc (yab _) (Obj.cells #[.int .u64 A1,.int .u32 L1,.int .u16 F1,.int .u16 N1] 74)))
                  | (go_at_call 145;refine (zw5 X b2 (.pointer (some ⟨P,0,none⟩)) v' (s'.n+1) 0 A1 L1 F1 s'.aQ _ hR2.cl hR2.own hR2.size hR2.lo.1 (by omega) bF).mono ?_;rintro en w4 ⟨rfl,v4,hc4,NK,jU,hv4⟩;have A8:=hR2.UY hc4 NK jU hv4;have hX1:=h1.cl.lt;have hv1:=h1.own.lt;have oU:=(Cl.new w1 #[.int .u64 A1,.int .u32 L1,.int .u16 F1,.int .u16 N1] 74).kept (jU.block w1.heap.size (by simp) (fun q=>q.elim (fun q=>by omega) (fun q=>by have:=(hv1 _ q).2.1;omega)));have y2:=oU.cell 2 _ rfl;have y3:=oU.cell 3 _ rfl)
                  | go_in)
                refine yaI (ycZ rfl _ _ _) rfl ?_;exact ⟨rfl,v4,_,(ybV qf ()).symm,by rw [he0];exact A8⟩
              · have hf2:F1%2=1:=by omega
                simp only [hf1,ybm] at qf;rw [hf2] at hb1;clear hT;go_wp2_with (first
                  | (at_builtin;go_loud (refine ya4 _ rfl _ _ 35 rfl w.heap.size 3 i0 _ 1 8 (by kernel_rfl) hi0 j1 j2 j3 rfl (by decide) (.slice sa seen.length cs) seen.length (bg seen.reverse) rfl D5 ⟨wr.heap.size,0,none⟩ 1 1 [.int .i64 k'] rfl rfl hnews hone (by unfold maxLen;omega) (by omega) (by simp;omega) ?_);intro mQ wa g1 g3 _ g4;obtain ⟨uN,hO2,Bc⟩:=after mQ wa g1 g3 g4;go_frame)
                  | (go_at_call 143;refine (rq _ uN).mono ?_;rintro en w1 ⟨rfl,h1,hm1⟩;have hR2:=h1.below ((yag _ w1).alloc (yab _) (Obj.cells #[.int .u64 A1,.int .u32 L1,.int .u16 F1,.int .u16 N1] 74)))
                  | (go_at_call 145;refine (zw5 X b2 (.pointer (some ⟨P,0,none⟩)) v' (s'.n+1) 0 A1 L1 F1 s'.aQ _ hR2.cl hR2.own hR2.size hR2.lo.1 (by omega) bF).mono ?_;rintro en w4 ⟨rfl,v4,hc4,NK,jU,hv4⟩;have A8:=hR2.UY hc4 NK jU hv4;have hX1:=h1.cl.lt;have hv1:=h1.own.lt;have oU:=(Cl.new w1 #[.int .u64 A1,.int .u32 L1,.int .u16 F1,.int .u16 N1] 74).kept (jU.block w1.heap.size (by simp) (fun q=>q.elim (fun q=>by omega) (fun q=>by have:=(hv1 _ q).2.1;omega)));have y2:=oU.cell 2 _ rfl;have y3:=oU.cell 3 _ rfl)
                  | go_in)
                have hsz1:=hm1.size;have aa5:=jU.size;have MN:=aG.kept hO2 (w':=w1) fun b e=>hm1.block b (aG.lt hO2 b e).2 fun q=>by have:=(aG.lt hO2 b e).1;have q:b=X:=q;omega
                have Ta:=aG.kept MN (w':=w1.alloc (Obj.cells #[.int .u64 A1,.int .u32 L1,.int .u16 F1,.int .u16 N1] 74)) fun b e=>((yag _ w1).alloc (yab _) _).block b (aG.lt MN b e).2;have hO4:=aG.kept Ta (w':=w4) fun b e=>jU.block b (aG.lt Ta b e).2 fun q=>by
                  rcases q with q|q
                  · have:=(aG.lt hO2 b e).1;omega
                  · exact Bc b e q
                refine ⟨⟨N1,k'::seen,⟨s'.aQ++ [⟨A1,L1,F1/2%2*2 !=0⟩],s'.n+1,s'.e⟩,v4,f',rfl,bN,by simp only [yaW];omega,ycc.2 ⟨hnm,hnd⟩,fun y hy=> ?_,A8,he0,by simp only [yaQ,yaW,ybv];omega,⟨by show 0≤s'.n+1;omega,by show s'.n+1≤_;simp only [yaW];omega⟩,hO4,fun b e q=> ?_,qf,?_⟩,?_⟩
                · rcases yac.1 hy with rfl|hy
                  · exact ⟨hk'.1,aaw⟩
                  · exact hsr y hy
                · rcases hv4 b q with q|q
                  · exact Bc b e q
                  · have:=(aG.lt MN b e).2;simp at q;omega
                · simp at aa5;have:=(g3).size;simp at this;omega
                · obtain ⟨fU,cs2,rfl,_⟩:=aG.row hO2;simp only [Uv,yaW];omega
          · have hin': ¬(a:Int)+16≤N:=by omega
            rw [yak (by omega)] at hsplit;have rq:=fun w1 (h1:dw w0 w1 X b2 P L Bs B N g v0 v' s'.aQ s'.n 0)=>zxj h1 hN (A:=a) ⟨by omega,haB⟩ hin';have qf:(fun _:Unit=>fH N g (mg inner table T) (c.toNat+1) A c k [] s)=fun _=>_:=hQ.trans (funext fun _=>hsplit);clear hQ hsplit hT haB;go_wp2_with (first
              | (at_builtin;go_loud (refine ya4 _ rfl _ _ 35 rfl w.heap.size 3 i0 _ 1 8 (by kernel_rfl) hi0 j1 j2 j3 rfl (by decide) (.slice sa seen.length cs) seen.length (bg seen.reverse) rfl D5 ⟨wr.heap.size,0,none⟩ 1 1 [.int .i64 k'] rfl rfl hnews hone (by unfold maxLen;omega) (by omega) (by simp;omega) ?_);intro mQ wa g1 g3 _ g4;obtain ⟨uN,hO2,Bc⟩:=after mQ wa g1 g3 g4;go_frame)
              | (go_at_call 143;refine (rq _ uN).mono ?_;rintro en w1 ⟨rfl,h1,hm1⟩;have hR2:=h1.below ((yag _ w1).alloc (yab _) (Obj.cells #[.int .u64 0,.int .u32 0,.int .u16 0,.int .u16 0] 74)))
              | go_in)
            refine yaI (ycZ rfl _ _ _) rfl ?_;exact ⟨rfl,v',_,(ybV qf ()).symm,hR2⟩
def Tryz.zH (N:Nat) (g:Nat→Int) (A Ln:Int) (s:WS):WS:=
 if (dA N A Ln).2=0 then fH N g qM ((dA N A Ln).1.toNat+1) A (dA N A Ln).1 0 [] { s with e:=0 } else { s with e:=(dA N A Ln).2 }
theorem Tryz.zDd (t:Bool) (T:Int→Int→WS→WS):mg true t T=qM:=by
 funext A L F s;unfold mg qM;rw [yak (.inl rfl)]
theorem Tryz.zzM (N:Nat) (g:Nat→Int) (t:Bool):mg false t (zH N g)=lQ N g t:=by
 funext A L F s;unfold mg lQ zH;simp only [yaP,false_or]
set_option maxRecDepth 100000 in
theorem Tryz.zu5 {w0 w:World} {X b2 P L Bs B N:Nat} {g:Nat→Int} {v0 v:Value} {s:WS} {A1 L1:Int} (h:dw w0 w X b2 P L Bs B N g v0 v s.aQ s.n 0) (he:s.e=0) (hN:N≤1048576) (ha:0≤A1∧A1<18446744073709551616) (hL:0≤L1∧L1<4294967296) (hn:0≤s.n∧s.n≤80000) (hl:s.aQ.length≤80000):
    Calls prog 144 #[.pointer (some ⟨X,0,none⟩),.int .u64 A1,.int .u32 L1] w fun en w'=>en= .returned (.tuple #[])∧ ∃v',dw w0 w' X b2 P L Bs B N g v0 v' (zH N g A1 L1 s).aQ (zH N g A1 L1 s).n (zH N g A1 L1 s).e:=by
  have yX:=zxg X P L Bs B N v s.n 0 A1 L1 g w h.cl h.rm hN ha hL;obtain ⟨aQ,n,e⟩:=s;have he:e=0:=he;subst he;unfold zH;by_cases hz:(dA N A1 L1).2=0
  · rw [yak hz];have hcnt:=ztV (N:=N) (A:=A1) hL.1;rw [ya1 hz,show wO 0 (dA N A1 L1).2=0 from by unfold wO;rw [yak hz]] at yX;generalize (dA N A1 L1).1=c at yX hcnt ⊢;have hch:=fun w1 (h1:dw w0 w1 X b2 P L Bs B N g v0 v aQ n 0)=>zly (s:=⟨aQ,n,0⟩) (c:=c) (k:=0) (inner:=true) (table:=true) (T:=fun _ _ s=>s) h1 rfl hN ha ⟨hcnt.1,by omega⟩ ⟨by decide,by decide⟩ ⟨hn.1,by have:=hn.2;show n+c≤90000;have:n≤80000:=this;omega⟩ (by have:aQ.length≤80000:=hl;show aQ.length+c.toNat≤90000;omega) (fun q=>by cases q);rw [zDd] at hch;clear hz hcnt;go_enter func144,ntmps144;go_wp2_with (first
      | (go_at_call 158;refine yX.mono ?_;rintro en w1 ⟨rfl,hc1,hm1⟩;have h1:=h.stopped hc1 hm1)
      | (go_at_call 126;refine (hch _ h1).mono ?_;rintro en w2 ⟨rfl,v2,R,rfl,h2⟩)
      | go_in)
    go_end0;exact ⟨rfl,v2,h2⟩
  · rw [yai hz];rw [ybd hz,show wO 0 (dA N A1 L1).2=(dA N A1 L1).2 from by unfold wO xG;rw [yai hz];rfl] at yX;generalize (dA N A1 L1).2=err at yX hz ⊢;generalize (dA N A1 L1).1=c at yX;go_enter func144,ntmps144;go_wp2_with (first
      | (go_at_call 158;refine yX.mono ?_;rintro en w1 ⟨rfl,hc1,hm1⟩;have h1:=h.stopped hc1 hm1)
      | go_in)
    go_end0;exact ⟨rfl,v,h1⟩
set_option maxRecDepth 100000 in
theorem Tryz.zq2 {r:Rg} (h:RgOk r) (P:Nat) (w:World):
    Calls prog 125 #[.pointer (some ⟨P,0,none⟩),r.val,.bool false] w fun e w'=>e= .returned (.int .i64 0)∧Below w.heap.size w w':=by
  have hck:=fun w'=>vB r h w';clear h;unfold Rg.val at hck ⊢;generalize r.n=n at*;generalize r.d=d at*;generalize r.v=v at*;generalize r.c=c at*;have kc:=Cl.new w #[.bool false,.int .i64 n,.int .u64 d,.int .u64 v,.int .u64 c] 32;have hb:=(yag w.heap.size w).alloc (yab _) (.cells #[.bool false,.int .i64 n,.int .u64 d,.int .u64 v,.int .u64 c] 32);go_enter func125,ntmps125;go_wp2_with (first
    | (go_at_call 62;refine (hck _).mono ?_;rintro en w1 ⟨rfl,hb1⟩;have k1:=kc.below hb1 kc.lt;have c0:=k1.cell 0 _ rfl)
    | go_in)
  go_ret;exact ⟨rfl,hb.trans (hb1.mono (by simp))⟩
set_option maxRecDepth 100000 in
theorem Tryz.zAE {w0 w:World} {X b2 P L Bs B N:Nat} {g:Nat→Int} {v0 v:Value} {l:List Sg} {n e:Int} (h:dw w0 w X b2 P L Bs B N g v0 v l n e) (hN:N≤1048576) (hok:e=0→ ∀x∈l,x.ok) (hl:l.length≤100000):
    Calls prog 127 #[.pointer (some ⟨X,0,none⟩)] w fun en w'=> ∃e1,e1=(if e=0 then lV N l else e)∧en= .returned (.tuple #[if e1=0 then v else .slice none 0 0,.int .i64 e1])∧dw w0 w' X b2 P L Bs B N g v0 v l n e1:=by
  obtain ⟨sa,c,rfl,_⟩:=h.own.slice;have c0:=h.cl.cell 0 _ rfl;have c1:=h.cl.cell 1 _ rfl;have c3:=h.cl.cell 3 _ rfl;have f3:=h.cl.free 3;have Du:=h.cl.lt;have hsv:e=0→ ∀w',dw w0 w' X b2 P L Bs B N g v0 (.slice sa l.length c) l n e→aL (fun _=>False) w' (.slice sa l.length c) l:=fun q w' h'=>h'.own.rV (hok q) (fun _ _ q=>q);have hck:=fun q=>Kr (hsv q w h);by_cases he:e=0
  · replace hsv:=hsv he;replace hck:=hck he;subst he;by_cases hbad:l= []∨ ¬gM l=0
    · have hlk:lV N l=4:=by unfold lV;rw [yak hbad]
      have hset: ∀w1,dw w0 w1 X b2 P L Bs B N g v0 (.slice sa l.length c) l n 0→dw w0 (w1.setCell ⟨X,3,none⟩ (.int .i64 4)) X b2 P L Bs B N g v0 (.slice sa l.length c) l n 4:=fun w1 h1=>h1.stopped (h1.cl.set 3 (.int .i64 4) (by simp)) ⟨rfl,rfl,rfl,by simp,fun k hk hne=>yah w1 ⟨X,3,none⟩ _ k hne⟩;refine yas (R:=fun en w'=>en= .returned (.tuple #[.slice none 0 0,.int .i64 4])∧dw w0 w' X b2 P L Bs B N g v0 (.slice sa l.length c) l n 4) ?_ fun en w' hh=>⟨4,by rw [yak rfl,hlk],hh.1,hh.2⟩;clear hlk;by_cases hn:l.length=0
      · have hs0:=hset w h;have d3:=hs0.cl.cell 3 _ rfl;have hn':(l.length:Int)=0:=by omega
        clear hbad hck;go_enter func127,ntmps127;go_wp2_with fail;go_quiet (fail);go_wp2;go_ret2;exact ⟨rfl,hs0.below (below_drewN (yag _ _) _)⟩
      · have hse: ¬gM l=0:=by
          rcases hbad with q|q
          · exact absurd (by rw [q];rfl) hn
          · exact q
        have hn': ¬(l.length:Int)=0:=by omega
        clear hbad;generalize gM l=se at hck hse;have abU:(se !=0)=true:=by simpa using hse
        go_enter func127,ntmps127;go_wp2_with (first
          | (go_at_call 80;refine hck.mono ?_;rintro en w1 ⟨rfl,hb1⟩;have h1:=h.below hb1;have g3:=h1.cl.cell 3 _ rfl;have k3:=h1.cl.free 3;have hs0:=hset w1 h1;have d3:=hs0.cl.cell 3 _ rfl)
          | go_in)
        go_quiet (fail);go_wp2;go_ret2;exact ⟨rfl,hs0.below (below_drewN (yag _ _) _)⟩
    · have hse:gM l=0:=by
        by_cases q:gM l=0
        · exact q
        · exact absurd (.inr q) hbad
      have hn: ¬l.length=0:=fun q=>hbad (.inl (yb0.1 q));have hlk:lV N l=oH N l:=by unfold lV;rw [yai hbad]
      rw [hse] at hck;have hn': ¬(l.length:Int)=0:=by omega
      have hin:=fun w1 (h1:dw w0 w1 X b2 P L Bs B N g v0 (.slice sa l.length c) l n 0)=>zDJ h1.rm hN (hsv w1 h1) hl;rw [yak rfl,hlk];clear hlk hse hbad;generalize oH N l=si at hin ⊢;have hset: ∀w1,dw w0 w1 X b2 P L Bs B N g v0 (.slice sa l.length c) l n 0→dw w0 (w1.setCell ⟨X,3,none⟩ (.int .i64 si)) X b2 P L Bs B N g v0 (.slice sa l.length c) l n si:=fun w1 h1=>h1.stopped (h1.cl.set 3 (.int .i64 si) (by simp)) ⟨rfl,rfl,rfl,by simp,fun k hk hne=>yah w1 ⟨X,3,none⟩ _ k hne⟩;by_cases hs:si=0
      · refine yas (R:=fun en w'=>en= .returned (.tuple #[.slice sa l.length c,.int .i64 0])∧dw w0 w' X b2 P L Bs B N g v0 (.slice sa l.length c) l n 0) ?_ fun en w' hh=>⟨0,hs.symm,hh.1,hh.2⟩;subst hs;go_enter func127,ntmps127;go_wp2_with (first
          | (go_at_call 80;refine hck.mono ?_;rintro en w1 ⟨rfl,hb1⟩;have h1:=h.below hb1;have g0:=h1.cl.cell 0 _ rfl;have g1:=h1.cl.cell 1 _ rfl;have g3:=h1.cl.cell 3 _ rfl;have k3:=h1.cl.free 3)
          | go_in)
        go_region_held3 (fun w'=>w'.cell? ⟨X,0,none⟩=some (.pointer (some ⟨P,0,none⟩))∧w'.cell? ⟨X,1,none⟩=some (.slice sa l.length c)) (go_keep)
          ((first|(go_at_call 146;refine (hin w1.drew (h1.below ((yag _ w1).drew))).mono ?_;rintro en w3 ⟨rfl,hb3⟩;have h3:=(h1.below ((yag _ w1).drew)).below hb3;have m0:=h3.cl.cell 0 _ rfl;have m1:=h3.cl.cell 1 _ rfl;have m3:=h3.cl.cell 3 _ rfl;have m4:=h3.cl.free 3;have h5:=hset w3 h3;have s0:=h5.cl.cell 0 _ rfl;have s1:=h5.cl.cell 1 _ rfl;have s3:=h5.cl.cell 3 _ rfl)))
        all_goals go_wp2_with fail
        all_goals
          go_ret2;exact ⟨rfl,h5⟩
      · have hs2:(si !=0)=true:=by simpa using hs
        refine yas (R:=fun en w'=>en= .returned (.tuple #[.slice none 0 0,.int .i64 si])∧dw w0 w' X b2 P L Bs B N g v0 (.slice sa l.length c) l n si) ?_ fun en w' hh=>⟨si,rfl,by rw [yai hs];exact hh.1,hh.2⟩;go_enter func127,ntmps127;go_wp2_with (first
          | (go_at_call 80;refine hck.mono ?_;rintro en w1 ⟨rfl,hb1⟩;have h1:=h.below hb1;have g0:=h1.cl.cell 0 _ rfl;have g1:=h1.cl.cell 1 _ rfl;have g3:=h1.cl.cell 3 _ rfl;have k3:=h1.cl.free 3)
          | go_in)
        go_region_held3 (fun w'=>w'.cell? ⟨X,0,none⟩=some (.pointer (some ⟨P,0,none⟩))∧w'.cell? ⟨X,1,none⟩=some (.slice sa l.length c)) (go_keep)
          ((first|(go_at_call 146;refine (hin w1.drew (h1.below ((yag _ w1).drew))).mono ?_;rintro en w3 ⟨rfl,hb3⟩;have h3:=(h1.below ((yag _ w1).drew)).below hb3;have m0:=h3.cl.cell 0 _ rfl;have m1:=h3.cl.cell 1 _ rfl;have m3:=h3.cl.cell 3 _ rfl;have m4:=h3.cl.free 3;have h5:=hset w3 h3;have s0:=h5.cl.cell 0 _ rfl;have s1:=h5.cl.cell 1 _ rfl;have s3:=h5.cl.cell 3 _ rfl)))
        all_goals go_wp2_with fail
        all_goals
          go_quiet (fail);go_wp2;go_ret2;exact ⟨rfl,h5.below (below_drewN (yag _ _) _)⟩
  · refine yas (R:=fun en w'=>en= .returned (.tuple #[.slice none 0 0,.int .i64 e])∧dw w0 w' X b2 P L Bs B N g v0 (.slice sa l.length c) l n e) ?_ fun en w' hh=>⟨e,by rw [yai he],by rw [yai he];exact hh.1,hh.2⟩;go_enter func127,ntmps127;go_wp2_with fail;go_quiet (fail);go_wp2;go_ret2;exact ⟨rfl,h.below (below_drewN (yag _ w) _)⟩
set_option maxRecDepth 100000 in
theorem Tryz.zon {w:World} {P L Bs B N:Nat} {g:Nat→Int} {r:Rg} {head:Int} {table:Bool} (st:bO w P L Bs B N g) (hN:N≤1048576) (hr:RgOk r) (hh:0≤head∧head<65536):
    Calls prog 109 #[.pointer (some ⟨P,0,none⟩),r.val,.int .i64 head,.bool table] w fun en w'=> ∃u e,en= .returned (.tuple #[u,.int .i64 e])∧e=(eX N g r head table).2∧(e=0→cO w' w.heap.size u (eX N g r head table).1)∧(e≠0→u= .slice none 0 0)∧Below w.heap.size w w':=by
  have hg:=st.byte;have hbn:=hr.bnd;have hrf:=fun w'=>zq2 hr P w';have hlen:=Ql (N:=N) (head:=head) (table:=table) hg hr;have hgood:=PL (N:=N) (r:=r) (head:=head) (table:=table) hg;have hd0:=hr.d0;have hdE:=hr.dE;have hS1:(eX N g r head table).2=if (je N g r head table).e=0 then lV N (je N g r head table).aQ else (je N g r head table).e:=by
    unfold eX;split
    · split
      · rename_i q;exact q.symm
      · rfl
    · rfl
  have hS2:(eX N g r head table).2=0→(eX N g r head table).1=(je N g r head table).aQ:=by
    unfold eX;split
    · split
      · exact fun _=>rfl
      · rename_i q;exact fun q2=>absurd q2 q
    · rename_i q;exact fun q2=>absurd q2 q
  have hch:=fun w1 v1 X b2 w0 (h1:dw w0 w1 X b2 P L Bs B N g v1 v1 [] 0 0)=>zly (s:=⟨[],0,0⟩) (A:=r.d) (c:=r.n) (k:=head) (inner:=false) (table:=table) (T:=zH N g) h1 rfl hN ⟨by omega,by omega⟩ ⟨by omega,by omega⟩ hh ⟨by show (0:Int)≤0;decide,by show (0:Int)+r.n≤90000;omega⟩ (by show 0+r.n.toNat≤90000;omega) (fun _ w2 v2 s2 A2 L2 q1 q2 q3 q4 q5 q6=>zu5 q1 q2 hN q3 q4 ⟨q5.1,by have:=q5.2;have:s2.n≤(0:Int)+r.n+1:=this;omega⟩ (by have:s2.aQ.length≤0+r.n.toNat:=q6;omega));rw [zzM] at hch;have hend: ∀w0 w1 X b2 v0 v1 n1,dw w0 w1 X b2 P L Bs B N g v0 v1 (je N g r head table).aQ n1 (je N g r head table).e→Calls prog 127 #[.pointer (some ⟨X,0,none⟩)] w1 fun en w'=> ∃u e1,en= .returned (.tuple #[u,.int .i64 e1])∧Gx e1 (if (je N g r head table).e=0 then lV N (je N g r head table).aQ else (je N g r head table).e)∧(e1=0→u=v1)∧(e1≠0→u= .slice none 0 0)∧dw w0 w' X b2 P L Bs B N g v0 v1 (je N g r head table).aQ n1 e1:=fun w0 w1 X b2 v0 v1 n1 h1=>
    (zAE h1 hN (fun _=>hgood.1) (yau hlen (by decide))).mono fun en w' ⟨e1,q1,q2,q3⟩=>⟨_,e1,q2,⟨q1⟩,fun q=>yak q,fun q=>yai q,q3⟩
  have hsp:je N g r head table=fH N g (lQ N g table) (r.n.toNat+1) r.d r.n head [] ⟨[],0,0⟩:=rfl;rw [←hsp] at hch;generalize je N g r head table=R0 at*;generalize eX N g r head table=S0 at*;clear hsp hr hgood hlen hdE hd0 hbn;unfold Rg.val at hrf ⊢;have Ur:=Cl.new w #[.bool false,.int .i64 r.n,.int .u64 r.d,.int .u64 r.v,.int .u64 r.c] 32;have hb0:=(yag w.heap.size w).alloc (yab _) (.cells #[.bool false,.int .i64 r.n,.int .u64 r.d,.int .u64 r.v,.int .u64 r.c] 32);generalize r.n=n at*;generalize r.d=d at*;generalize r.v=v at*;generalize r.c=c at*;go_enter func109,ntmps109;go_wp2_with (first
    | (go_at_call 125;refine (hrf _).mono ?_;rintro en w1 ⟨rfl,hb1⟩;have wS:=hb0.trans (hb1.mono hb0.size);have hbX:=(yag w1.heap.size w1).alloc (yab _) (.cells #[.pointer (some ⟨P,0,none⟩),.slice none 0 0,.int .i64 0,.int .i64 0] 184);have k1:=(Ur.below hb1 Ur.lt).alloc (.cells #[.pointer (some ⟨P,0,none⟩),.slice none 0 0,.int .i64 0,.int .i64 0] 184);have c1:=k1.cell 1 _ rfl;have c2:=k1.cell 2 _ rfl;have kX:=Cl.new w1 #[.pointer (some ⟨P,0,none⟩),.slice none 0 0,.int .i64 0,.int .i64 0] 184;have st1:=(st.below wS).below hbX;have hP:=(st.below wS).pl;have hL:=(st.below wS).ll;have He:=(st.below wS).sl;have hB:=(st.below wS).bl;have hR:dw (w1.alloc (.cells #[.pointer (some ⟨P,0,none⟩),.slice none 0 0,.int .i64 0,.int .i64 0] 184)) (w1.alloc (.cells #[.pointer (some ⟨P,0,none⟩),.slice none 0 0,.int .i64 0,.int .i64 0] 184)) w1.heap.size (w1.heap.size+1) P L Bs B N g (.slice none 0 0) (.slice none 0 0) [] 0 0:=⟨kX,cO.nil _ _,st1,⟨by omega,by omega,by omega,by omega,by omega⟩,⟨by omega,by omega,by omega,by omega⟩,by simp,Dw.Mv.refl _ _,fun _ q=> .inl q⟩)
    | (go_at_call 126;refine (hch _ _ _ _ _ hR).mono ?_;rintro en w2 ⟨rfl,v2,R,rfl,h2⟩)
    | (go_at_call 127;refine (hend _ _ _ _ _ _ _ h2).mono ?_;rintro en w3 ⟨u3,e3,rfl,Tn,hu1,hu2,h3⟩)
    | go_in)
  go_ret2;have hsz:=wS.size;refine ⟨u3,e3,rfl,Tn.eq.trans hS1.symm,fun q=> ?_,hu2,?_⟩
  · rw [hu1 q,hS2 (by rw [hS1,←Tn.eq,q])];exact h3.own.mono (by omega)
  · have hbw:=wS.trans (hbX.mono wS.size);exact ⟨h3.mv.os.trans hbw.os,h3.mv.tape.trans hbw.tape,h3.mv.output.trans hbw.output,yau hbw.size h3.mv.size,fun b hb=>(h3.mv.block b (yad hb hbw.size) fun q=>by
      rcases q with q|q
      · omega
      · cases q).trans (hbw.block b hb)⟩
theorem Tryz.zxK {w:World} {b2:Nat} {v:Value} {l:List Sg} (h:cO w b2 v l) (hok: ∀x∈l,x.ok) {A:Nat→Prop} (hA: ∀b,b2≤b→b<w.heap.size→ ¬A b):aL A w v l:=by
 obtain ⟨sa,c,rfl,hR⟩:=h.slice;obtain ⟨fU,c2,e,h1,h2⟩:=h.rV hok (A:=fun _=>False) fun _ _ q=>q;cases e;refine ⟨sa,c,rfl,h1,?_⟩;rcases h2 with h2|⟨R,o,rfl,_,h3⟩
 ·exact .inl h2
 ·have q:=h.lt R (hR R o rfl);exact .inr ⟨R,o,rfl,hA R q.1 q.2.1,h3⟩
set_option maxRecDepth 100000 in
theorem Tryz.zq3 {A:Nat→Prop} {w:World} {S P L Bs B N b2:Nat} {r:Rg} {s s':SS} {g:Nat→Int} {lv:Value} (h:aV A w S P L Bs B N b2 r s g lv) (hb:s.br=false) (hp:s.ph=7) (hl:s.tk.length≤100000) {t:List Sg×Int} (ht:eX N g r s.hd s.tb=t) {E:Int}
    (hE:((t.2≠0∨dP s.hd s.tk≠none)∧E=4∧s'=s.brk)∨((t.2=0∧dP s.hd s.tk=none)∧E=0∧s'=({ s with tk:=s.tk++ [(s.hd,t.1)],sg:=t.1,nx:=(s.nx+1)%65536 }:SS).stop)) (hpb:eF s'):
    Calls prog 79 #[.pointer (some ⟨S,0,none⟩)] w fun e w'=>e= .returned (.tuple #[.agg #[.int .i64 1,.int .i64 0,.int .i64 0],.int .i64 E])∧ ∃dV,aV A w' S P L Bs B N b2 r s' g dV∧(∀b,dV.ownBlock=some b→lv.ownBlock=some b∨w.heap.size≤b)∧Dw.Mv (fun b=>b=S∨lv.ownBlock=some b) w w':=by
  obtain ⟨sv,vs,q1,q2,q3⟩:=h.obj;have hRR:=h;have k2:=(Cl.new w #[.int .i64 0,.int .i64 0,.int .i64 0] 81).alloc (Obj.cells #[.int .i64 4,.int .i64 0,.int .i64 0] 81);have hbx:=((yag w.heap.size w).alloc (yab _) (Obj.cells #[.int .i64 0,.int .i64 0,.int .i64 0] 81)).alloc (by simp) (Obj.cells #[.int .i64 4,.int .i64 0,.int .i64 0] 81);have p1:=q1.below hbx q1.lt;have c12:=p1.cell 12 _ rfl;rw [hp] at c12;have hbn:=h.rg.bnd;have hnx:=h.pb.nx;have hhd:=h.pb.hd;have hN:=h.hN;have hsp: ∀w',bO w' P L Bs B N g→Calls prog 109 #[.pointer (some ⟨P,0,none⟩),r.val,.int .i64 s.hd,.bool s.tb] w' fun en w4=>Below w'.heap.size w' w4∧ ∃(e1:Int) (kU:Option Addr) (n0 c0:Nat),en= .returned (.tuple #[.slice kU n0 c0,.int .i64 e1])∧((e1≠0∧t.2≠0)∨(e1=0∧t.2=0∧cO w4 w'.heap.size (.slice kU n0 c0) t.1)):=fun w' hq=>by
    refine (zon hq hN h.rg hhd (table:=s.tb)).mono fun en w4 hh=> ?_;obtain ⟨u,e,h1,h2,h3,h4,h5⟩:=hh;rw [ht] at h2 h3;refine ⟨h5,?_⟩;by_cases he:e=0
    · have g2:=h3 he;obtain ⟨sa,c,rfl,_⟩:=g2.slice;exact ⟨e,sa,t.1.length,c,h1,.inr ⟨he,h2.symm.trans he,g2⟩⟩
    · exact ⟨e,none,0,0,by rw [h1,h4 he],.inl ⟨he,fun q=>he (h2.trans q)⟩⟩
  unfold Rg.val at hsp;have hts:=Qb (N:=N) (r:=r) (head:=s.hd) (table:=s.tb) h.rm.byte h.rg;rw [ht] at hts;obtain ⟨WW,Ba⟩: ∃WW,WW=((w.alloc (Obj.cells #[.int .i64 0,.int .i64 0,.int .i64 0] 81)).alloc (Obj.cells #[.int .i64 4,.int .i64 0,.int .i64 0] 81)).drew:=⟨_,rfl⟩;have hbw:Below w.heap.size w WW:=by rw [Ba];exact hbx.drew
  have UJ:Cl WW S (s.aI r P sv lv):=Ba▸p1.kept rfl;have Uo:Cl WW w.heap.size [.int .i64 0,.int .i64 0,.int .i64 0]:=Ba▸k2.kept rfl;have abt:bO ((w.alloc (Obj.cells #[.int .i64 0,.int .i64 0,.int .i64 0] 81)).alloc (Obj.cells #[.int .i64 4,.int .i64 0,.int .i64 0] 81)).drew P L Bs B N g:=(h.rm.below hbx).kept (fun _ _ _=>rfl) (yab _);have c0:=p1.cell 0 _ rfl;have c1:=p1.cell 1 _ rfl;have c2:=p1.cell 2 _ rfl;have c3:=p1.cell 3 _ rfl;have c4:=p1.cell 4 _ rfl;have c5:=p1.cell 5 _ rfl;have c7:=p1.cell 7 _ rfl;have c15:=p1.cell 15 _ rfl;have nS:w.heap.size≠S:=by have:=q1.lt;omega
  have hT: ∀ {w'},Dw.Mv (· =S) w w'→wu A w' b2 lv s.tk vs:=fun {w'} hm=>q3.kept (fun b hb hn=>hm.block b hb fun e=>hn (by have e:b=S:=e;rw [e];exact h.aS)) (fun b e=>hm.block b (q3.2.1.choose_spec.lt b e).2 fun e2=>by have e2:b=S:=e2;have:=(q3.2.1.choose_spec.lt b e).1;have:=h.lo.1;omega);have hWs:WW.heap.size=w.heap.size+2:=by rw [Ba];simp
  go_enter func79,ntmps79;go_wp2_with fail;go_region_held3 (fun w'=>w'.cell? ⟨S,0,none⟩=some (.pointer (some ⟨P,0,none⟩))∧w'.cell? ⟨S,1,none⟩=some (.bool false)∧w'.cell? ⟨S,2,none⟩=some (.int .i64 r.n)∧w'.cell? ⟨S,3,none⟩=some (.int .u64 r.d)∧w'.cell? ⟨S,4,none⟩=some (.int .u64 r.v)∧w'.cell? ⟨S,5,none⟩=some (.int .u64 r.c)∧w'.cell? ⟨S,15,none⟩=some (.int .i64 s.hd)∧w'.cell? ⟨S,7,none⟩=some (.bool s.tb)) (go_keep)
    ((first
      | (go_at_call 109;refine (hsp _ abt).mono ?_;rintro en w4 ⟨hb4,e1,kU,n0,c0',rfl,hH⟩;rw [←Ba] at hb4;have p4:=UJ.below hb4 UJ.lt;have d40:=p4.cell 0 _ rfl;have d41:=p4.cell 1 _ rfl;have d42:=p4.cell 2 _ rfl;have d43:=p4.cell 3 _ rfl;have d44:=p4.cell 4 _ rfl;have d45:=p4.cell 5 _ rfl;have d47:=p4.cell 7 _ rfl;have abJ:=p4.cell 15 _ rfl)))
  have hbel:=hbw.trans (hb4.mono hbw.size);have El:=Uo.below hb4 Uo.lt;have hdn:s.dn=false:=h.dn (.inl (by omega));have Ni:=fun w6 (p6:Cl w6 S (s.aI r P sv lv))=>zoD p6 1 0 0 0 hdn;have close: ∀ {w6 w7:World},Below w4.heap.size w4 w6→s'=s.brk→Cl w7 S (s.brk.aI r P (.slice none 0 0) lv)→Dw.Mv (· =S) w6 w7→Cl w7 w.heap.size [.int .i64 0,.int .i64 0,.int .i64 0]∧ ∃dV,aV A (((w7.setCell ⟨w.heap.size,0,none⟩ (.int .i64 1)).setCell ⟨w.heap.size,1,none⟩ (.int .i64 0)).setCell ⟨w.heap.size,2,none⟩ (.int .i64 0)) S P L Bs B N b2 r s' g dV∧(∀b,dV.ownBlock=some b→lv.ownBlock=some b∨w.heap.size≤b)∧Dw.Mv (fun b=>b=S∨lv.ownBlock=some b) w (((w7.setCell ⟨w.heap.size,0,none⟩ (.int .i64 1)).setCell ⟨w.heap.size,1,none⟩ (.int .i64 0)).setCell ⟨w.heap.size,2,none⟩ (.int .i64 0)):=fun {w6 w7} hb6 hsb hc hm=>by
    have hbw:=hbel.trans (hb6.mono hbel.size);have hm1:Dw.Mv (· =S) w w7:=(eO hbw).trans hm;have hm2:=gN (gN (gN hm1 w.heap.size 0 (.int .i64 1) (.inr (yab _))) w.heap.size 1 (.int .i64 0) (.inr (yab _))) w.heap.size 2 (.int .i64 0) (.inr (yab _));subst hsb;have k6:=El.below hb6 El.lt;have wV:Dw.Mv (fun b=>b=S∨lv.ownBlock=some b) w _:=hm2.mono fun b e=> .inl e;exact ⟨k6.kept (hm.block _ k6.lt nS),lv,hRR.tX wV (((hc.kept (yah _ ⟨w.heap.size,0,none⟩ _ S (fun e=>nS e.symm))).kept (yah _ ⟨w.heap.size,1,none⟩ _ S (fun e=>nS e.symm))).kept (yah _ ⟨w.heap.size,2,none⟩ _ S (fun e=>nS e.symm))) aL.none (hT hm2) hpb (fun _=>hdn) hRR.mP hRR.nd,fun b e=> .inl e,wV⟩
  have hmr:Dw.Mv (· =S) w w4:=eO hbel;have hfind:=fun i hi=>Jm (S:=S) (p4.cell 11 _ rfl) (hT hmr) hl s.hd i hi;clear c0 c1 c2 c3 c4 c5 c7 d40 d41 d42 d43 d44 d45 d47;rcases hH with ⟨he1,he2⟩|⟨rfl,he2,hown⟩
  · have hsb:E=4∧s'=s.brk:=by
      rcases hE with ⟨_,q⟩|⟨⟨q,_⟩,_⟩
      · exact q
      · exact absurd q he2
    obtain ⟨rfl,hsb⟩:=hsb;have hb1:(e1 !=0)=true:=by simpa using he1
    clear hE hfind;go_wp2_with (first
      | (go_at_call 105;refine (Ni _ p4).mono ?_;rintro en w7 ⟨rfl,M9,rA⟩;obtain ⟨kc,hfin⟩:=close (yag _ _) hsb M9 rA;have b0:=kc.cell 0 _ rfl;have b1:=kc.cell 1 _ rfl;have b2':=kc.cell 2 _ rfl;have g0:=kc.free 0;have g1:=kc.free 1;have g2:=kc.free 2)
      | go_in)
    have sf:=((kc.set 0 (.int .i64 1) (by simp)).set 1 (.int .i64 0) (by simp)).set 2 (.int .i64 0) (by simp);refine yaI (gI rfl _ _ w.heap.size [.int .i64 1,.int .i64 0,.int .i64 0] _ rfl (fun j y hy=>by rw [yaq];exact sf.cell j y hy) underlying81 rfl (by kernel_rfl)) rfl ?_;exact ⟨rfl,hfin⟩
  · cases hg:dP s.hd s.tk with
    | some t0=>
      have hsb:E=4∧s'=s.brk:=by
        rcases hE with ⟨_,q⟩|⟨⟨_,q⟩,_⟩
        · exact q
        · rw [hg] at q;cases q
      obtain ⟨rfl,hsb⟩:=hsb;obtain ⟨j,hj,j1,j2,j3⟩:=Ey hg;have hf:=hfind j (.inr ⟨j,hj,rfl,j1,j3⟩);have hj0:(0:Int)≤(j:Int):=by omega
      clear hE hfind j1 j2 j3 hj hg;go_wp2_with (first
        | (go_at_call 73;refine hf.mono ?_;rintro en w6 ⟨rfl,hb6⟩;have p6:=p4.below hb6 p4.lt)
        | (go_at_call 105;refine (Ni _ p6).mono ?_;rintro en w7 ⟨rfl,M9,rA⟩;obtain ⟨kc,hfin⟩:=close hb6 hsb M9 rA;have b0:=kc.cell 0 _ rfl;have b1:=kc.cell 1 _ rfl;have b2':=kc.cell 2 _ rfl;have g0:=kc.free 0;have g1:=kc.free 1;have g2:=kc.free 2)
        | go_in)
      have sf:=((kc.set 0 (.int .i64 1) (by simp)).set 1 (.int .i64 0) (by simp)).set 2 (.int .i64 0) (by simp);refine yaI (gI rfl _ _ w.heap.size [.int .i64 1,.int .i64 0,.int .i64 0] _ rfl (fun j y hy=>by rw [yaq];exact sf.cell j y hy) underlying81 rfl (by kernel_rfl)) rfl ?_;exact ⟨rfl,hfin⟩
    | none=>
      have hf:=hfind (-1) (.inl ⟨rfl,Ez hg⟩);obtain ⟨rfl,hs'⟩:E=0∧s'=({ s with tk:=s.tk++ [(s.hd,t.1)],sg:=t.1,nx:=(s.nx+1)%65536 }:SS).stop:=by
        rcases hE with ⟨q|q,_⟩|⟨_,q⟩
        · exact absurd he2 q
        · exact absurd hg q
        · exact q
      clear hE hfind close Ni;rw [←Ba,hWs] at hown;have hsg:=zxK (A:=fun b=>b≤w.heap.size∨w4.heap.size≤b) hown hts.1 (fun b q1 q2 hh=>by omega);have aa0: ∀e∈s'.tk,0≤e.1∧e.1<65536:=by
        rw [hs'];intro e he;have he:e∈s.tk++ [(s.hd,t.1)]:=he;rcases yaT.1 he with q|q
        · exact hRR.mP e q
        · rw [yaF.1 q];exact hhd
      have aaU:(s'.tk.map (·.1)).Nodup:=by
        rw [hs'];show ((s.tk++ [(s.hd,t.1)]).map (·.1)).Nodup;rw [ydI,ydm];refine ⟨hRR.nd,by simp,fun a ha b hb hab=> ?_⟩;obtain ⟨e,he,rfl⟩:=ya6.1 ha;obtain ⟨j,hj,rfl⟩:=ycn.1 he;exact Ez hg j hj (hab.trans (by simpa using hb))
      have Ic: ∀rP:Value,(((((s.aI r P sv lv).set 16 (.slice kU n0 c0')).set 11 rP).set 9 (.int .u16 ((s.nx+1)%65536))).set 12 (.int .i64 0)).set 19 (.bool true)=s'.aI r P (.slice kU n0 c0') rP:=fun rP=>by
        rw [hs'];unfold SS.aI;rw [hb];rfl
      have mJ:s'.tk=s.tk++ [(s.hd,t.1)]:=by rw [hs'];rfl
      have GZ:s'.sg=t.1:=by rw [hs'];rfl
      have GY:s'.ph=0:=by rw [hs'];rfl
      have GX:s'.br=false:=by rw [hs'];rfl
      have Um:=FC (s.nx+1);clear hs';obtain ⟨q5,⟨ty,hrow⟩,q6⟩:=id q3;obtain ⟨sa,c,hlv,aaG⟩:=aG.row hrow;clear aaG;go_wp2_with (first
        | (go_at_call 73;refine hf.mono ?_;rintro en w6 ⟨rfl,hb6⟩;have p6:=p4.below hb6 p4.lt;have o8:=p6.cell 16 _ rfl;have f16:=p6.free 16)
        | go_in)
      have Ut:=El.below hb6 El.lt;have aat:=hbel.trans (hb6.mono hbel.size);have p7:=p6.set 16 (.slice kU n0 c0') (by simp [SS.aI]);have rA:=cZ (Dw.Mv.refl (· =S) w6) S 16 (.slice kU n0 c0') rfl;generalize w6.setCell ⟨S,16,none⟩ (.slice kU n0 c0')=w7 at p7 rA ⊢;have e15:=p7.cell 15 _ rfl;have TS:Dw.Mv (· =S) w w7:=(eO aat).trans rA;have aaR:Dw.Mv (· =S) w4 w7:=(eO hb6).trans rA;have l8:=Ut.kept (rA.block _ Ut.lt nS);have hs7:=rA.size;have hs6:=hb6.size;have hsr:=hbel.size;have e11:=p7.cell 11 _ rfl;rw [hlv] at e11;have aa2:=(hT TS).2.1;obtain ⟨ty7,NS⟩:=aa2;have hba:=(yag w7.heap.size w7).alloc (yab _) (Obj.cells #[.int .i64 s.hd,.slice kU n0 c0'] 148);have Ir:=p7.below hba p7.lt;have xH:=Ir.cell 11 _ rfl;rw [hlv] at xH;obtain ⟨i0,hi0,j1,j2,j3⟩:=ybl R6;have hU:prog.underlying 108=some (.slice 148):=by kernel_rfl
      have Ud:=NS.kept (w':=(w7.alloc (Obj.cells #[.int .i64 s.hd,.slice kU n0 c0'] 148)).drew) fun b e=>hba.block b (NS.lt b e).2;have hnew:=(Cl.new w7 #[.int .i64 s.hd,.slice kU n0 c0'] 148).kept (w':=(w7.alloc (Obj.cells #[.int .i64 s.hd,.slice kU n0 c0'] 148)).drew) rfl;have aap:b2≤w7.heap.size:=by have:=hRR.b2;omega
      have hlo:=hRR.lo.1;have uP:S<(w7.alloc (Obj.cells #[.int .i64 s.hd,.slice kU n0 c0'] 148)).drew.heap.size:=Ir.lt;have aaN:lv.ownBlock≠some S:=fun e=>by have:=(NS.lt S e).1;omega
      have abY:w7.heap.size≠S:=by have:=p7.lt;omega
      clear hlo;go_wp2_with fail;go_cut [] from 182 to 197 (fun wx=> ∃rP t2,aG t2 2 wx b2 rP (s.tk.length+1) (dI s.tk vs++ [.int .i64 s.hd,.slice kU n0 c0'])∧Cl wx S (((s.aI r P sv lv).set 16 (.slice kU n0 c0')).set 11 rP)∧(∀b,rP.ownBlock=some b→lv.ownBlock=some b∨w7.heap.size≤b)∧Dw.Mv (fun b=>b=S∨lv.ownBlock=some b) w7 wx)
      case first=>
        go_region_law (first
          | (refine qC (P0:=prog) (by rfl) _ _ _ (by rfl) b2 148 ty7 i0 _ 2 32 hU hi0 j1 j2 j3 rfl (by decide) lv s.tk.length (dI s.tk vs) (by rw [hlv];rfl) Ud (some ⟨w7.heap.size,0,none⟩) ⟨w7.heap.size,0,none⟩ rfl 1 1 [.int .i64 s.hd,.slice kU n0 c0'] (by rfl) rfl
               (fun j u hu=>by rw [Dw.addr_add,yaq];exact hnew.cell j u hu) (fun u hu=>by simp only [yac,yae,yav] at hu;rcases hu with rfl|rfl<;>rfl) (by unfold maxLen;omega) (by omega) (by simp;omega) ?_
             intro v1 wa t1 hown1 hgrow1 tH;have hSb:=hgrow1.block S uP aaN.symm;have Ol:=Ir.kept (w':=wa) hSb;have IQ:=Ol.cell 11 _ rfl;have abK:=Ol.free 11;obtain ⟨fU,c2,hv2,DT⟩:=aG.row hown1;clear DT;subst hv2))
        all_goals (go_wp2_with fail)
        all_goals
          go_meet;have hgs:=hgrow1.size;refine ⟨_,t1,aG.kept hown1 fun b e=>yah wa ⟨S,11,none⟩ _ b fun e2=> ?_,Ol.set 11 _ (by simp [SS.aI]),fun b e=> ?_,?_⟩
          · have e2:b=S:=e2;have:=(aG.lt hown1 b e).1;have:=hRR.lo.1;omega
          · rcases tH with q|q
            · rw [q] at e;exact .inl e
            · rw [q] at e;simp at e;omega
          · have NG:Dw.Mv (fun b=>b=S∨lv.ownBlock=some b) w7 wa:=⟨hgrow1.os,hgrow1.tape,hgrow1.output,by simp at hgs;omega,fun b hb hn=>(hgrow1.block b (by simp;omega) fun e=>hn (.inr e.symm)).trans (hba.block b hb)⟩;exact cZ NG S 11 _ (.inl rfl)
      case rest=>
        obtain ⟨rP,t2,hown2,p8,hlv2,iy⟩:=hcut;generalize wc=w8 at hown2 p8 iy ⊢;have NT:=iy.size;have aaO: ¬(w.heap.size=S∨lv.ownBlock=some w.heap.size):=fun hh=>by
          rcases hh with hh|hh
          · exact nS hh
          · have:=(hrow.lt _ hh).2;omega
        have uU:=l8.kept (iy.block _ l8.lt aaO);have aaT:Dw.Mv (fun b=>b=S∨lv.ownBlock=some b) w w8:=(TS.mono fun b e=> .inl e).trans iy;have aaS:Dw.Mv (fun b=>b=S∨lv.ownBlock=some b) w4 w8:=(aaR.mono fun b e=> .inl e).trans iy;have e9:=p8.cell 9 _ rfl;have f9:=p8.free 9;have p9:=p8.set 9 (.int .u16 ((s.nx+1)%65536)) (by simp [SS.aI]);have jV:Dw.Mv (· =S) w8 _:=cZ (Dw.Mv.refl (· =S) w8) S 9 (.int .u16 ((s.nx+1)%65536)) rfl;have hg1:=og p9 (by simp [SS.aI]) rfl rfl 1 0 0 0 true rfl;rw [Ic] at hg1;have hs9:=jV.size;have tN:=uU.kept (jV.block _ uU.lt nS);clear e11 xH Ud hnew uP hba Ir e15;go_wp2_with (first
          | (go_at_call 105;refine hg1.mono ?_;rintro en wb ⟨rfl,DJ,rz⟩;have kc:=tN.kept (rz.block _ tN.lt nS);have b0:=kc.cell 0 _ rfl;have b1:=kc.cell 1 _ rfl;have b2':=kc.cell 2 _ rfl;have g0:=kc.free 0;have g1:=kc.free 1;have g2:=kc.free 2)
          | go_in)
        have sf:=((kc.set 0 (.int .i64 1) (by simp)).set 1 (.int .i64 0) (by simp)).set 2 (.int .i64 0) (by simp);refine yaI (gI rfl _ _ w.heap.size [.int .i64 1,.int .i64 0,.int .i64 0] _ rfl (fun j y hy=>by rw [yaq];exact sf.cell j y hy) underlying81 rfl (by kernel_rfl)) rfl ?_;have TN:Dw.Mv (fun b=>b=S∨lv.ownBlock=some b) w8 wb:=(jV.trans rz).mono fun b e=> .inl e;have oQ:=gN (gN (gN (aaT.trans TN) w.heap.size 0 (.int .i64 1) (.inr (yab _))) w.heap.size 1 (.int .i64 0) (.inr (yab _))) w.heap.size 2 (.int .i64 0) (.inr (yab _));have aaP:Dw.Mv (fun b=>(b=S∨lv.ownBlock=some b)∨b=w.heap.size) w4 wb:=(aaS.trans TN).mono fun b e=> .inl e;have hmR:=cZ (cZ (cZ aaP w.heap.size 0 (.int .i64 1) (.inr rfl)) w.heap.size 1 (.int .i64 0) (.inr rfl)) w.heap.size 2 (.int .i64 0) (.inr rfl);have DK:=((DJ.kept (yah _ ⟨w.heap.size,0,none⟩ (.int .i64 1) S (fun e=>nS e.symm))).kept (yah _ ⟨w.heap.size,1,none⟩ (.int .i64 0) S (fun e=>nS e.symm))).kept (yah _ ⟨w.heap.size,2,none⟩ (.int .i64 0) S (fun e=>nS e.symm));have aap:=hRR.b2;have hlo:=hRR.lo.1;have hk5:=El.lt;have DY:=aG.kept (w':=((wb.setCell ⟨w.heap.size,0,none⟩ (.int .i64 1)).setCell ⟨w.heap.size,1,none⟩ (.int .i64 0)).setCell ⟨w.heap.size,2,none⟩ (.int .i64 0)) hown2 fun b e=>by
          have q1:=hown2.lt b e;have n1:b≠w.heap.size:=fun e2=>by
            rcases hlv2 b e with q|q
            · have:=(hrow.lt b q).2;omega
            · omega
          exact (yah _ ⟨w.heap.size,2,none⟩ (.int .i64 0) b n1).trans ((yah _ ⟨w.heap.size,1,none⟩ (.int .i64 0) b n1).trans ((yah _ ⟨w.heap.size,0,none⟩ (.int .i64 1) b n1).trans ((jV.trans rz).block b q1.2 fun e2=>by have e2:b=S:=e2;omega)))
        have hold: ∀ {v:Value} {l:List Sg},aL (fun b=>A b∨lv.ownBlock=some b) w v l→aL (fun b=>A b∨rP.ownBlock=some b) _ v l:=fun q=>aL.uY q (fun b hb hh=>hh.elim .inl fun e=>by
          rcases hlv2 b e with q|q
          · exact .inr q
          · omega) fun b hb hn=>oQ.block b hb fun e=>hn (by
            rcases e with e|e
            · exact .inl (by rw [e];exact hRR.aS)
            · exact .inr e)
        have TU:=aL.uY (A':=fun b=>A b∨rP.ownBlock=some b) hsg (fun b hb hh=>by
          rcases hh with e|e
          · exact .inl (by have:=hRR.lt b e;omega)
          · rcases hlv2 b e with q|q
            · exact .inl (by have:=(hrow.lt b q).2;omega)
            · exact .inr (by omega)) fun b hb hn=>hmR.block b hb fun e=>hn (.inl (by
            rcases e with (e|e)|e
            · omega
            · have:=(hrow.lt b e).2;omega
            · omega))
        refine ⟨rfl,rP,hRR.tX oQ DK (GZ▸TU) (vs':=vs++ [.slice kU n0 c0']) ⟨?_,⟨t2,?_⟩,fun i hi hi'=> ?_⟩ hpb (fun q=> ?_) aa0 aaU,fun b e=>(hlv2 b e).imp_right fun q=>by omega,oQ⟩
        · rw [mJ];simp [q5]
        · rw [mJ,Xy _ _ q5,yaQ];exact DY
        · by_cases hil:i<s.tk.length
          · have e1:s'.tk[i]=s.tk[i]:=by simp only [mJ];rw [ybR hil]
            rw [e1,ybR (by omega)];exact hold (q6 i hil (by omega))
          · have hie:i=s.tk.length:=by rw [mJ] at hi;simp at hi;omega
            subst hie;have e1:s'.tk[s.tk.length]=(s.hd,t.1):=by simp only [mJ];rw [ybL (yab _)];simp
            have e2:(vs++ [Value.slice kU n0 c0'])[s.tk.length]= .slice kU n0 c0':=by rw [ybL (by omega)];simp [q5]
            rw [e1,e2];exact TU
        · rcases q with q|q
          · exact absurd GY q
          · rw [GX] at q;cases q
set_option maxRecDepth 100000 in
theorem Tryz.zom {A:Nat→Prop} {w:World} {S P L Bs B N b2:Nat} {r:Rg} {s:SS} {g:Nat→Int} {lv:Value} (h:aV A w S P L Bs B N b2 r s g lv) (hb:s.br=true∨s.ph=0):
  Calls prog 40 #[.pointer (some ⟨S,0,none⟩)] w fun e w'=>e= .returned (.tuple #[.agg #[.int .i64 0,.int .i64 0,.int .i64 0],.int .i64 (if s.br then 4 else 8)])∧aV A w' S P L Bs B N b2 r s g lv∧Dw.Mv (· =S) w w':=by
 obtain ⟨sv,vs,q1,q2,q3⟩:=h.obj;have k2:=Cl.new w #[.int .i64 0,.int .i64 0,.int .i64 0] 81;have hbx:=(yag w.heap.size w).alloc (yab _) (Obj.cells #[.int .i64 0,.int .i64 0,.int .i64 0] 81);have p1:=q1.below hbx q1.lt;have c14:=p1.cell 12 _ rfl;have oJ:=p1.cell 20 _ rfl;have hm2:=eO (K:=(· =S)) hbx;have hR:=(h.uT (A':=A) (fun b _ q=> .inl q) h.aS h.aB (fun b hb=>yad (h.lt b hb) hbx.size) (fun b hb _=>hbx.block b hb) hbx.size);clear hbx;cases hbr:s.br with
 | true=>
  rw [hbr] at oJ;go_enter func40,ntmps40;go_wp2_with fail;refine yaI (gI rfl _ _ w.heap.size [.int .i64 0,.int .i64 0,.int .i64 0] _ rfl (fun j y hy=>by rw [yaq];exact k2.cell j y hy) underlying81 rfl (by kernel_rfl)) rfl ?_;exact ⟨rfl,hR,hm2⟩
 | false=>
  rw [hbr] at oJ;have hp:s.ph=0:=by
   rcases hb with q|q
   ·rw [hbr] at q;cases q
   ·exact q
  rw [hp] at c14;go_enter func40,ntmps40;go_wp2_with fail;refine yaI (gI rfl _ _ w.heap.size [.int .i64 0,.int .i64 0,.int .i64 0] _ rfl (fun j y hy=>by rw [yaq];exact k2.cell j y hy) underlying81 rfl (by kernel_rfl)) rfl ?_;exact ⟨rfl,hR,hm2⟩
set_option maxRecDepth 100000 in
theorem Tryz.YI {A:Nat→Prop} {w:World} {S P L Bs B N b2:Nat} {r:Rg} {s:SS} {g:Nat→Int} {lv:Value} (h:aV A w S P L Bs B N b2 r s g lv) (hl:s.tk.length≤100000) (hpb:eF (bW N r s g).2.2.1):
  Calls prog 40 #[.pointer (some ⟨S,0,none⟩)] w fun e w'=>e= .returned (.tuple #[(bW N r s g).1,.int .i64 (bW N r s g).2.1])∧ ∃dV,aV A w' S P L Bs B N b2 r (bW N r s g).2.2.1 (bW N r s g).2.2.2 dV∧(∀b,dV.ownBlock=some b→lv.ownBlock=some b∨w.heap.size≤b)∧Dw.Mv (fun b=>b=S∨b=B∨lv.ownBlock=some b) w w':=by
 by_cases hid:s.br=true∨s.ph=0
 ·have e:bW N r s g=(.agg #[.int .i64 0,.int .i64 0,.int .i64 0],if s.br then 4 else 8,s,g):=by
   unfold bW;cases hb:s.br with
   | true=>rfl
   | false=>
    have hp:s.ph=0:=by
     rcases hid with q|q
     ·rw [hb] at q;cases q
     ·exact q
    rw [yai (by decide),hp];rfl
  rw [e];refine (zom h hid).mono fun en w' hh=> ?_;exact ⟨hh.1,lv,hh.2.1,fun b e=> .inl e,hh.2.2.mono fun b e=> .inl e⟩
 ·have hb:s.br=false:=by
   cases q:s.br with
   | true=>exact absurd (.inl q) hid
   | false=>rfl
  have hp:s.ph≠0:=fun q=>hid (.inr q);have H8:=h.pb.ph;have e0:bW N r s g=kH N r s g s.ph:=by
   unfold bW;rw [hb,yai (by decide)]
  have hS: ∀ {a c:World} {lv:Value},Dw.Mv (· =S) a c→Dw.Mv (fun b=>b=S∨b=B∨lv.ownBlock=some b) a c:=fun q=>q.mono fun b e=> .inl e;have nk: ∀ {a c:World} {lv:Value},Dw.Mv (fun b=>b=S∨b=B) a c→Dw.Mv (fun b=>b=S∨b=B∨lv.ownBlock=some b) a c:=fun q=>q.mono fun b e=>e.imp_right .inl;rw [e0] at hpb ⊢;have hah:0≤jD r g s:=by unfold jD;omega
  have hcase:s.ph=1∨s.ph=2∨s.ph=3∨s.ph=4∨s.ph=5∨s.ph=6∨s.ph=7∨s.ph=11∨s.ph=12∨s.ph=13∨s.ph=14∨s.ph=15:=by omega
  rcases hcase with q|q|q|q|q|q|q|q|q|q|q|q
  ·rw [q] at hpb ⊢;by_cases h1:r.n<jD r g s
   ·have e:kH N r s g 1=(.agg #[.int .i64 2,.int .i64 3,.int .i64 0],4,s.brk,g):=by simp only [kH,iO,h1,ybU];rfl
    rw [e];exact mr h hb hp (.inr ⟨by omega,rfl⟩) fun A1 w1 h1'=>(Xg h1' hb (.inl q) h1).mono fun en w' hh=>⟨hh.1,lv,hh.2.1,fun b e=> .inl e,nk hh.2.2⟩
   ·by_cases h2:0<jD r g s
    ·have e:kH N r s g 1=(.agg #[.int .i64 2,.int .i64 3,.int .i64 0],0,s.goto 5,g):=by simp only [kH,iO,h1,h2,ybU,ybm];rfl
     rw [e];exact mr h hb hp (.inr ⟨by omega,rfl⟩) fun A1 w1 h1'=>(Xf h1' hb (.inl q) ⟨h2,by omega⟩).mono fun en w' hh=>⟨hh.1,lv,hh.2.1,fun b e=> .inl e,nk hh.2.2⟩
    ·cases hev:s.ev with
     | true=>
      have e:kH N r s g 1=(.agg #[.int .i64 2,.int .i64 3,.int .i64 0],0,s.goto 2,g):=by simp only [kH,iO,h1,h2,hev,ybU,ybm];rfl
      rw [e];exact mr h hb hp (.inr ⟨by omega,rfl⟩) fun A1 w1 h1'=>(zov h1' hb q hev (by omega)).mono fun en w' hh=>⟨hh.1,lv,hh.2.1,fun b e=> .inl e,nk hh.2.2⟩
     | false=>
      have e:kH N r s g 1=(.agg #[.int .i64 2,.int .i64 3,.int .i64 0],0,({ s with nn:=true }:SS).stop,g):=by simp [kH,iO,h1,h2,hev,dM]
      rw [e];exact mr h hb hp (.inr ⟨by omega,rfl⟩) fun A1 w1 h1'=>(Xe h1' hb (.inl ⟨q,hev⟩) (by omega)).mono fun en w' hh=>⟨hh.1,lv,hh.2.1,fun b e=> .inl e,nk hh.2.2⟩
  ·rw [q] at hpb ⊢;exact mr h hb hp (.inr ⟨by omega,rfl⟩) fun A1 w1 h1'=>(zq5 h1' hb q).mono fun en w' hh=>⟨hh.1,lv,hh.2.1,fun b e=> .inl e,nk hh.2.2⟩
  ·rw [q] at hpb ⊢;exact mr h hb hp (.inr ⟨by omega,rfl⟩) fun A1 w1 h1'=>(zou h1' hb q).mono fun en w' hh=>⟨hh.1,lv,hh.2.1,fun b e=> .inl e,nk hh.2.2⟩
  ·rw [q] at hpb ⊢;by_cases h1:r.n<jD r g s
   ·have e:kH N r s g 4=(.agg #[.int .i64 2,.int .i64 3,.int .i64 0],4,s.brk,g):=by simp only [kH,jZ,h1,ybU];rfl
    rw [e];exact mr h hb hp (.inr ⟨by omega,rfl⟩) fun A1 w1 h1'=>(Xg h1' hb (.inr q) h1).mono fun en w' hh=>⟨hh.1,lv,hh.2.1,fun b e=> .inl e,nk hh.2.2⟩
   ·by_cases h2:0<jD r g s
    ·have e:kH N r s g 4=(.agg #[.int .i64 2,.int .i64 3,.int .i64 0],0,s.goto 5,g):=by simp only [kH,jZ,h1,h2,ybU,ybm];rfl
     rw [e];exact mr h hb hp (.inr ⟨by omega,rfl⟩) fun A1 w1 h1'=>(Xf h1' hb (.inr q) ⟨h2,by omega⟩).mono fun en w' hh=>⟨hh.1,lv,hh.2.1,fun b e=> .inl e,nk hh.2.2⟩
    ·have e:kH N r s g 4=(.agg #[.int .i64 2,.int .i64 3,.int .i64 0],0,({ s with nn:=true }:SS).stop,g):=by simp only [kH,jZ,h1,h2,ybm];rfl
     rw [e];exact mr h hb hp (.inr ⟨by omega,rfl⟩) fun A1 w1 h1'=>(Xe h1' hb (.inr q) (by omega)).mono fun en w' hh=>⟨hh.1,lv,hh.2.1,fun b e=> .inl e,nk hh.2.2⟩
  ·rw [q] at hpb ⊢;exact mr h hb hp (.inr ⟨by omega,rfl⟩) fun A1 w1 h1'=>(zot h1' hb q).mono fun en w' hh=>⟨hh.1,lv,hh.2.1,fun b e=> .inl e,nk hh.2.2⟩
  ·rw [q] at hpb ⊢;exact mr h hb hp (.inr ⟨by omega,rfl⟩) fun A1 w1 h1'=>(zq4 h1' hb q).mono fun en w' hh=>⟨hh.1,lv,hh.2.1,fun b e=> .inl e,nk hh.2.2⟩
  ·rw [q] at hpb ⊢;obtain ⟨t,ht⟩: ∃t,eX N g r s.hd s.tb=t:=⟨_,rfl⟩;have e7:kH N r s g 7=(.agg #[.int .i64 1,.int .i64 0,.int .i64 0],(iK N r g s).1,(iK N r g s).2,g):=rfl;rw [e7] at hpb ⊢;have hE:((t.2≠0∨dP s.hd s.tk≠none)∧(iK N r g s).1=4∧(iK N r g s).2=s.brk)∨((t.2=0∧dP s.hd s.tk=none)∧(iK N r g s).1=0∧(iK N r g s).2=({ s with tk:=s.tk++ [(s.hd,t.1)],sg:=t.1,nx:=(s.nx+1)%65536 }:SS).stop):=by
    unfold iK;rw [ht];split
    ·rename_i hh;exact .inr ⟨⟨hh.2,hh.1⟩,rfl,rfl⟩
    ·rename_i hh;refine .inl ⟨?_,rfl,rfl⟩;by_cases q1:t.2=0
     ·exact .inr fun q2=>hh ⟨q2,q1⟩
     ·exact .inl q1
   exact mr h hb hp (.inr ⟨by omega,rfl⟩) fun A1 w1 h1=>(zq3 h1 hb q hl ht hE hpb).mono fun en w' hh=>by
    obtain ⟨e1,dV,h2,h3,h4⟩:=hh;exact ⟨e1,dV,h2,h3,h4.mono fun b e=>e.imp_right .inr⟩
  ·rw [q] at hpb ⊢;exact mr h hb hp (.inl ⟨by omega,rfl⟩) fun A1 w1 h1'=>(zoN h1' hb q).mono fun en w' hh=>⟨hh.1,lv,hh.2.1,fun b e=> .inl e,nk hh.2.2⟩
  ·rw [q] at hpb ⊢;exact mr h hb hp (.inl ⟨by omega,rfl⟩) fun A1 w1 h1'=>(zrf h1' hb q).mono fun en w' hh=>⟨hh.1,lv,hh.2.1,fun b e=> .inl e,nk hh.2.2⟩
  ·rw [q] at hpb ⊢;exact mr h hb hp (.inl ⟨by omega,rfl⟩) fun A1 w1 h1'=>(zre h1' hb q).mono fun en w' hh=>⟨hh.1,lv,hh.2.1,fun b e=> .inl e,nk hh.2.2⟩
  ·rw [q] at hpb ⊢;exact mr h hb hp (.inl ⟨by omega,rfl⟩) fun A1 w1 h1'=>(zrd h1' hb q).mono fun en w' hh=>⟨hh.1,lv,hh.2.1,fun b e=> .inl e,nk hh.2.2⟩
  ·rw [q] at hpb ⊢;exact mr h hb hp (.inl ⟨by omega,rfl⟩) fun A1 w1 h1=>(zoM h1 hb q hl rfl).mono fun en w' hh=>by
    obtain ⟨e1,dV,h2,h3,h4⟩:=hh;exact ⟨e1,dV,h2,fun b e=> .inr (h3 b e),hS h4⟩
def Tryz.SS.out (s:SS):SS:=if s.ph=0∧s.dn=true then s else { s with op:=0,nn:=false,hd:=0,sg:= [],wr:=0,it:=false }
def Tryz.SS.has (s:SS):Bool:=decide (s.ph=0)&&s.dn
theorem Tryz.EN (w:World) (t:TypeId) (sz:Nat):(w.alloc (Obj.cells #[] t)).ownsRow w.heap.size t sz (.slice (some ⟨w.heap.size,0,none⟩) 0 0) 0 []:=
 ⟨by simp,.inr ⟨_,0,_,rfl,yab _,ybq w _,yab _,yax _,by simp,by simp⟩⟩
set_option maxRecDepth 100000 in
theorem Tryz.zrc {A:Nat→Prop} {w:World} {S P L Bs B N b2:Nat} {r:Rg} {s:SS} {g:Nat→Int} {lv:Value} (h:aV A w S P L Bs B N b2 r s g lv) (hln:s.sg.length≤1000000):
    Calls prog 41 #[.pointer (some ⟨S,0,none⟩)] w fun e w'=> ∃u,e= .returned (.tuple #[.agg #[.int .i64 s.out.op,.bool s.out.nn,.int .i64 s.out.hd,u,.int .u32 s.out.wr,.bool s.out.it],.bool s.has])∧cO w' w.heap.size u s.out.sg∧Below w.heap.size w w':=by
  obtain ⟨sv,vs,q1,q2,q3⟩:=h.obj;have k2:=Cl.new w #[.int .i64 0,.bool false,.int .i64 0,.slice none 0 0,.int .u32 0,.bool false] 53;have hbx:=(yag w.heap.size w).alloc (yab _) (Obj.cells #[.int .i64 0,.bool false,.int .i64 0,.slice none 0 0,.int .u32 0,.bool false] 53);have p1:=q1.below hbx q1.lt;have c14:=p1.cell 12 _ rfl;have c21:=p1.cell 19 _ rfl;by_cases hd:s.ph=0∧s.dn=true
  · have e1:s.out=s:=by unfold SS.out;rw [yak hd]
    have e2:s.has=true:=by unfold SS.has;rw [hd.1,hd.2];rfl
    rw [e1,e2];rw [hd.1] at c14;rw [hd.2] at c21;obtain ⟨sa,c,rfl,hok,hr⟩:=q2;have c15:=p1.cell 13 _ rfl;have c16:=p1.cell 14 _ rfl;have c17:=p1.cell 15 _ rfl;have c18:=p1.cell 16 _ rfl;have c19:=p1.cell 17 _ rfl;have c20:=p1.cell 18 _ rfl;obtain ⟨i,hi,i1,i2,i3⟩:=ybl FR;have zm:=PI s.sg;have hlen:=EA s.sg;have nS:w.heap.size≠S:=by have:=q1.lt;omega
    have hA:=(yag w.heap.size w).alloc (yab _);clear q1 q3 hd p1 e1 e2;have hw2:Below w.heap.size w ((w.alloc (Obj.cells #[.int .i64 0,.bool false,.int .i64 0,.slice none 0 0,.int .u32 0,.bool false] 53)).alloc (Obj.cells #[.int .i64 s.op,.bool s.nn,.int .i64 s.hd,.slice sa s.sg.length c,.int .u32 s.wr,.bool s.it] 53)):=hbx.alloc (by simp) _;have ka:=(Cl.new w #[.int .i64 0,.bool false,.int .i64 0,.slice none 0 0,.int .u32 0,.bool false] 53).alloc (Obj.cells #[.int .i64 s.op,.bool s.nn,.int .i64 s.hd,.slice sa s.sg.length c,.int .u32 s.wr,.bool s.it] 53);have kb:=Cl.new2 (w:=w.alloc (Obj.cells #[.int .i64 0,.bool false,.int .i64 0,.slice none 0 0,.int .u32 0,.bool false] 53)) (b:=w.heap.size+1) (arr:= #[.int .i64 s.op,.bool s.nn,.int .i64 s.hd,.slice sa s.sg.length c,.int .u32 s.wr,.bool s.it]) (t:=53) (by simp);obtain ⟨W2,hW2⟩: ∃W2,W2=(w.alloc (Obj.cells #[.int .i64 0,.bool false,.int .i64 0,.slice none 0 0,.int .u32 0,.bool false] 53)).alloc (Obj.cells #[.int .i64 s.op,.bool s.nn,.int .i64 s.hd,.slice sa s.sg.length c,.int .u32 s.wr,.bool s.it] 53):=⟨_,rfl⟩;rw [←hW2] at hw2 ka kb;have hs2:W2.heap.size=w.heap.size+2:=by rw [hW2];simp
    have hba:=(yag W2.heap.size W2).alloc (yab _) (Obj.cells #[] 48);have Eg:=kb.below hba kb.lt;have z3:=Eg.cell 3 _ rfl;have hoe:=EN W2 48 3;have close: ∀ {wa:World} {fU:Option Addr} {c2:Nat},cO wa (w.heap.size+1+1) (.slice fU s.sg.length c2) s.sg→Below (w.heap.size+1+1) W2 wa→
        (Cl wa (w.heap.size+1) [.int .i64 s.op,.bool s.nn,.int .i64 s.hd,.slice sa s.sg.length c,.int .u32 s.wr,.bool s.it]∧Cl wa w.heap.size [.int .i64 0,.bool false,.int .i64 0,.slice none 0 0,.int .u32 0,.bool false])∧
        (Cl (((((((wa.setCell ⟨w.heap.size+1,3,none⟩ (.slice fU s.sg.length c2)).setCell ⟨w.heap.size,0,none⟩ (.int .i64 s.op)).setCell ⟨w.heap.size,1,none⟩ (.bool s.nn)).setCell ⟨w.heap.size,2,none⟩ (.int .i64 s.hd)).setCell ⟨w.heap.size,3,none⟩ (.slice fU s.sg.length c2)).setCell ⟨w.heap.size,4,none⟩ (.int .u32 s.wr)).setCell ⟨w.heap.size,5,none⟩ (.bool s.it)) w.heap.size [.int .i64 s.op,.bool s.nn,.int .i64 s.hd,.slice fU s.sg.length c2,.int .u32 s.wr,.bool s.it]∧
        cO (((((((wa.setCell ⟨w.heap.size+1,3,none⟩ (.slice fU s.sg.length c2)).setCell ⟨w.heap.size,0,none⟩ (.int .i64 s.op)).setCell ⟨w.heap.size,1,none⟩ (.bool s.nn)).setCell ⟨w.heap.size,2,none⟩ (.int .i64 s.hd)).setCell ⟨w.heap.size,3,none⟩ (.slice fU s.sg.length c2)).setCell ⟨w.heap.size,4,none⟩ (.int .u32 s.wr)).setCell ⟨w.heap.size,5,none⟩ (.bool s.it)) w.heap.size (.slice fU s.sg.length c2) s.sg∧
        Below w.heap.size w (((((((wa.setCell ⟨w.heap.size+1,3,none⟩ (.slice fU s.sg.length c2)).setCell ⟨w.heap.size,0,none⟩ (.int .i64 s.op)).setCell ⟨w.heap.size,1,none⟩ (.bool s.nn)).setCell ⟨w.heap.size,2,none⟩ (.int .i64 s.hd)).setCell ⟨w.heap.size,3,none⟩ (.slice fU s.sg.length c2)).setCell ⟨w.heap.size,4,none⟩ (.int .u32 s.wr)).setCell ⟨w.heap.size,5,none⟩ (.bool s.it))):=fun {wa fU c2} hu hb2=>by
      rw [show w.heap.size+1+1=W2.heap.size by omega] at hu hb2;have hs3:=hb2.size;have Uq:=ka.below hb2 ka.lt;have Eg:=kb.below hb2 kb.lt;have hlt:=hu.lt;have NZ:=Uq.kept (yah wa ⟨w.heap.size+1,3,none⟩ (.slice fU s.sg.length c2) w.heap.size (by show w.heap.size≠w.heap.size+1;omega));have k0:=(((((NZ.set 0 (.int .i64 s.op) (show 0<6 by decide)).set 1 (.bool s.nn) (show 1<6 by decide)).set 2 (.int .i64 s.hd) (show 2<6 by decide)).set 3 (.slice fU s.sg.length c2) (show 3<6 by decide)).set 4 (.int .u32 s.wr) (show 4<6 by decide)).set 5 (.bool s.it) (show 5<6 by decide);have hmv:=(((((((Mv.refl (fun b=>b=w.heap.size∨b=w.heap.size+1) wa).setCell (w.heap.size+1) 3 (.slice fU s.sg.length c2) (.inl (.inr rfl))).setCell (w.heap.size) 0 (.int .i64 s.op) (.inl (.inl rfl))).setCell (w.heap.size) 1 (.bool s.nn) (.inl (.inl rfl))).setCell (w.heap.size) 2 (.int .i64 s.hd) (.inl (.inl rfl))).setCell (w.heap.size) 3 (.slice fU s.sg.length c2) (.inl (.inl rfl))).setCell (w.heap.size) 4 (.int .u32 s.wr) (.inl (.inl rfl))).setCell (w.heap.size) 5 (.bool s.it) (.inl (.inl rfl));exact ⟨⟨Eg,Uq⟩,k0,(hu.kept fun b hb=>hmv.block b (hlt b hb).2.1 fun e=>by have:=(hlt b hb).1;omega).mono (by omega),(hw2.trans (hb2.mono (by omega))).trans (hmv.below (base:=w.heap.size) (fun k hk=>by omega) (by have:=hw2.size;omega))⟩
    have iC:Below (w.heap.size+1+1) W2 (W2.alloc (Obj.cells #[] 48)):=hba.mono (by omega);rw [hW2] at hoe z3 close iC;cases sa with
    | none=>
      have h0:s.sg= []:=by
        rcases hr with q|⟨R,o,q,_⟩
        · exact q
        · cases q
      have hk3:Below (w.heap.size+1+1) ((w.alloc (Obj.cells #[.int .i64 0,.bool false,.int .i64 0,.slice none 0 0,.int .u32 0,.bool false] 53)).alloc (Obj.cells #[.int .i64 s.op,.bool s.nn,.int .i64 s.hd,.slice none s.sg.length c,.int .u32 s.wr,.bool s.it] 53)) _:=iC;have hl0:s.sg.length=0:=by rw [h0];rfl
      have kf:=((Cl.new w #[.int .i64 s.op,.bool s.nn,.int .i64 s.hd,.slice (some ⟨w.heap.size+1+1,0,none⟩) 0 0,.int .u32 s.wr,.bool s.it] 53).alloc (Obj.cells #[.int .i64 s.op,.bool s.nn,.int .i64 s.hd,.slice (some ⟨w.heap.size+1+1,0,none⟩) 0 0,.int .u32 s.wr,.bool s.it] 53)).alloc (Obj.cells #[] 48);have hbf:=((yag w.heap.size w).alloc (yab _) (Obj.cells #[.int .i64 s.op,.bool s.nn,.int .i64 s.hd,.slice (some ⟨w.heap.size+1+1,0,none⟩) 0 0,.int .u32 s.wr,.bool s.it] 53)).alloc (by simp) (Obj.cells #[.int .i64 s.op,.bool s.nn,.int .i64 s.hd,.slice (some ⟨w.heap.size+1+1,0,none⟩) 0 0,.int .u32 s.wr,.bool s.it] 53);have hof:=EN ((w.alloc (Obj.cells #[.int .i64 s.op,.bool s.nn,.int .i64 s.hd,.slice (some ⟨w.heap.size+1+1,0,none⟩) 0 0,.int .u32 s.wr,.bool s.it] 53)).alloc (Obj.cells #[.int .i64 s.op,.bool s.nn,.int .i64 s.hd,.slice (some ⟨w.heap.size+1+1,0,none⟩) 0 0,.int .u32 s.wr,.bool s.it] 53)) 48 3;rw [hl0] at z3 c18;rw [h0];clear hk3 close h0 hl0 hr hba Eg ka kb hw2 hoe iC hlen zm hok;go_enter func41,ntmps41;go_wp2_with fail;refine yaI (gI rfl _ _ w.heap.size [.int .i64 s.op,.bool s.nn,.int .i64 s.hd,.slice (some ⟨w.heap.size+1+1,0,none⟩) 0 0,.int .u32 s.wr,.bool s.it] _ rfl (fun j v hv=>by rw [yaq];exact kf.cell j v hv) underlying53 rfl (by kernel_rfl)) rfl ?_;refine ⟨_,rfl,?_,hbf.alloc (by simp;omega) _⟩;have q:cO (((w.alloc (Obj.cells #[.int .i64 s.op,.bool s.nn,.int .i64 s.hd,.slice (some ⟨w.heap.size+1+1,0,none⟩) 0 0,.int .u32 s.wr,.bool s.it] 53)).alloc (Obj.cells #[.int .i64 s.op,.bool s.nn,.int .i64 s.hd,.slice (some ⟨w.heap.size+1+1,0,none⟩) 0 0,.int .u32 s.wr,.bool s.it] 53)).alloc (Obj.cells #[] 48)) ((w.alloc (Obj.cells #[.int .i64 s.op,.bool s.nn,.int .i64 s.hd,.slice (some ⟨w.heap.size+1+1,0,none⟩) 0 0,.int .u32 s.wr,.bool s.it] 53)).alloc (Obj.cells #[.int .i64 s.op,.bool s.nn,.int .i64 s.hd,.slice (some ⟨w.heap.size+1+1,0,none⟩) 0 0,.int .u32 s.wr,.bool s.it] 53)).heap.size (.slice (some ⟨w.heap.size+1+1,0,none⟩) 0 0) []:=by
        unfold cO;simpa [dX] using hof
      exact q.mono (by simp;omega)
    | some ad=>
      have hnews: ∀j u,(dX s.sg)[j]? =some u→(((w.alloc (Obj.cells #[.int .i64 0,.bool false,.int .i64 0,.slice none 0 0,.int .u32 0,.bool false] 53)).alloc (Obj.cells #[.int .i64 s.op,.bool s.nn,.int .i64 s.hd,.slice (some ad) s.sg.length c,.int .u32 s.wr,.bool s.it] 53)).alloc (Obj.cells #[] 48)).cell? (ad.add j)=some u:=fun j u hj=>by
        rcases hr with q|⟨R,o,q,_,hr⟩
        · rw [q] at hj;cases hj
        · cases q;rw [Dw.addr_add];have hR:=yan w _ (hr j u hj);have hw3:=hw2.trans (hba.mono (by omega));rw [hW2] at hw3;exact (hw3.cell (p:=⟨R,o+j,none⟩) hR).trans (hr j u hj)
      clear hr hba Eg ka kb hw2;go_enter func41,ntmps41;go_wp2_with (first
        | (at_builtin;go_loud (refine ya4 _ rfl _ _ 36 rfl (w.heap.size+1+1) 48 i _ 3 16 (by kernel_rfl) hi i1 i2 i3 rfl (by decide) (.slice (some ⟨w.heap.size+1+1,0,none⟩) 0 0) 0 [] rfl (by simpa using hoe) ad s.sg.length c (dX s.sg) rfl (by omega) hnews zm (by unfold maxLen;omega) (by omega) (by simp) ?_);intro u wa h2 h3 h4 h5;have hu:cO wa (w.heap.size+1+1) u s.sg:=(by unfold cO;simpa using h2);obtain ⟨fU,c2,hue,hj⟩:=hu.slice;clear hj h2 h4 h5;subst hue;obtain ⟨⟨oU,ql⟩,kc4,xg,hb4⟩:=close hu ⟨h3.os,h3.tape,h3.output,yau iC.size h3.size,fun b hb=>(h3.block b (by simp;omega) (fun e=>by simp [Value.ownBlock] at e;omega)).trans (iC.block b hb)⟩;have y0:=oU.cell 0 _ rfl;have y1:=oU.cell 1 _ rfl;have y2:=oU.cell 2 _ rfl;have y3:=oU.cell 3 _ rfl;have y4:=oU.cell 4 _ rfl;have y5:=oU.cell 5 _ rfl;have x0:=ql.cell 0 _ rfl;have x1:=ql.cell 1 _ rfl;have x2:=ql.cell 2 _ rfl;have x3:=ql.cell 3 _ rfl;have x4:=ql.cell 4 _ rfl;have x5:=ql.cell 5 _ rfl;have f0:=ql.free 0;have f1:=ql.free 1;have f2:=ql.free 2;have f3:=ql.free 3;have f4:=ql.free 4;have f5:=ql.free 5;have g3:=oU.free 3;go_frame)
        | go_in)
      refine yaI (gI rfl _ _ w.heap.size [.int .i64 s.op,.bool s.nn,.int .i64 s.hd,.slice fU s.sg.length c2,.int .u32 s.wr,.bool s.it] _ rfl (fun j v hv=>by rw [yaq];exact kc4.cell j v hv) underlying53 rfl (by kernel_rfl)) rfl ?_;exact ⟨_,rfl,xg,hb4⟩
  · have e1:s.out= { s with op:=0,nn:=false,hd:=0,sg:= [],wr:=0,it:=false }:=by unfold SS.out;rw [yai hd]
    have e2:s.has=false:=by
      unfold SS.has;cases q:s.dn with
      | false=>simp
      | true=>simp only [Bool.and_true,yat];exact fun e=>hd ⟨e,q⟩
    rw [e1,e2];refine yas (show Calls _ _ _ _ fun e w'=>e= .returned (.tuple #[.agg #[.int .i64 0,.bool false,.int .i64 0,.slice none 0 0,.int .u32 0,.bool false],.bool false])∧Below w.heap.size w w' from ?_) fun e w' hh=>⟨_,hh.1,cO.nil _ _,hh.2⟩;by_cases hp:s.ph=0
    · have hdn:s.dn=false:=by
        cases q:s.dn with
        | false=>rfl
        | true=>exact absurd ⟨hp,q⟩ hd
      rw [hp] at c14;rw [hdn] at c21;clear hdn hd;go_enter func41,ntmps41;go_wp2_with fail;refine yaI (gI rfl _ _ w.heap.size [.int .i64 0,.bool false,.int .i64 0,.slice none 0 0,.int .u32 0,.bool false] _ rfl (fun j y hy=>by rw [yaq];exact k2.cell j y hy) underlying53 rfl (by kernel_rfl)) rfl ?_;exact ⟨rfl,hbx⟩
    · have ha: ¬(s.ph:Int)=0:=by omega
      have hab:((s.ph:Int) !=0)=true:=by simpa using ha
      generalize (s.ph:Int)=di at c14 ha hab;clear hd;go_enter func41,ntmps41;go_wp2_with fail;refine yaI (gI rfl _ _ w.heap.size [.int .i64 0,.bool false,.int .i64 0,.slice none 0 0,.int .u32 0,.bool false] _ rfl (fun j y hy=>by rw [yaq];exact k2.cell j y hy) underlying53 rfl (by kernel_rfl)) rfl ?_;exact ⟨rfl,hbx⟩
def Tryz.zW (s:SS) (id:Int):List Sg:=match dP id s.tk with|some t=>t|none=> []
set_option maxRecDepth 100000 in
theorem Tryz.zoL {A:Nat→Prop} {w:World} {S P L Bs B N b2:Nat} {r:Rg} {s:SS} {g:Nat→Int} {lv:Value} (h:aV A w S P L Bs B N b2 r s g lv) (hl:s.tk.length≤100000) (hlen: ∀e∈s.tk,e.2.length≤1000000) (id:Int):
    Calls prog 43 #[.pointer (some ⟨S,0,none⟩),.int .i64 id] w fun e w'=> ∃u,e= .returned (.tuple #[u,.bool (dP id s.tk).isSome])∧cO w' w.heap.size u (zW s id)∧Below w.heap.size w w':=by
  obtain ⟨sv,vs,q1,q2,q3⟩:=h.obj;have c11:=q1.cell 11 _ rfl;have hfind:=fun i hi=>Jm (S:=S) c11 q3 hl id i hi;unfold zW;cases hg:dP id s.tk with
  | none=>
    have hf:=hfind (-1) (.inl ⟨rfl,Ez hg⟩);clear hfind;go_enter func43,ntmps43;go_wp2_with (first
      | (go_at_call 73;refine hf.mono ?_;rintro en w1 ⟨rfl,hb1⟩)
      | go_in)
    go_ret2;exact ⟨_,rfl,cO.nil _ _,hb1⟩
  | some t=>
    obtain ⟨k,hk,k1,kt,k3⟩:=Ey hg;have hf:=hfind k (.inr ⟨k,hk,rfl,k1,k3⟩);clear hfind;obtain ⟨q5,⟨ty,hrow⟩,q6⟩:=q3;have hvk:k<vs.length:=by rw [q5];exact hk
    have hsv:=q6 k hk hvk;rw [kt] at hsv;have hln:=hlen _ (yaL hk);rw [kt] at hln;obtain ⟨sa,c,hlv,hr⟩:=aG.row hrow;rcases hr with hr|⟨G,hsa,qY,hr⟩
    · have:=yaH List.length hr;rw [vF s.tk vs q5] at this;simp only [ybv] at this;omega
    have uL:=(hrow.lt G qY).2;have hcap:s.tk.length≤c:=by rw [hlv] at hrow;exact aG.cap hrow (by omega)
    have e2:=hr _ _ (ET s.tk vs q5 k hk).2;rw [yaq] at e2;obtain ⟨sk,ck,hvv,hok,fQ⟩:=hsv;rw [hvv] at e2;rw [hlv,hsa] at c11;have hkl:(k:Int)<s.tk.length:=by omega
    have hk0: ¬(k:Int)<0:=by omega
    obtain ⟨i,hi,i1,i2,i3⟩:=ybl FR;have zm:=PI t;have hlen3:=EA t;have hS:=q1.lt;clear hlen q2 q6 hr hvv hS;cases sk with
    | none=>
      have h0:t= []:=by
        rcases fQ with q|⟨R,o,q,_⟩
        · exact q
        · cases q
      have hl0:t.length=0:=by rw [h0];rfl
      rw [hl0] at e2;clear fQ hok zm hlen3 hln;show Calls _ _ _ _ fun e w'=> ∃u,e= .returned (.tuple #[u,.bool true])∧cO w' w.heap.size u t∧Below w.heap.size w w';rw [h0];clear h0 hl0;go_enter func43,ntmps43;go_wp2_with (first
        | (go_at_call 73;refine hf.mono ?_;rintro en w1 ⟨rfl,hb1⟩;have vz:=(hb1.cell (p:=⟨S,11,none⟩) q1.lt).trans c11;have y2:=(hb1.cell (p:=⟨G,k*2+1,none⟩) uL).trans e2;have hba:=(yag w1.heap.size w1).alloc (yab _) (Obj.cells #[] 48);have x11:=(hba.cell (p:=⟨S,11,none⟩) (yad q1.lt hb1.size)).trans vz;have x2:=(hba.cell (p:=⟨G,k*2+1,none⟩) (yad uL hb1.size)).trans y2)
        | go_in)
      go_ret2;have q:cO (w1.alloc (Obj.cells #[] 48)) w1.heap.size (.slice (some ⟨w1.heap.size,0,none⟩) 0 0) []:=by
        unfold cO;simpa [dX] using EN w1 48 3
      exact ⟨_,rfl,q.mono hb1.size,hb1.alloc hb1.size _⟩
    | some ad=>
      have hnews: ∀(w1:World),Below w.heap.size w w1→ ∀j u,(dX t)[j]? =some u→(w1.alloc (Obj.cells #[] 48)).cell? (ad.add j)=some u:=fun w1 hb1 j u hj=>by
        rcases fQ with q|⟨R,o,q,_,hr⟩
        · rw [q] at hj;cases hj
        · cases q;rw [Dw.addr_add];have hR:=yan w _ (hr j u hj);have hw3:=hb1.alloc hb1.size (Obj.cells #[] 48);exact (hw3.cell (p:=⟨R,o+j,none⟩) hR).trans (hr j u hj)
      clear fQ hok;go_enter func43,ntmps43;go_wp2_with (first
        | (go_at_call 73;refine hf.mono ?_;rintro en w1 ⟨rfl,hb1⟩;have vz:=(hb1.cell (p:=⟨S,11,none⟩) q1.lt).trans c11;have y2:=(hb1.cell (p:=⟨G,k*2+1,none⟩) uL).trans e2;have hba:=(yag w1.heap.size w1).alloc (yab _) (Obj.cells #[] 48);have x11:=(hba.cell (p:=⟨S,11,none⟩) (yad q1.lt hb1.size)).trans vz;have x2:=(hba.cell (p:=⟨G,k*2+1,none⟩) (yad uL hb1.size)).trans y2;have hoe:=EN w1 48 3;have hnw:=hnews w1 hb1)
        | (at_builtin;go_loud (refine ya4 _ rfl _ _ 36 rfl w1.heap.size 48 i _ 3 16 (by kernel_rfl) hi i1 i2 i3 rfl (by decide) (.slice (some ⟨w1.heap.size,0,none⟩) 0 0) 0 [] rfl hoe ad t.length ck (dX t) rfl (by omega) hnw zm (by unfold maxLen;omega) (by omega) (by simp) ?_);intro u wa h2 h3 h4 h5;go_frame)
        | go_in)
      go_ret2;have hu:cO wa w1.heap.size u t:=by unfold cO;simpa using h2
      have iC:Below w1.heap.size w1 wa:=⟨h3.os,h3.tape,h3.output,yau hba.size h3.size,fun b hb=>(h3.block b (by simp;omega) (fun e=>by simp [Value.ownBlock] at e;omega)).trans (hba.block b hb)⟩;exact ⟨u,rfl,hu.mono hb1.size,hb1.trans (iC.mono hb1.size)⟩
def Tryz.jF (x:Int):List Int→Nat
 | [] => 0
 | y::r=>if y<x then jF x r+1 else 0
theorem Tryz.zto (x:Int): ∀l:List Int,jF x l≤l.length
 | [] => yab _
 | y::r=>by
  unfold jF;split
  ·have:=zto x r;simp only [yaW];omega
  ·exact yax _
theorem Tryz.ztn {x:Int}: ∀ {l:List Int} {k:Nat} (h:k<jF x l) (hl:k<l.length),l[k]<x
 | [], _,_,hl=>by simp at hl
 | y::r,0,h,_=>by
  unfold jF at h;split at h
  ·assumption
  ·omega
 | y::r,k+1,h,hl=>by
  unfold jF at h;split at h
  ·simpa using ztn (l:=r) (k:=k) (by omega) (by simpa using hl)
  ·omega
theorem Tryz.ztp {x:Int}: ∀ {l:List Int} (hl:jF x l<l.length),¬l[jF x l]<x
 | [], hl=>by simp at hl
 | y::r,hl=>by
  by_cases h:y<x
  ·have e:jF x (y::r)=jF x r+1:=by
    show (if y<x then jF x r+1 else 0)=_;rw [yak h]
   simp only [e,yb6];exact ztp (l:=r) (by rw [e] at hl;simpa using hl)
  ·have e:jF x (y::r)=0:=by
    show (if y<x then jF x r+1 else 0)=_;rw [yai h]
   simp only [e,yc7];exact h
def Tryz.nC (x:Int) (l:List Int):List Int:=l.take (jF x l)++(x::l.drop (jF x l))
theorem Tryz.zpy (x:Int) (l:List Int):(nC x l).Perm (x::l):=by
 unfold nC;refine List.perm_middle.trans ?_;rw [ybI]
theorem Tryz.YA {x:Int}: ∀ {l:List Int},l.Pairwise (fun a b=>a≤b)→(nC x l).Pairwise fun a b=>a≤b
 | [], _=>by simp [nC,jF]
 | y::r,h=>by
  by_cases hy:y<x
  ·have e:nC x (y::r)=y::nC x r:=by
    unfold nC;show (y::r).take (if y<x then jF x r+1 else 0)++(x::(y::r).drop (if y<x then jF x r+1 else 0))=_;rw [yak hy];rfl
   rw [e,ybb];rw [ybb] at h;refine ⟨fun b hb=> ?_,YA h.2⟩;rcases yac.1 ((zpy x r).subset hb) with q|q
   ·rw [q];exact Int.le_of_lt hy
   ·exact h.1 b q
  ·have e:nC x (y::r)=x::y::r:=by
    unfold nC;show (y::r).take (if y<x then jF x r+1 else 0)++(x::(y::r).drop (if y<x then jF x r+1 else 0))=_;rw [yai hy];rfl
   rw [e,ybb];refine ⟨fun b hb=> ?_,h⟩;rw [ybb] at h;rcases yac.1 hb with q|q
   ·rw [q];omega
   ·have:=h.1 b q;omega
def Tryz.oo (tk:List (Int×List Sg)):List Int:=tk.foldl (fun l e=>nC e.1 l) []
theorem Tryz.zra (tk:List (Int×List Sg)) (e:Int×List Sg):oo (tk++ [e])=nC e.1 (oo tk):=by simp [oo]
theorem Tryz.zq9 {tk:List (Int×List Sg)} {k:Nat} (hk:k<tk.length):oo (tk.take (k+1))=nC tk[k].1 (oo (tk.take k)):=by
 rw [ybr hk,zra]
theorem Tryz.Pw: ∀(tk:List (Int×List Sg)) (l:List Int),(tk.foldl (fun l e=>nC e.1 l) l).Perm (tk.map (·.1)++l)
 | [], l=>ycq _
 | e::r,l=>by
  refine (Pw r (nC e.1 l)).trans ?_;refine (List.Perm.append_left _ (zpy e.1 l)).trans ?_;simp
theorem Tryz.WL: ∀(tk:List (Int×List Sg)) {l:List Int},l.Pairwise (fun a b=>a≤b)→(tk.foldl (fun l e=>nC e.1 l) l).Pairwise fun a b=>a≤b
 | [], _,h=>h
 | _::r,_,h=>WL r (YA h)
theorem Tryz.zlp (tk:List (Int×List Sg)):(oo tk).length=tk.length:=by
 have:=(Pw tk []).length_eq;simpa [oo] using this
theorem Tryz.zuB {P0:Program} {w:World} {ops:Array Oper} {o:Oper} {a:Act} {K:Act→World→Prop} {Q:Exit→Act→World→Prop} {E:Prop} (hgd:o.guard=none) (s x:Operand) (t:TypeId)
  (ho:o.op= .call { callee:= .builtin .append,args:= #[s,x],argTypes:= #[t,t] }) (v vx:Value) (hs:a.eval s=v) (hx:a.eval x=vx) {v':Value} {w':World}
  (hr:(Builtin.append_ #[t,t] o.type #[v,vx]).run P0 w= .ok v' w') (h:K (a.put o.dst v') w'):
  if Region.wanted o (yielded ops a.tmps)=true then Oper.wp P0 o a w K Q else E:=by
 have hw:Region.wanted o (yielded ops a.tmps)=true:=by simp [Region.wanted,hgd]
 rw [yak hw];unfold Oper.wp execOp;simp only [ho,resolve,invoke,builtin,yaf,yaj,yaa,List.map_toArray,yaK,ya0,hs,hx,hr];exact h
theorem Tryz.aG.take {t:TypeId} {sz n c:Nat} {w:World} {b2:Nat} {sa:Option Addr} {cs:List Value} (h:aG t sz w b2 (.slice sa n c) n cs) {k:Nat} (hk:k≤n) (hn:0<n):aG t sz w b2 (.slice sa k c) k (cs.take (k*sz)):=by
 obtain ⟨h1,h2⟩:=h;rcases h2 with ⟨h2,h3⟩|⟨g,cap,cur,e,h3,h4,h5,h6,h7,h8⟩
 ·omega
 ·cases e;refine ⟨by rw [ybz,h1];exact ycL (ybf _ hk),.inr ⟨g,c,cur,rfl,h3,h4,by omega,h6,h7,?_⟩⟩;rw [←h8,List.take_take,ycL (ybf _ hk)]
theorem Tryz.RA (w:World) (t:TypeId) (x:Value):((w.alloc (Obj.cells #[x] t)).drew).ownsRow w.heap.size t 1 (.slice (some ⟨w.heap.size,0,none⟩) 1 1) 1 [x]:=
 ⟨rfl,.inr ⟨_,1,_,rfl,yab _,ydh w _,yab _,by unfold maxLen;decide,rfl,rfl⟩⟩
structure Tryz.Gy (w wr:World) (G cl:Nat) (tl:TypeId) (l:List Int):Prop where
 own:aG tl 1 wr w.heap.size (.slice (some ⟨G,0,none⟩) l.length cl) l.length (bg l)
 mP:wr.rangeAt G 0 (bg l)
 lo:w.heap.size≤G
 hi:G<wr.heap.size
 cap:l.length≤cl
 ne:0<l.length
set_option maxRecDepth 100000 in
theorem Tryz.zD7 (w:World) (x:Value) {t:TypeId}:(Builtin.append_ #[35,35] 35 #[.slice (some ⟨w.heap.size,0,none⟩) 1 1,.slice none 0 0]).run prog ((w.alloc (Obj.cells #[x] t)).drew)= .ok (.slice (some ⟨w.heap.size,0,none⟩) 1 1) ((w.alloc (Obj.cells #[x] t)).drew):=by
 obtain ⟨i0,hi0,j1,j2,j3⟩:=ybl Ja;have hU:prog.underlying 35=some (.slice 3):=by kernel_rfl
 simp [Builtin.append_,run_underlying hU,sizeOf,typeInfo,hi0,Builtin.lenOf,Builtin.firstCells,storeCells]
set_option maxRecDepth 100000 in
theorem Tryz.zoB {A:Nat→Prop} {w:World} {S P L Bs B N b2:Nat} {r:Rg} {s:SS} {g:Nat→Int} {lv:Value} (h:aV A w S P L Bs B N b2 r s g lv) (hl:s.tk.length≤100000):
    Calls prog 45 #[.pointer (some ⟨S,0,none⟩)] w fun e w'=> ∃(v:Value) (t:TypeId),e= .returned v∧aG t 1 w' w.heap.size v s.tk.length (bg (oo s.tk))∧Below w.heap.size w w':=by
  obtain ⟨sv,vs,q1,q2,q3⟩:=h.obj;have c13:=q1.cell 11 _ rfl;obtain ⟨q5,⟨ty,hrow⟩,q6⟩:=q3;obtain ⟨sa,c,hlv,zi⟩:=aG.row hrow;rw [hlv] at c13;have hcell: ∀(j:Nat) (hj:j<s.tk.length),∃G,sa=some ⟨G,0,none⟩∧G<w.heap.size∧w.cell? ⟨G,j*2,none⟩=some (.int .i64 s.tk[j].1):=fun j hj=>by
    rcases zi with hr|⟨G,hsa,qY,hr⟩
    · have:=yaH List.length hr;rw [vF s.tk vs q5] at this;simp only [ybv] at this;omega
    · refine ⟨G,hsa,(hrow.lt G qY).2,?_⟩;have e1:=hr _ _ (ET s.tk vs q5 j hj).1;rw [yaq] at e1;exact e1
  have hS:=q1.lt;obtain ⟨Sz,hSz⟩: ∃n,n=s.tk.length:=⟨_,rfl⟩;clear q2 q6 zi hrow;have uP:True:=trivial;clear hS hSz;go_enter func45,ntmps45;go_wp2_with fail;go_loopw [3,4] (fun v y wr=> ∃(i:Nat) (l:List Int) (t:TypeId),i≤s.tk.length∧y= .int .i64 i∧l.length=i∧aG t 1 wr w.heap.size v l.length (bg l)∧l=oo (s.tk.take i)∧(l= []→v= .slice none 0 0)∧Below w.heap.size w wr) (fun _ y _=>s.tk.length-(RowKit.intOf y).toNat)
  case atStart=>exact ⟨0,[],3,yax _,rfl,rfl,aG.nil _ _ _ _,by simp [oo],fun _=>rfl,yag _ _⟩
  case round=>
    obtain ⟨i,l,tl,hi,rfl,hll,hown,hlr,hnil,hb⟩:=hrel;subst hll;have y13:=(hb.cell (p:=⟨S,11,none⟩) q1.lt).trans c13;by_cases hil:l.length<s.tk.length
    · have HV:(l.length:Int)<s.tk.length:=by omega
      obtain ⟨Gk,hsa,sZ,Nk⟩:=hcell l.length hil;have Tz:=(hb.cell (p:=⟨Gk,l.length*2,none⟩) sZ).trans Nk;have DX:=zq9 hil;rw [←hlr] at DX;obtain ⟨x,hx⟩: ∃x,x=s.tk[l.length].1:=⟨_,rfl⟩;rw [←hx] at Nk Tz DX;rw [hsa] at y13;obtain ⟨sl,cl,rfl,hrl⟩:=aG.row hown;clear hlr hx;go_wp2_with fail;go_loopw [5] (fun z wq=> ∃k:Nat,k≤jF x l∧z= .int .i64 k∧aG tl 1 wq w.heap.size (.slice sl l.length cl) l.length (bg l)∧Below w.heap.size w wq) (fun z _=>l.length-(RowKit.intOf z).toNat)
      case atStart=>exact ⟨0,yax _,rfl,hown,hb⟩
      case round=>
        obtain ⟨k,hk,rfl,hown1,hb1⟩:=hrel;have IV:=(hb1.cell (p:=⟨S,11,none⟩) q1.lt).trans (hsa▸c13);have zk:=(hb1.cell (p:=⟨Gk,l.length*2,none⟩) sZ).trans Nk;have hnl:=zto x l;have hii:(l.length:Int)<s.tk.length:=HV;clear y13 Tz c13 hcell;by_cases hkn:k<jF x l
        · have hkl:k<l.length:=by omega
          have hkl':(k:Int)<l.length:=by omega
          have hlt:=ztn hkn hkl;obtain ⟨_,c1,e1,hr1⟩:=aG.row hown1;cases e1;rcases hr1 with hr1|⟨G,rfl,qY,hr1⟩
          · have:=yaH List.length hr1;simp [bg] at this;exact absurd this (by intro q;rw [q] at hkl;simp at hkl)
          have hcl:=aG.cap hown1 (by omega);have TA:wr.cell? ⟨G,k,none⟩=some (.int .i64 l[k]):=by
            have:=hr1 k (.int .i64 l[k]) (by simp [bg,hkl])
            rwa [yaq] at this
          generalize hy:l[k]=y at TA hlt;clear hy hr1 DX;go_wp2_with fail;go_quiet (fail);go_wp2;exact ⟨⟨k+1,by omega,by push_cast;rfl,hown1.kept fun _ _=>rfl,below_drewN hb1 _⟩,by simp only [RowKit.intOf];omega⟩
        · have hke:k=jF x l:=by omega
          have hex:(k<l.length∧ ∃(G:Nat) (y:Int),sl=some ⟨G,0,none⟩∧wr.cell? ⟨G,k,none⟩=some (.int .i64 y)∧ ¬y<x)∨ ¬k<l.length:=by
            by_cases hkl:k<l.length
            · refine .inl ⟨hkl,?_⟩;obtain ⟨_,c1,e1,hr1⟩:=aG.row hown1;cases e1;rcases hr1 with hr1|⟨G,rfl,qY,hr1⟩
              · have:=yaH List.length hr1;simp [bg] at this;exact absurd this (by intro q;rw [q] at hkl;simp at hkl)
              · refine ⟨G,l[k],rfl,?_,?_⟩
                · have:=hr1 k (.int .i64 l[k]) (by simp [bg,hkl])
                  rwa [yaq] at this
                · subst hke;exact ztp hkl
            · exact .inr hkl
          have HZ:oo (s.tk.take (l.length+1))=l.take k++(x::l.drop k):=by rw [DX,hke];rfl
          clear hkn DX hke;have MK:l≠ []→ ∃G,sl=some ⟨G,0,none⟩∧w.heap.size≤G∧G<wr.heap.size∧l.length≤cl∧wr.rangeAt G 0 (bg l):=fun hne=>by
            have hpos:0<l.length:=ybt.2 hne;have hcl:=aG.cap hown1 hpos;obtain ⟨_,c1,e1,hr1⟩:=aG.row hown1;cases e1;rcases hr1 with hr1|⟨G,rfl,qY,hr1⟩
            · have:=yaH List.length hr1;simp [bg] at this;exact absurd this hne
            · exact ⟨G,rfl,(hown1.lt G qY).1,(hown1.lt G qY).2,hcl,hr1⟩
          obtain ⟨i0,hi0,j1,j2,j3⟩:=ybl Ja;have hU:prog.underlying 35=some (.slice 3):=by kernel_rfl
          have hone: ∀u∈bg l,u.oneCell'=true:=fun u hu=>by
            obtain ⟨x,_,rfl⟩:=ya6.1 hu;rfl
          have hSw:=q1.lt;by_cases hl0:l= []
          · have hv:=hnil hl0;have hkz:k=0:=by rw [hl0] at hnl hk;simp at hnl hk;omega
            subst hl0;subst hkz;cases hv;clear hex MK hnil hone hnl;have hkl: ¬0<([]:List Int).length:=by simp
            go_wp2_with fail;go_quiet (fail);go_wp2_with fail;have eT:=below_drewN hb1 nq;have y13:(wr.drewN nq).cell? ⟨S,11,none⟩=_:=IV;have yk:(wr.drewN nq).cell? ⟨Gk,0,none⟩=_:=zk;generalize wr.drewN nq=w8 at eT y13 yk ⊢;have hrun:=zD7 w8 (.int .i64 x) (t:=3);have hba:=(yag w8.heap.size w8).alloc (yab _) (Obj.cells #[.int .i64 x] 3);have hbb:=eT.trans (hba.mono eT.size);have yK:=(hba.cell (p:=⟨S,11,none⟩) (yad hSw eT.size)).trans y13;have ak:=(hba.cell (p:=⟨Gk,0,none⟩) (yad sZ eT.size)).trans yk;have hnew:=ydh w8 (Obj.cells #[.int .i64 x] 3);have tF:S<((w8.alloc (Obj.cells #[.int .i64 x] 3)).drew).heap.size:=yad hSw hbb.size;have tq:Gk<((w8.alloc (Obj.cells #[.int .i64 x] 3)).drew).heap.size:=yad sZ hbb.size;have hws:=eT.size;have hz0:(0:Int)<(s.tk.length:Int):=by
              have q:=hil;simp only [ybv] at q;omega
            have hz1:0<s.tk.length:=by omega
            have hz2: ¬s.tk= []:=fun q=>by rw [q] at hz1;simp at hz1
            have hz3:(0:Int)≤((0:Nat):Int):=by decide
            have hz4:((0:Nat):Int)<(s.tk.length:Int):=by omega
            go_region_held3 (fun w'=>w'.cell? ⟨S,11,none⟩=some (.slice (some ⟨Gk,0,none⟩) s.tk.length c)∧w'.cell? ⟨Gk,0,none⟩=some (.int .i64 x)) (go_keep)
              ((first
                | (refine zuB (by rfl) _ _ 35 (by rfl) _ _ (by rfl) (by rfl) hrun ?_)
                | (refine qC (P0:=prog) (by rfl) _ _ _ (by rfl) w.heap.size 3 3 i0 _ 1 8 hU hi0 j1 j2 j3 rfl (by decide) (.slice none 0 0) 0 [] (by rfl) (aG.nil _ _ _ _) (some ⟨w8.heap.size,0,none⟩) ⟨w8.heap.size,0,none⟩ rfl 1 1 [.int .i64 x] (by rfl) rfl
                     (fun j u hu=>by rw [Dw.addr_add,yaq];cases j with|zero=>(cases hu;exact ycD _ _ 0 _ _ (0,0) hnew)|succ j=>simp at hu) (fun u hu=>by rw [yaF.1 hu];rfl) (by unfold maxLen;decide) (by decide) (by simp;omega) ?_
                   intro v2 wb t2 hown2 hgrow2 Dy;have hSb:=hgrow2.block S tF (fun e=>by cases e);have qX:=hgrow2.block Gk tq (fun e=>by cases e);have b13:=(yao (a:=⟨S,11,none⟩) hSb).trans yK;have bk:=(yao (a:=⟨Gk,0,none⟩) qX).trans ak)))
            all_goals (go_wp2_with fail)
            all_goals
              have hbw:Below w.heap.size w wb:=hbb.trans ⟨hgrow2.os,hgrow2.tape,hgrow2.output,hgrow2.size,fun b hb=>hgrow2.block b (by have:=hbb.size;simp at this ⊢;omega) (fun e=>by cases e)⟩;refine ⟨⟨1,[x],t2,Nat.succ_le_of_lt (by simpa using hil),rfl,rfl,?_,?_,(fun e=>by cases e),hbw⟩,by simp only [RowKit.intOf];simp at hil ⊢;omega⟩
              · unfold aG;simpa [bg] using hown2
              · simpa using HZ.symm
          · obtain ⟨G,rfl,hG1,hG2,hcl,SY⟩:=MK hl0;have d1:(k:Int)≤(cl:Int):=by omega
            have d2:(l.length:Int)≤(cl:Int):=by omega
            have d3:(0:Int)≤(k:Int):=by omega
            have d4:(k:Int)≤(l.length:Int):=by omega
            have hd:Gy w wr G cl tl l:=⟨hown1,SY,hG1,hG2,hcl,ybt.2 hl0⟩;clear hnil MK hcl hG1 hG2 SY hl0 hone hown1;have aaA:(¬cl=k∧k<l.length∧ ∃(G':Nat) (y:Int),some (⟨G,0,none⟩:Addr)=some ⟨G',0,none⟩∧wr.cell? ⟨G',k,none⟩=some (.int .i64 y)∧ ¬y<x)∨(¬cl=k∧ ¬k<l.length)∨(k=l.length∧cl=l.length):=by
              have:=hd.cap;rcases hex with q|q
              · exact .inl ⟨by have:=q.1;omega,q⟩
              · by_cases hck:cl=k
                · exact .inr (.inr ⟨by omega,by omega⟩)
                · exact .inr (.inl ⟨hck,q⟩)
            clear hex;rcases aaA with ⟨hck,hkl,G',y,e,TA,hlt⟩|⟨hck,hkl⟩|⟨rfl,rfl⟩
            · cases e;have hkl':(k:Int)<l.length:=by omega
              go_wp2_with fail;go_quiet (fail);go_wp2_with fail;have eT:=below_drewN hb1 nq;have y13:(wr.drewN nq).cell? ⟨S,11,none⟩=_:=IV;have yk:(wr.drewN nq).cell? ⟨Gk,l.length*2,none⟩=_:=zk;have fo:Gy w (wr.drewN nq) G cl tl l:=⟨hd.own.kept fun _ _=>rfl,hd.mP,hd.lo,hd.hi,hd.cap,hd.ne⟩;generalize wr.drewN nq=w8 at eT y13 yk fo ⊢;have hba:=(yag w8.heap.size w8).alloc (yab _) (Obj.cells #[.int .i64 x] 3);have hbb:=eT.trans (hba.mono eT.size);have yK:=(hba.cell (p:=⟨S,11,none⟩) (yad hSw eT.size)).trans y13;have ak:=(hba.cell (p:=⟨Gk,l.length*2,none⟩) (yad sZ eT.size)).trans yk;have tF:S<((w8.alloc (Obj.cells #[.int .i64 x] 3)).drew).heap.size:=yad hSw hbb.size;have tq:Gk<((w8.alloc (Obj.cells #[.int .i64 x] 3)).drew).heap.size:=yad sZ hbb.size;have hws:=eT.size;have uM:G<((w8.alloc (Obj.cells #[.int .i64 x] 3)).drew).heap.size:=yad fo.hi hba.size;have qc:((w8.alloc (Obj.cells #[.int .i64 x] 3)).drew).rangeAt G 0 (bg l):=gL fo.mP (hba.block G fo.hi);have DZ:aG tl 1 ((w8.alloc (Obj.cells #[.int .i64 x] 3)).drew) w.heap.size (.slice (some ⟨G,0,none⟩) l.length cl) l.length (bg l):=fo.own.kept fun b e=>by cases e;exact hba.block G fo.hi
              have Dj:=RA w8 3 (.int .i64 x);have hone: ∀u∈bg l,u.oneCell'=true:=fun u hu=>by
                obtain ⟨x,_,rfl⟩:=ya6.1 hu;rfl
              have yZ:(bg l).length=l.length:=by simp [bg]
              have hdl:((bg l).drop k).length=(l.length-k)*1:=by rw [ycs,yZ];omega
              go_region_held3 (fun w'=>w'.cell? ⟨S,11,none⟩=some (.slice (some ⟨Gk,0,none⟩) s.tk.length c)∧w'.cell? ⟨Gk,l.length*2,none⟩=some (.int .i64 x)) (go_keep)
                ((first
                  | (refine qC (P0:=prog) (by rfl) _ _ _ (by rfl) w8.heap.size 3 3 i0 _ 1 8 hU hi0 j1 j2 j3 rfl (by decide) (.slice (some ⟨w8.heap.size,0,none⟩) 1 1) 1 [.int .i64 x] (by rfl) Dj (some ⟨G,k,none⟩) ⟨G,k,none⟩ rfl (l.length-k) (cl-k) ((bg l).drop k) (by rfl) hdl
                       (fun j u hu=>by have:=Zq qc (k:=k) (c:=cl) (by rw [yZ];exact fo.cap) j u hu;rwa [yai hck] at this) (fun u hu=>hone u (ya2 hu)) (by unfold maxLen;omega) (by omega) (by simp) ?_
                     intro v1 wa t1 hown1 hgrow1 tH;have Dr:=hgrow1.block S tF (fun e=>by simp [Value.ownBlock] at e;omega);have Dn:=hgrow1.block Gk tq (fun e=>by simp [Value.ownBlock] at e;omega);have Dm:=hgrow1.block G uM (fun e=>by simp [Value.ownBlock] at e;have:=fo.hi;omega);have c13:=(yao (a:=⟨S,11,none⟩) Dr).trans yK;have ck:=(yao (a:=⟨Gk,l.length*2,none⟩) Dn).trans ak;have hpre:=aG.take (DZ.kept (w':=wa) fun b e=>by cases e;exact Dm) (k:=k) (by omega) fo.ne;obtain ⟨sa1,c1,rfl,hr1⟩:=aG.row hown1;obtain ⟨G1,rfl,hr2⟩: ∃G1,sa1=some ⟨G1,0,none⟩∧wa.rangeAt G1 0 ([.int .i64 x]++(bg l).drop k):=by
                       rcases hr1 with q|⟨G1,q1,_,q2⟩
                       · cases q
                       · exact ⟨G1,q1,q2⟩
                     clear hr1)
                  | (refine qC (P0:=prog) (by rfl) _ _ _ (by rfl) w.heap.size 3 tl i0 _ 1 8 hU hi0 j1 j2 j3 rfl (by decide) (.slice (some ⟨G,0,none⟩) k cl) k ((bg l).take (k*1)) (by rfl) hpre (some ⟨G1,0,none⟩) ⟨G1,0,none⟩ rfl (1+(l.length-k)) c1 ([.int .i64 x]++(bg l).drop k) (by rfl) (by rw [yaQ,hdl];simp)
                       (fun j u hu=>by rw [Dw.addr_add];exact hr2 j u hu) (fun u hu=>by rcases yaT.1 hu with q|q;(rw [yaF.1 q];rfl);exact hone u (ya2 q)) (by unfold maxLen;omega) (by omega) (by have:=hgrow1.size;simp at this;omega) ?_
                     intro v2 wb t2 hown2 hgrow2 Dy;have hSb:=hgrow2.block S (yad tF hgrow1.size) (fun e=>by simp [Value.ownBlock] at e;have:=fo.lo;omega);have qX:=hgrow2.block Gk (yad tq hgrow1.size) (fun e=>by simp [Value.ownBlock] at e;have:=fo.lo;omega);have b13:=(yao (a:=⟨S,11,none⟩) hSb).trans c13;have bk:=(yao (a:=⟨Gk,l.length*2,none⟩) qX).trans ck)))
              all_goals (go_wp2_with fail)
              all_goals
                have hbw:Below w.heap.size w wb:=(hbb.trans ⟨hgrow1.os,hgrow1.tape,hgrow1.output,hgrow1.size,fun b hb=>hgrow1.block b (by have:=hbb.size;simp at this ⊢;omega) (fun e=>by simp [Value.ownBlock] at e;omega)⟩).trans ⟨hgrow2.os,hgrow2.tape,hgrow2.output,hgrow2.size,fun b hb=>hgrow2.block b (by have:=hbb.size;have:=hgrow1.size;simp at*;omega) (fun e=>by simp [Value.ownBlock] at e;have:=fo.lo;omega)⟩;have hlen':(l.take k++x::l.drop k).length=k+(1+(l.length-k)):=by simp;omega
                refine ⟨⟨l.length+1,l.take k++x::l.drop k,t2,by omega,by push_cast;rfl,by rw [hlen'];omega,?_,HZ.symm,(fun e=>by simp at e),hbw⟩,by simp only [RowKit.intOf];omega⟩;rw [hlen'];unfold aG;simpa [bg] using hown2
            · go_wp2_with fail;go_quiet (fail);go_wp2_with fail;have eT:=below_drewN hb1 nq;have y13:(wr.drewN nq).cell? ⟨S,11,none⟩=_:=IV;have yk:(wr.drewN nq).cell? ⟨Gk,l.length*2,none⟩=_:=zk;have fo:Gy w (wr.drewN nq) G cl tl l:=⟨hd.own.kept fun _ _=>rfl,hd.mP,hd.lo,hd.hi,hd.cap,hd.ne⟩;generalize wr.drewN nq=w8 at eT y13 yk fo ⊢;have hba:=(yag w8.heap.size w8).alloc (yab _) (Obj.cells #[.int .i64 x] 3);have hbb:=eT.trans (hba.mono eT.size);have yK:=(hba.cell (p:=⟨S,11,none⟩) (yad hSw eT.size)).trans y13;have ak:=(hba.cell (p:=⟨Gk,l.length*2,none⟩) (yad sZ eT.size)).trans yk;have tF:S<((w8.alloc (Obj.cells #[.int .i64 x] 3)).drew).heap.size:=yad hSw hbb.size;have tq:Gk<((w8.alloc (Obj.cells #[.int .i64 x] 3)).drew).heap.size:=yad sZ hbb.size;have hws:=eT.size;have uM:G<((w8.alloc (Obj.cells #[.int .i64 x] 3)).drew).heap.size:=yad fo.hi hba.size;have qc:((w8.alloc (Obj.cells #[.int .i64 x] 3)).drew).rangeAt G 0 (bg l):=gL fo.mP (hba.block G fo.hi);have DZ:aG tl 1 ((w8.alloc (Obj.cells #[.int .i64 x] 3)).drew) w.heap.size (.slice (some ⟨G,0,none⟩) l.length cl) l.length (bg l):=fo.own.kept fun b e=>by cases e;exact hba.block G fo.hi
              have Dj:=RA w8 3 (.int .i64 x);have hone: ∀u∈bg l,u.oneCell'=true:=fun u hu=>by
                obtain ⟨x,_,rfl⟩:=ya6.1 hu;rfl
              have yZ:(bg l).length=l.length:=by simp [bg]
              have hdl:((bg l).drop k).length=(l.length-k)*1:=by rw [ycs,yZ];omega
              go_region_held3 (fun w'=>w'.cell? ⟨S,11,none⟩=some (.slice (some ⟨Gk,0,none⟩) s.tk.length c)∧w'.cell? ⟨Gk,l.length*2,none⟩=some (.int .i64 x)) (go_keep)
                ((first
                  | (refine qC (P0:=prog) (by rfl) _ _ _ (by rfl) w8.heap.size 3 3 i0 _ 1 8 hU hi0 j1 j2 j3 rfl (by decide) (.slice (some ⟨w8.heap.size,0,none⟩) 1 1) 1 [.int .i64 x] (by rfl) Dj (some ⟨G,k,none⟩) ⟨G,k,none⟩ rfl (l.length-k) (cl-k) ((bg l).drop k) (by rfl) hdl
                       (fun j u hu=>by have:=Zq qc (k:=k) (c:=cl) (by rw [yZ];exact fo.cap) j u hu;rwa [yai hck] at this) (fun u hu=>hone u (ya2 hu)) (by unfold maxLen;omega) (by omega) (by simp) ?_
                     intro v1 wa t1 hown1 hgrow1 tH;have Dr:=hgrow1.block S tF (fun e=>by simp [Value.ownBlock] at e;omega);have Dn:=hgrow1.block Gk tq (fun e=>by simp [Value.ownBlock] at e;omega);have Dm:=hgrow1.block G uM (fun e=>by simp [Value.ownBlock] at e;have:=fo.hi;omega);have c13:=(yao (a:=⟨S,11,none⟩) Dr).trans yK;have ck:=(yao (a:=⟨Gk,l.length*2,none⟩) Dn).trans ak;have hpre:=aG.take (DZ.kept (w':=wa) fun b e=>by cases e;exact Dm) (k:=k) (by omega) fo.ne;obtain ⟨sa1,c1,rfl,hr1⟩:=aG.row hown1;obtain ⟨G1,rfl,hr2⟩: ∃G1,sa1=some ⟨G1,0,none⟩∧wa.rangeAt G1 0 ([.int .i64 x]++(bg l).drop k):=by
                       rcases hr1 with q|⟨G1,q1,_,q2⟩
                       · cases q
                       · exact ⟨G1,q1,q2⟩
                     clear hr1)
                  | (refine qC (P0:=prog) (by rfl) _ _ _ (by rfl) w.heap.size 3 tl i0 _ 1 8 hU hi0 j1 j2 j3 rfl (by decide) (.slice (some ⟨G,0,none⟩) k cl) k ((bg l).take (k*1)) (by rfl) hpre (some ⟨G1,0,none⟩) ⟨G1,0,none⟩ rfl (1+(l.length-k)) c1 ([.int .i64 x]++(bg l).drop k) (by rfl) (by rw [yaQ,hdl];simp)
                       (fun j u hu=>by rw [Dw.addr_add];exact hr2 j u hu) (fun u hu=>by rcases yaT.1 hu with q|q;(rw [yaF.1 q];rfl);exact hone u (ya2 q)) (by unfold maxLen;omega) (by omega) (by have:=hgrow1.size;simp at this;omega) ?_
                     intro v2 wb t2 hown2 hgrow2 Dy;have hSb:=hgrow2.block S (yad tF hgrow1.size) (fun e=>by simp [Value.ownBlock] at e;have:=fo.lo;omega);have qX:=hgrow2.block Gk (yad tq hgrow1.size) (fun e=>by simp [Value.ownBlock] at e;have:=fo.lo;omega);have b13:=(yao (a:=⟨S,11,none⟩) hSb).trans c13;have bk:=(yao (a:=⟨Gk,l.length*2,none⟩) qX).trans ck)))
              all_goals (go_wp2_with fail)
              all_goals
                have hbw:Below w.heap.size w wb:=(hbb.trans ⟨hgrow1.os,hgrow1.tape,hgrow1.output,hgrow1.size,fun b hb=>hgrow1.block b (by have:=hbb.size;simp at this ⊢;omega) (fun e=>by simp [Value.ownBlock] at e;omega)⟩).trans ⟨hgrow2.os,hgrow2.tape,hgrow2.output,hgrow2.size,fun b hb=>hgrow2.block b (by have:=hbb.size;have:=hgrow1.size;simp at*;omega) (fun e=>by simp [Value.ownBlock] at e;have:=fo.lo;omega)⟩;have hlen':(l.take k++x::l.drop k).length=k+(1+(l.length-k)):=by simp;omega
                refine ⟨⟨l.length+1,l.take k++x::l.drop k,t2,by omega,by push_cast;rfl,by rw [hlen'];omega,?_,HZ.symm,(fun e=>by simp at e),hbw⟩,by simp only [RowKit.intOf];omega⟩;rw [hlen'];unfold aG;simpa [bg] using hown2
            · have hkl: ¬l.length<l.length:=by omega
              go_wp2_with fail;go_quiet (fail);go_wp2_with fail;have eT:=below_drewN hb1 nq;have y13:(wr.drewN nq).cell? ⟨S,11,none⟩=_:=IV;have yk:(wr.drewN nq).cell? ⟨Gk,l.length*2,none⟩=_:=zk;have fo:Gy w (wr.drewN nq) G l.length tl l:=⟨hd.own.kept fun _ _=>rfl,hd.mP,hd.lo,hd.hi,hd.cap,hd.ne⟩;generalize wr.drewN nq=w8 at eT y13 yk fo ⊢;have hba:=(yag w8.heap.size w8).alloc (yab _) (Obj.cells #[.int .i64 x] 3);have hbb:=eT.trans (hba.mono eT.size);have yK:=(hba.cell (p:=⟨S,11,none⟩) (yad hSw eT.size)).trans y13;have ak:=(hba.cell (p:=⟨Gk,l.length*2,none⟩) (yad sZ eT.size)).trans yk;have tF:S<((w8.alloc (Obj.cells #[.int .i64 x] 3)).drew).heap.size:=yad hSw hbb.size;have tq:Gk<((w8.alloc (Obj.cells #[.int .i64 x] 3)).drew).heap.size:=yad sZ hbb.size;have hws:=eT.size;have uM:G<((w8.alloc (Obj.cells #[.int .i64 x] 3)).drew).heap.size:=yad fo.hi hba.size;have qc:((w8.alloc (Obj.cells #[.int .i64 x] 3)).drew).rangeAt G 0 (bg l):=gL fo.mP (hba.block G fo.hi);have DZ:aG tl 1 ((w8.alloc (Obj.cells #[.int .i64 x] 3)).drew) w.heap.size (.slice (some ⟨G,0,none⟩) l.length l.length) l.length (bg l):=fo.own.kept fun b e=>by cases e;exact hba.block G fo.hi
              have Dj:=RA w8 3 (.int .i64 x);have hone: ∀u∈bg l,u.oneCell'=true:=fun u hu=>by
                obtain ⟨x,_,rfl⟩:=ya6.1 hu;rfl
              have yZ:(bg l).length=l.length:=by simp [bg]
              go_region_held3 (fun w'=>w'.cell? ⟨S,11,none⟩=some (.slice (some ⟨Gk,0,none⟩) s.tk.length c)∧w'.cell? ⟨Gk,l.length*2,none⟩=some (.int .i64 x)) (go_keep)
                ((first
                  | (refine qC (P0:=prog) (by rfl) _ _ _ (by rfl) w8.heap.size 3 3 i0 _ 1 8 hU hi0 j1 j2 j3 rfl (by decide) (.slice (some ⟨w8.heap.size,0,none⟩) 1 1) 1 [.int .i64 x] (by rfl) Dj (some ⟨G,0,none⟩) ⟨G,0,none⟩ rfl 0 0 [] (by rfl) rfl
                       (fun j u hu=>by cases hu) (fun u hu=>by cases hu) (by unfold maxLen;omega) (by omega) (by simp) ?_
                     intro v1 wa t1 hown1 hgrow1 tH;have Dr:=hgrow1.block S tF (fun e=>by simp [Value.ownBlock] at e;omega);have Dn:=hgrow1.block Gk tq (fun e=>by simp [Value.ownBlock] at e;omega);have Dm:=hgrow1.block G uM (fun e=>by simp [Value.ownBlock] at e;have:=fo.hi;omega);have c13:=(yao (a:=⟨S,11,none⟩) Dr).trans yK;have ck:=(yao (a:=⟨Gk,l.length*2,none⟩) Dn).trans ak;have hpre:=aG.take (DZ.kept (w':=wa) fun b e=>by cases e;exact Dm) (k:=l.length) (by omega) fo.ne;obtain ⟨sa1,c1,rfl,hr1⟩:=aG.row hown1;obtain ⟨G1,rfl,hr2⟩: ∃G1,sa1=some ⟨G1,0,none⟩∧wa.rangeAt G1 0 ([.int .i64 x]++ []):=by
                       rcases hr1 with q|⟨G1,q1,_,q2⟩
                       · cases q
                       · exact ⟨G1,q1,q2⟩
                     clear hr1)
                  | (refine qC (P0:=prog) (by rfl) _ _ _ (by rfl) w.heap.size 3 tl i0 _ 1 8 hU hi0 j1 j2 j3 rfl (by decide) (.slice (some ⟨G,0,none⟩) l.length l.length) l.length ((bg l).take (l.length*1)) (by rfl) hpre (some ⟨G1,0,none⟩) ⟨G1,0,none⟩ rfl (1+0) c1 ([.int .i64 x]++ []) (by rfl) rfl
                       (fun j u hu=>by rw [Dw.addr_add];exact hr2 j u hu) (fun u hu=>by rcases yaT.1 hu with q|q;(rw [yaF.1 q];rfl);cases q) (by unfold maxLen;omega) (by omega) (by have:=hgrow1.size;simp at this;omega) ?_
                     intro v2 wb t2 hown2 hgrow2 Dy;have hSb:=hgrow2.block S (yad tF hgrow1.size) (fun e=>by simp [Value.ownBlock] at e;have:=fo.lo;omega);have qX:=hgrow2.block Gk (yad tq hgrow1.size) (fun e=>by simp [Value.ownBlock] at e;have:=fo.lo;omega);have b13:=(yao (a:=⟨S,11,none⟩) hSb).trans c13;have bk:=(yao (a:=⟨Gk,l.length*2,none⟩) qX).trans ck)))
              all_goals (go_wp2_with fail)
              all_goals
                have hbw:Below w.heap.size w wb:=(hbb.trans ⟨hgrow1.os,hgrow1.tape,hgrow1.output,hgrow1.size,fun b hb=>hgrow1.block b (by have:=hbb.size;simp at this ⊢;omega) (fun e=>by simp [Value.ownBlock] at e;omega)⟩).trans ⟨hgrow2.os,hgrow2.tape,hgrow2.output,hgrow2.size,fun b hb=>hgrow2.block b (by have:=hbb.size;have:=hgrow1.size;simp at*;omega) (fun e=>by simp [Value.ownBlock] at e;have:=fo.lo;omega)⟩;have hlen':(l.take l.length++x::l.drop l.length).length=l.length+(1+0):=by simp
                refine ⟨⟨l.length+1,l.take l.length++x::l.drop l.length,t2,by omega,by push_cast;rfl,by rw [hlen'],?_,HZ.symm,(fun e=>by simp at e),hbw⟩,by simp only [RowKit.intOf];omega⟩;rw [hlen'];rw [show (bg l).take (l.length*1)=bg l from by rw [Nat.mul_one];exact yb5 (by rw [yZ];exact yab _)] at hown2;unfold aG;simpa [bg] using hown2
    · have hie:l.length=s.tk.length:=by omega
      have HV: ¬(l.length:Int)<s.tk.length:=by omega
      rw [hie,ycG] at hlr;obtain ⟨sl,cl,e0,_⟩:=aG.row hown;have hown2:=hown;rw [hie,hlr] at hown2;subst e0;clear hown hlr hie hcell;go_wp2;go_ret;exact ⟨_,rfl,⟨tl,hown2⟩,hb⟩
set_option maxRecDepth 100000 in
theorem Tryz.zvc {w:World} {P:Nat} {r:Rg} {ev tb:Bool} (hck: ∀w',Calls prog 62 #[r.val] w' fun e w2=>e= .returned (.int .i64 0)∧Below w'.heap.size w' w2):
    Calls prog 33 #[.pointer (some ⟨P,0,none⟩),r.val,.agg #[.bool ev,.bool tb,.bool false]] w fun e w'=> ∃S,e= .returned (.tuple #[.pointer (some ⟨S,0,none⟩),.int .i64 0])∧w.heap.size≤S∧Cl w' S ((SS.fresh ev tb).aI r P (.slice none 0 0) (.slice none 0 0))∧Below w.heap.size w w':=by
  have hrw:(SS.fresh ev tb).aI r P (.slice none 0 0) (.slice none 0 0)= [.pointer (some ⟨P,0,none⟩),.bool false,.int .i64 r.n,.int .u64 r.d,.int .u64 r.v,.int .u64 r.c,.bool ev,.bool tb,.bool false,.int .u16 0,.int .u16 0,.slice none 0 0,.int .i64 0,.int .i64 0,.bool false,.int .i64 0,.slice none 0 0,.int .u32 0,.bool false,.bool false,.bool false]:=rfl;rw [hrw];clear hrw;unfold Rg.val at*;go_enter func33,ntmps33;go_wp2_with (first
    | (go_at_call 62;refine (hck _).mono ?_;rintro e w' ⟨rfl,hb⟩;have ka:=((Cl.new w _ _).alloc _).below hb (by simp<;>omega);have kb:=(Cl.new (w.alloc _) _ _).below hb (by simp<;>omega);rw [jB] at kb;have x0:=ka.cell 0 _ rfl;have x1:=ka.cell 1 _ rfl;have x2:=ka.cell 2 _ rfl;have x3:=ka.cell 3 _ rfl;have x4:=ka.cell 4 _ rfl;have y0:=kb.cell 0 _ rfl;have y1:=kb.cell 1 _ rfl;have y2:=kb.cell 2 _ rfl)
    | go_in)
  go_ret2;have hb2:=hb;simp only [jB] at hb2;have hA:=((yag w.heap.size w).alloc (yab _) _).alloc (by simp) _|>.trans (hb2.mono (by omega));exact ⟨w'.heap.size,rfl,by have:=hA.size;omega,Cl.new w' _ _,hA.alloc hA.size _⟩
structure Tryz.gD (s:SS) (i:Nat):Prop where
 seg: ∀e∈s.tk,e.2.length≤40000
 sg:s.sg.length≤40000
 len:s.tk.length≤i
theorem Tryz.gD.fresh (ev tb:Bool):gD (SS.fresh ev tb) 0:=⟨fun e he=>(by cases he),yax _,yab _⟩
theorem Tryz.gD.up {s:SS} {i:Nat} (h:gD s i):gD s (i+1):=⟨h.seg,h.sg,ycA h.len⟩
theorem Tryz.gD.poll {s:SS} {i:Nat} (h:gD s i):gD (sI s).2 i:=by
 unfold sI;split
 ·exact h
 ·split
  ·exact h
  ·exact ⟨h.seg,yax _,h.len⟩
theorem Tryz.gD.ret {s:SS} {i:Nat} (h:gD s i) (hd wr:Int):gD (nE s hd wr).2 i:=by
 unfold nE;split
 ·exact h
 ·split
  ·exact h
  ·split
   ·exact h
   ·split
    ·exact h
    ·exact ⟨h.seg,yax _,h.len⟩
theorem Tryz.gD.brk {s:SS} {i:Nat} (h:gD s i):gD s.brk i:=⟨h.seg,yax _,h.len⟩
theorem Tryz.gD.step {N:Nat} {r:Rg} {s:SS} {g:Nat→Int} {i:Nat} (h:gD s i) (hg: ∀j,0≤g j∧g j<256) (hr:RgOk r):gD (bW N r s g).2.2.1 (i+1):=by
 have hl:=h.len;have go: ∀q,gD (s.goto q) (i+1):=fun q=>⟨h.seg,h.sg,by show s.tk.length≤_;omega⟩;have hz:gD (({ s with nn:=true }:SS).stop) (i+1):=⟨h.seg,h.sg,by show s.tk.length≤_;omega⟩;unfold bW;split
 ·exact h.up
 ·unfold kH;split
  ·show gD (iO r g s).2 _;unfold iO;split
   ·exact h.brk.up
   ·split
    ·exact go 5
    ·split
     ·exact go 2
     ·exact hz
  ·exact go 3
  ·exact go 4
  ·show gD (jZ r g s).2 _;unfold jZ;split
   ·exact h.brk.up
   ·split
    ·exact go 5
    ·exact hz
  ·exact go 6
  ·exact ⟨h.seg,h.sg,by show s.tk.length≤_;omega⟩
  ·show gD (iK N r g s).2 _;have hS:=Qb (N:=N) (r:=r) (head:=s.hd) (table:=s.tb) hg hr;unfold iK;split
   ·refine ⟨fun e he=> ?_,hS.2,by show (s.tk++_).length≤_;simp;omega⟩;have he:e∈s.tk++ [(s.hd,(eX N g r s.hd s.tb).1)]:=he;rcases yaT.1 he with he|he
    ·exact h.seg e he
    ·rw [yaF.1 he];exact hS.2
   ·exact h.brk.up
  ·exact go 12
  ·exact go 13
  ·exact ⟨h.seg,h.sg,by show s.tk.length≤_;omega⟩
  ·exact go 15
  ·exact ⟨fun e he=>h.seg e ((BL s.hd s.tk).subset he),h.sg,by show (mE _ _).length≤_;have:=(znv s.hd s.tk).1;omega⟩
  ·exact h.up
theorem Tryz.eF.step {N:Nat} {r:Rg} {s:SS} {g:Nat→Int} (h:eF s) (hg: ∀j,0≤g j∧g j<256):eF (bW N r s g).2.2.1:=by
 have mk: ∀ {t:SS},(0≤t.nx∧t.nx<65536)→(0≤t.us∧t.us<65536)→(0≤t.hd∧t.hd<65536)→(0≤t.wr∧t.wr<4294967296)→t.ph≤7→eF t:=fun a b c d e=>⟨a,b,c,d,.inl e,fun q=>by omega⟩;have hb:eF s.brk:=mk h.nx h.us ⟨ybC _,by show (0:Int)<65536;decide⟩ ⟨ybC _,by show (0:Int)<4294967296;decide⟩ (yax _);have go: ∀q,q≤7→eF (s.goto q):=fun q hq=>mk h.nx h.us h.hd h.wr hq;have hz:eF (({ s with nn:=true }:SS).stop):=mk h.nx h.us h.hd h.wr (yax _);have go2: ∀q,11≤s.ph→11≤q∧q≤15→eF (s.goto q):=fun q hp hq=>⟨h.nx,h.us,h.hd,h.wr,.inr hq,fun _=>h.ret hp⟩;unfold bW;split
 ·exact h
 ·unfold kH;split
  ·show eF (iO r g s).2;unfold iO;split
   ·exact hb
   ·split
    ·exact go 5 (by decide)
    ·split
     ·exact go 2 (by decide)
     ·exact hz
  ·exact go 3 (by decide)
  ·exact go 4 (by decide)
  ·show eF (jZ r g s).2;unfold jZ;split
   ·exact hb
   ·split
    ·exact go 5 (by decide)
    ·exact hz
  ·exact go 6 (by decide)
  ·exact mk h.nx h.us (kE g hg _ 2) h.wr (yab _)
  ·show eF (iK N r g s).2;unfold iK;split
   ·exact mk ⟨by show 0≤(s.nx+1)%65536;omega,by show (s.nx+1)%65536<65536;omega⟩ h.us h.hd h.wr (yax _)
   ·exact hb
  ·rename_i hp;exact go2 12 (by omega) (by decide)
  ·rename_i hp;exact go2 13 (by omega) (by decide)
  ·rename_i hp;exact ⟨h.nx,⟨by show 0≤(s.us+1)%65536;omega,by show (s.us+1)%65536<65536;omega⟩,h.hd,h.wr,.inr (by show 11≤14∧14≤15;decide),fun _=>h.ret (by omega)⟩
  ·rename_i hp;exact go2 15 (by omega) (by decide)
  ·exact mk h.nx h.us h.hd h.wr (yax _)
  ·exact h
section
variable {A A' K:Nat→Prop} {w w':World} {S P L Bs B M N b2:Nat} {r:Tryz.Rg} {s s':Tryz.SS} {g g':Nat→Int}
theorem Tryz.mI.uY {ph:Nat} {v:Value} (h:mI A w S ph v) (hA: ∀b,b<w.heap.size→A' b→A b) (hk: ∀b,b<w.heap.size→ ¬A b→w'.heap[b]? =w.heap[b]?):mI A' w' S ph v:=by
 cases h with
 | idle h hv=>exact .idle h hv
 | gZ f h hv=>exact .gZ f h hv
 | fence f X Y h hv hX hY aX aY=>exact .fence f X Y h hv (hX.kept (hk X (yj hX) aX)) (hY.kept (hk Y (yj hY) aY)) (fun h=>aX (hA X (yj hX) h)) (fun h=>aY (hA Y (yj hY) h))
theorem Tryz.SW.uT (h:SW A w S P L Bs B M N r s g) (hA: ∀b,b<w.heap.size→A' b→A b) (aS:A' S) (aM:A' M) (aB:A' B) (hl: ∀b,A' b→b<w'.heap.size) (hm:Dw.Mv K w w') (hK: ∀b,K b→A b) (hn: ¬K S∧ ¬K M∧ ¬K P∧ ¬K L∧ ¬K Bs∧ ¬K B):SW A' w' S P L Bs B M N r s g:=by
 obtain ⟨n1,n2,n3,n4,n5,n6⟩:=hn;have l1:=h.aj.rO;have l2:=h.aj.tO;have l3:=h.mem.bl;have l4:=h.mem.pl;have l5:=h.mem.ll;have l6:=h.mem.sl;have h1:=h.kept (w':=w') (hm.block S l1 n1) (hm.block M l2 n2) (fun k hk hk'=>hm.block k hk fun q=>hk' (hK k q)) (fun k hk=>by
  rcases hk with rfl|rfl|rfl|rfl
  ·exact hm.block _ l4 n3
  ·exact hm.block _ l5 n4
  ·exact hm.block _ l6 n5
  ·exact hm.block _ l3 n6) hm.size
 obtain ⟨nv,sv,o1,o2,o3⟩:=h.aj.obj;have hk: ∀b,b<w.heap.size→ ¬A b→w'.heap[b]? =w.heap[b]? :=fun b hb hn=>hm.block b hb fun q=>hn (hK b q);obtain ⟨arr,clock,m1,m2,m3⟩:=h.aj.tk.map;refine ⟨⟨⟨nv,sv,?_,mI.uY o2 hA hk,aL.uY o3 hA hk⟩,⟨⟨arr,clock,(hm.block M l2 n2).trans m1,m2,fun k=>⟨(m3 k).1,fun t ht=> ?_⟩⟩,h.aj.tk.keys,h.aj.tk.u16⟩,h.aj.ne,aS,aM,h.aj.rg,h.aj.nx,h.aj.us,h.aj.hd,h.aj.wr⟩,h1.mem,h.hN,h.sd,h.md,aB,hl,h.fit⟩
 ·obtain ⟨arr,e,q1,q2⟩:=o1;exact ⟨arr,e,(hm.block S l1 n1).trans q1,q2⟩
 ·obtain ⟨v,v1,v2⟩:=(m3 k).2 t ht;exact ⟨v,v1,aL.uY v2 hA hk⟩
theorem Tryz.aV.abx {lv:Value} (h:aV A w S P L Bs B N b2 r s g lv) (hm:Dw.Mv (fun b=>b=S∨b=B) w w') (hr:bO w' P L Bs B N g') {nH:Value} (hc:Cl w' S (s'.aI r P nH lv)) (hsv:aL (fun b=>A b∨lv.ownBlock=some b) w' nH s'.sg) (ht:s'.tk=s.tk) (hp:eF s') (hd:(s'.ph≠0∨s'.br=true)→s'.dn=false):aV A w' S P L Bs B N b2 r s' g' lv:=by
 obtain ⟨sv,vs,q1,q2,q3⟩:=h.obj;obtain ⟨_,⟨t,hrow⟩,_⟩:=id q3;refine ⟨⟨nH,vs,hc,hsv,?_⟩,hr,h.aS,h.aB,fun b hb=>yad (h.lt b hb) hm.size,h.lo,yau h.b2 hm.size,h.sd,h.rg,hp,h.hN,h.fit,hd,ht▸h.mP,ht▸h.nd⟩;rw [ht];have hlo:=h.lo;refine q3.kept (fun b hb hn=>hm.block b hb fun e=> ?_) (fun b e=>hm.block b (hrow.lt b e).2 fun e2=> ?_)
 ·rcases e with e|e
  ·exact hn (e▸h.aS)
  ·exact hn (e▸h.aB)
 ·have:=(hrow.lt b e).1;rcases e2 with e2|e2<;>omega
end
structure Tryz.gB where
 X7:Nat
 XB:Nat
 S:Nat
 P:Nat
 L:Nat
 Bs:Nat
 B:Nat
 M:Nat
 S2:Nat
 P2:Nat
 L2:Nat
 ji:Nat
 B2:Nat
 b2:Nat
structure Tryz.gB.ok (d:gB) (n0:Nat):Prop where
 ex: ∃n1 n2 n3 n4 n5,n0≤d.X7∧d.X7<n1∧(n1≤d.P∧n1≤d.L∧n1≤d.Bs∧n1≤d.B)∧(d.P<n2∧d.L<n2∧d.Bs<n2∧d.B<n2)∧(n2≤d.P2∧n2≤d.L2∧n2≤d.ji∧n2≤d.B2)∧(d.P2<n3∧d.L2<n3∧d.ji<n3∧d.B2<n3)∧(n3≤d.XB∧d.XB<n4)∧(n4≤d.S∧n4≤d.M)∧(d.S<n5∧d.M<n5)∧n5≤d.S2∧d.S2<d.b2
def Tryz.gB.A (d:gB) (b:Nat):Prop:=b=d.S∨b=d.M∨b=d.B∨b=d.S2∨b=d.B2
def Tryz.gB.all (d:gB) (b:Nat):Prop:=d.A b∨b=d.P∨b=d.L∨b=d.Bs∨b=d.P2∨b=d.L2∨b=d.ji
structure Tryz.Duo (n0:Nat) (Z:Nat→Prop) (w:World) (d:gB) (r:Rg) (s1:SS) (g1:Nat→Int) (s2:SS) (g2:Nat→Int):Prop where
 ex: ∃lv,SW (fun b=>(d.A b∨Z b)∨lv.ownBlock=some b) w d.S d.P d.L d.Bs d.B d.M 20000 r s1 g1∧aV (fun b=>d.A b∨Z b) w d.S2 d.P2 d.L2 d.ji d.B2 20000 d.b2 r s2 g2 lv∧ ∀b,lv.ownBlock=some b→ ¬Z b∧d.b2≤b∧b<w.heap.size
 st:d.ok n0
 za: ∀b,Z b→b<w.heap.size∧ ¬d.all b
section
variable {n0:Nat} {Z Z':Nat→Prop} {w w':World} {d:Tryz.gB} {r:Tryz.Rg} {s1 s1':Tryz.SS} {g1 g1':Nat→Int} {s2 s2':Tryz.SS} {g2 g2':Nat→Int}
theorem Tryz.Duo.below (h:Duo n0 Z w d r s1 g1 s2 g2) (hb:Below w.heap.size w w'):Duo n0 Z w' d r s1 g1 s2 g2:=by
 obtain ⟨⟨lv,h1,h2,h3⟩,h4,h5⟩:=h;have hs:=hb.size;exact ⟨⟨lv,h1.below hb,h2.below hb,fun b e=>by have:=h3 b e;exact ⟨this.1,this.2.1,by omega⟩⟩,h4,fun b e=>by have:=h5 b e;exact ⟨by omega,this.2⟩⟩
theorem Tryz.Duo.set (h:Duo n0 Z w d r s1 g1 s2 g2) (hz: ∀b,Z' b→Z b):Duo n0 Z' w d r s1 g1 s2 g2:=by
 obtain ⟨⟨lv,h1,h2,h3⟩,h4,h5⟩:=h;exact ⟨⟨lv,h1.set (fun b _ q=>q.imp_left fun q=>q.imp_right (hz b)) (.inl (.inl (.inl rfl))) (.inl (.inl (.inr (.inl rfl)))) (.inl (.inl (.inr (.inr (.inl rfl))))) (fun b q=>h1.lt b (q.imp_left fun q=>q.imp_right (hz b))),h2.less (fun b q=>q.imp_right (hz b)) (.inl (.inr (.inr (.inr (.inl rfl))))) (.inl (.inr (.inr (.inr (.inr rfl))))),fun b e=>⟨fun q=>(h3 b e).1 (hz b q),(h3 b e).2⟩⟩,h4,fun b e=>h5 b (hz b e)⟩
theorem Tryz.Duo.more (h:Duo n0 Z w d r s1 g1 s2 g2) (hb:Below w.heap.size w w') (hz: ∀b,Z' b→Z b∨(w.heap.size≤b∧b<w'.heap.size)):Duo n0 Z' w' d r s1 g1 s2 g2:=by
 have hs:=hb.size;obtain ⟨⟨lv,h1,h2,h3⟩,h4,h5⟩:=h;have k1:=h1.aj.rO;have k2:=h1.aj.tO;have k3:=h1.mem.bl;have k4:=h1.mem.pl;have k5:=h1.mem.ll;have k6:=h1.mem.sl;obtain ⟨_,_,hc2,_⟩:=h2.obj;have k7:=hc2.lt;have k8:=h2.rm.bl;have k9:=h2.rm.pl;have k10:=h2.rm.ll;have k11:=h2.rm.sl;have hall: ∀b,d.all b→b<w.heap.size:=fun b q=>by
  rcases q with (q|q|q|q|q)|q|q|q|q|q|q<;>omega
 refine ⟨⟨lv,h1.uT (K:=fun _=>False) (fun b hb q=> ?_) (.inl (.inl (.inl rfl))) (.inl (.inl (.inr (.inl rfl)))) (.inl (.inl (.inr (.inr (.inl rfl))))) (fun b q=> ?_) (eO hb) (fun _ q=>q.elim) ⟨id,id,id,id,id,id⟩,h2.uT (fun b hb q=> ?_) (.inl (.inr (.inr (.inr (.inl rfl))))) (.inl (.inr (.inr (.inr (.inr rfl))))) (fun b q=> ?_) (fun b hh _=>hb.block b hh) hs,fun b e=>⟨fun q=> ?_,(h3 b e).2.1,by have:=(h3 b e).2.2;omega⟩⟩,h4,fun b e=> ?_⟩
 ·rcases q with (q|q)|q
  ·exact .inl (.inl q)
  ·rcases hz b q with q|q
   ·exact .inl (.inr q)
   ·omega
  ·exact .inr q
 ·rcases q with (q|q)|q
  ·have:=hall b (.inl q);omega
  ·rcases hz b q with q|q
   ·have:=(h5 b q).1;omega
   ·exact q.2
  ·have:=(h3 b q).2.2;omega
 ·rcases q with q|q
  ·exact .inl (.inl q)
  ·rcases hz b q with q|q
   ·exact .inl (.inr q)
   ·omega
 ·rcases q with q|q
  ·have:=hall b (.inl q);omega
  ·rcases hz b q with q|q
   ·have:=(h5 b q).1;omega
   ·exact q.2
 ·rcases hz b q with q|q
  ·exact (h3 b e).1 q
  ·have:=(h3 b e).2.2;omega
 ·rcases hz b e with q|q
  ·have:=h5 b q;exact ⟨by omega,this.2⟩
  ·refine ⟨q.2,fun hA=> ?_⟩;have:=hall b hA;omega
theorem Tryz.Duo.own (h:Duo n0 Z w d r s1 g1 s2 g2) (hm:Dw.Mv Z w w'):Duo n0 Z w' d r s1 g1 s2 g2:=by
 obtain ⟨⟨lv,h1,h2,h3⟩,h4,h5⟩:=h;have hs:=hm.size;have hn: ∀ {b:Nat},d.all b→ ¬Z b:=fun q hz=>(h5 _ hz).2 q;exact ⟨⟨lv,h1.uT (K:=Z) (fun b _ q=>q) (.inl (.inl (.inl rfl))) (.inl (.inl (.inr (.inl rfl)))) (.inl (.inl (.inr (.inr (.inl rfl))))) (fun b q=>yad (h1.lt b q) hs) hm (fun b q=> .inl (.inr q)) ⟨hn (.inl (.inl rfl)),hn (.inl (.inr (.inl rfl))),hn (.inr (.inl rfl)),hn (.inr (.inr (.inl rfl))),hn (.inr (.inr (.inr (.inl rfl)))),hn (.inl (.inr (.inr (.inl rfl))))⟩,
  h2.mv hm (fun b q=> .inr q) ⟨hn (.inl (.inr (.inr (.inr (.inl rfl))))),hn (.inr (.inr (.inr (.inr (.inl rfl))))),hn (.inr (.inr (.inr (.inr (.inr (.inl rfl)))))),hn (.inr (.inr (.inr (.inr (.inr (.inr rfl)))))),hn (.inl (.inr (.inr (.inr (.inr rfl)))))⟩ fun b e=>(h3 b e).1,
  fun b e=>⟨(h3 b e).1,(h3 b e).2.1,by have:=(h3 b e).2.2;omega⟩⟩,h4,fun b e=>⟨by have:=(h5 b e).1;omega,(h5 b e).2⟩⟩
theorem Tryz.gB.ok.ne {d:gB} {n0:Nat} (h:d.ok n0):(d.S≠d.S2∧d.S≠d.B2∧d.M≠d.S2∧d.M≠d.B2∧d.B≠d.S2∧d.B≠d.B2)∧(d.P≠d.S2∧d.P≠d.B2∧d.L≠d.S2∧d.L≠d.B2∧d.Bs≠d.S2∧d.Bs≠d.B2)∧(d.P2≠d.S∧d.P2≠d.M∧d.P2≠d.B∧d.L2≠d.S∧d.L2≠d.M∧d.L2≠d.B∧d.ji≠d.S∧d.ji≠d.M∧d.ji≠d.B)∧(d.S<d.b2∧d.M<d.b2∧d.B<d.b2∧d.P<d.b2∧d.L<d.b2∧d.Bs<d.b2∧d.S2<d.b2∧d.B2<d.b2∧d.P2<d.b2∧d.L2<d.b2∧d.ji<d.b2)∧(¬d.all d.X7∧n0≤d.X7)∧(¬d.all d.XB∧d.X7<d.XB)∧ ∀b,b<n0→ ¬d.all b:=by
 obtain ⟨n1,n2,n3,n4,n5,q1,q2,⟨q3,q4,q5,q6⟩,⟨q7,q8,q9,tT⟩,⟨q11,q12,q13,Oo⟩,⟨q15,q16,q17,q18⟩,⟨q25,q26⟩,⟨q19,Oq⟩,⟨Ot,q22⟩,q23,q24⟩:=h.ex;refine ⟨⟨by omega,by omega,by omega,by omega,by omega,by omega⟩,⟨by omega,by omega,by omega,by omega,by omega,by omega⟩,⟨by omega,by omega,by omega,by omega,by omega,by omega,by omega,by omega,by omega⟩,⟨by omega,by omega,by omega,by omega,by omega,by omega,by omega,by omega,by omega,by omega,by omega⟩,⟨?_,q1⟩,⟨?_,by omega⟩,?_⟩
 ·rintro ((e|e|e|e|e)|e|e|e|e|e|e)<;>omega
 ·rintro ((e|e|e|e|e)|e|e|e|e|e|e)<;>omega
 ·rintro b hb ((e|e|e|e|e)|e|e|e|e|e|e)<;>omega
theorem Tryz.Duo.U9 (h:Duo n0 Z w d r s1 g1 s2 g2) {w':World} {lv:Value} (hlv:aV (fun b=>d.A b∨Z b) w d.S2 d.P2 d.L2 d.ji d.B2 20000 d.b2 r s2 g2 lv) (hz: ∀b,lv.ownBlock=some b→ ¬Z b∧d.b2≤b∧b<w.heap.size) (h1:SW (fun b=>(d.A b∨Z b)∨lv.ownBlock=some b) w' d.S d.P d.L d.Bs d.B d.M 20000 r s1' g1') (hm:Dw.Mv (sK d.S d.M d.B) w w'):Duo n0 Z w' d r s1' g1' s2 g2∧Dw.Mv (fun b=> ¬Z b) w w':=by
 obtain ⟨⟨e1,e2,e3,e4,e5,e6⟩,⟨f1,f2,f3,f4,f5,f6⟩,⟨c1,c2,c3,c4,c5,c6,c7,c8,c9⟩,⟨b1,b2,b3,b4,b5,b6,b7,b8,b9,b10,b11⟩,_,_,_⟩:=h.st.ne;have hs:=hm.size;have hA: ∀b,sK d.S d.M d.B b→d.A b:=fun b q=>by
  rcases q with q|q|q
  ·exact .inl q
  ·exact .inr (.inl q)
  ·exact .inr (.inr (.inl q))
 refine ⟨⟨⟨lv,h1,hlv.mv hm (fun b q=> .inl (hA b q)) ⟨?_,?_,?_,?_,?_⟩ fun b e=> ?_,fun b e=>⟨(hz b e).1,(hz b e).2.1,by have:=(hz b e).2.2;omega⟩⟩,h.st,fun b e=>⟨by have:=(h.za b e).1;omega,(h.za b e).2⟩⟩,hm.mono fun b q hq=>(h.za b hq).2 (.inl (hA b q))⟩
 ·rintro (q|q|q)
  ·exact e1.symm q
  ·exact e3.symm q
  ·exact e5.symm q
 ·rintro (q|q|q)
  ·exact c1 q
  ·exact c2 q
  ·exact c3 q
 ·rintro (q|q|q)
  ·exact c4 q
  ·exact c5 q
  ·exact c6 q
 ·rintro (q|q|q)
  ·exact c7 q
  ·exact c8 q
  ·exact c9 q
 ·rintro (q|q|q)
  ·exact e2.symm q
  ·exact e4.symm q
  ·exact e6.symm q
 ·have q0:=(hz b e).2.1;clear e1 e2 e3 e4 e5 e6 f1 f2 f3 f4 f5 f6 c1 c2 c3 c4 c5 c6 c7 c8 c9;rintro (q|q|q)<;>omega
theorem Tryz.Duo.Va (h:Duo n0 Z w d r s1 g1 s2 g2) {w':World} {lv dV:Value} (h1:SW (fun b=>(d.A b∨Z b)∨lv.ownBlock=some b) w d.S d.P d.L d.Bs d.B d.M 20000 r s1 g1) (hz: ∀b,lv.ownBlock=some b→ ¬Z b∧d.b2≤b∧b<w.heap.size) (h2:aV (fun b=>d.A b∨Z b) w' d.S2 d.P2 d.L2 d.ji d.B2 20000 d.b2 r s2' g2' dV) (hl: ∀b,dV.ownBlock=some b→lv.ownBlock=some b∨w.heap.size≤b) (hm:Dw.Mv (fun b=>b=d.S2∨b=d.B2∨lv.ownBlock=some b) w w'):Duo n0 Z w' d r s1 g1 s2' g2'∧Dw.Mv (fun b=> ¬Z b) w w':=by
 obtain ⟨⟨e1,e2,e3,e4,e5,e6⟩,⟨f1,f2,f3,f4,f5,f6⟩,_,⟨b1,b2,b3,b4,b5,b6,b7,b8,b9,b10,b11⟩,_,_,_⟩:=h.st.ne;have hs:=hm.size;obtain ⟨_,vs,_,_,⟨_,⟨_,hrow⟩,_⟩⟩:=h2.obj;have hb2:d.b2≤w.heap.size:=by obtain ⟨_,_,hR,_⟩:=h.ex;exact hR.b2
 have hn: ∀ {b:Nat},b<d.b2→lv.ownBlock≠some b:=fun hb e=>by have:=(hz _ e).2.1;omega
 refine ⟨⟨⟨dV,h1.uT (K:=fun b=>b=d.S2∨b=d.B2∨lv.ownBlock=some b) (fun b hb q=> ?_) (.inl (.inl (.inl rfl))) (.inl (.inl (.inr (.inl rfl)))) (.inl (.inl (.inr (.inr (.inl rfl))))) (fun b q=> ?_) hm (fun b q=> ?_) ⟨?_,?_,?_,?_,?_,?_⟩,h2,fun b e=>⟨?_,(hrow.lt b e).1,(hrow.lt b e).2⟩⟩,h.st,fun b e=>⟨by have:=(h.za b e).1;omega,(h.za b e).2⟩⟩,hm.mono fun b q hq=> ?_⟩
 ·rcases q with q|q
  ·exact .inl q
  ·rcases hl b q with q|q
   ·exact .inr q
   ·omega
 ·rcases q with q|q
  ·exact h2.lt b q
  ·exact (hrow.lt b q).2
 ·rcases q with q|q|q
  ·exact .inl (.inl (.inr (.inr (.inr (.inl q)))))
  ·exact .inl (.inl (.inr (.inr (.inr (.inr q)))))
  ·exact .inr q
 ·rintro (q|q|q)
  ·exact e1 q
  ·exact e2 q
  ·exact hn b1 q
 ·rintro (q|q|q)
  ·exact e3 q
  ·exact e4 q
  ·exact hn b2 q
 ·rintro (q|q|q)
  ·exact f1 q
  ·exact f2 q
  ·exact hn b4 q
 ·rintro (q|q|q)
  ·exact f3 q
  ·exact f4 q
  ·exact hn b5 q
 ·rintro (q|q|q)
  ·exact f5 q
  ·exact f6 q
  ·exact hn b6 q
 ·rintro (q|q|q)
  ·exact e5 q
  ·exact e6 q
  ·exact hn b3 q
 ·rcases hl b e with q|q
  ·exact (hz b q).1
  ·intro hq;have:=(h.za b hq).1;omega
 ·have hA:=(h.za b hq).2;rcases q with q|q|q
  ·exact hA (.inl (.inr (.inr (.inr (.inl q)))))
  ·exact hA (.inl (.inr (.inr (.inr (.inr q)))))
  ·exact (hz b q).1 hq
theorem Tryz.I5 (h:Duo n0 Z w d r s1 g1 s2 g2) {f:FuncId} {args:Array Value} {U:Value} (hc: ∀A,SW A w d.S d.P d.L d.Bs d.B d.M 20000 r s1 g1→Calls prog f args w fun e w'=>e= .returned U∧SW A w' d.S d.P d.L d.Bs d.B d.M 20000 r s1' g1'∧Dw.Mv (sK d.S d.M d.B) w w'):
  Calls prog f args w fun e w'=>e= .returned U∧Duo n0 Z w' d r s1' g1' s2 g2∧Dw.Mv (fun b=> ¬Z b) w w':=by
 obtain ⟨lv,h1,h2,h3⟩:=h.ex;exact (hc _ h1).mono fun e w' hh=>⟨hh.1,h.U9 h2 h3 hh.2.1 hh.2.2⟩
theorem Tryz.I4 (h:Duo n0 Z w d r s1 g1 s2 g2) {f:FuncId} {args:Array Value} {U:Value} (hc: ∀A lv,aV A w d.S2 d.P2 d.L2 d.ji d.B2 20000 d.b2 r s2 g2 lv→Calls prog f args w fun e w'=>e= .returned U∧ ∃dV,aV A w' d.S2 d.P2 d.L2 d.ji d.B2 20000 d.b2 r s2' g2' dV∧(∀b,dV.ownBlock=some b→lv.ownBlock=some b∨w.heap.size≤b)∧Dw.Mv (fun b=>b=d.S2∨b=d.B2∨lv.ownBlock=some b) w w'):
  Calls prog f args w fun e w'=>e= .returned U∧Duo n0 Z w' d r s1 g1 s2' g2'∧Dw.Mv (fun b=> ¬Z b) w w':=by
 obtain ⟨lv,h1,h2,h3⟩:=h.ex;exact (hc _ _ h2).mono fun e w' hh=>by
  obtain ⟨rfl,dV,q1,q2,q3⟩:=hh;exact ⟨rfl,h.Va h1 h3 q1 q2 q3⟩
theorem Tryz.zGA (h:Duo n0 Z w d r s1 g1 s2 g2) {f:FuncId} {args:Array Value} {U:Value} (hc:GM w d.P d.L d.Bs d.B 20000 g1→Calls prog f args w fun e w'=>e= .returned U∧GM w' d.P d.L d.Bs d.B 20000 g1'∧Mv (· =d.B) w w'):
  Calls prog f args w fun e w'=>e= .returned U∧Duo n0 Z w' d r s1 g1' s2 g2∧Dw.Mv (fun b=> ¬Z b) w w':=by
 obtain ⟨lv,h1,h2,h3⟩:=h.ex;refine (hc h1.mem).mono fun e w' hh=>⟨hh.1,?_⟩;have hm:Dw.Mv (sK d.S d.M d.B) w w':=⟨hh.2.2.os,hh.2.2.tape,hh.2.2.output,hh.2.2.size,fun b hb hn=>hh.2.2.block b hb fun e=>hn (.inr (.inr e))⟩;have hB: ∀b,b<w.heap.size→b≠d.B→w'.heap[b]? =w.heap[b]? :=fun b hb hn=>hh.2.2.block b hb hn;have bU:=h1.kA hm;obtain ⟨nv,sv,o1,o2,o3⟩:=h1.aj.obj;exact h.U9 h2 h3 (h1.next hm hh.2.1 ⟨nv,sv,by
  obtain ⟨arr,e,q1,q2⟩:=o1;exact ⟨arr,e,(hB _ h1.aj.rO (fun e=>h1.sd.2.2.2 e)).trans q1,q2⟩,o2.kept bU,o3.kept bU⟩ (h1.aj.tk.kept (hB _ h1.aj.tO fun e=>h1.md.2.2.2 e) bU) h1.aj.nx h1.aj.us h1.aj.hd h1.aj.wr) hm
theorem Tryz.zGz (h:Duo n0 Z w d r s1 g1 s2 g2) {f:FuncId} {args:Array Value} {U:Value} (hc:bO w d.P2 d.L2 d.ji d.B2 20000 g2→Calls prog f args w fun e w'=>e= .returned U∧bO w' d.P2 d.L2 d.ji d.B2 20000 g2'∧Mv (· =d.B2) w w'):
  Calls prog f args w fun e w'=>e= .returned U∧Duo n0 Z w' d r s1 g1 s2 g2'∧Dw.Mv (fun b=> ¬Z b) w w':=by
 obtain ⟨lv,h1,h2,h3⟩:=h.ex;refine (hc h2.rm).mono fun e w' hh=>⟨hh.1,?_⟩;have hm:Dw.Mv (fun b=>b=d.S2∨b=d.B2) w w':=⟨hh.2.2.os,hh.2.2.tape,hh.2.2.output,hh.2.2.size,fun b hb hn=>hh.2.2.block b hb fun e=>hn (.inr e)⟩;obtain ⟨sv,vs,q1,q2,q3⟩:=h2.obj;refine h.Va h1 h3 (h2.abx hm hh.2.1 (q1.kept (hh.2.2.block _ q1.lt fun e=>h2.sd.2.2.2 e)) (q2.Il fun b hb hn=>hm.block b hb fun e=>hn (.inl ?_)) rfl h2.pb h2.dn) (fun b e=> .inl e) (hm.mono fun b e=>e.imp_right .inl);rcases e with e|e
 ·rw [e];exact h2.aS
 ·rw [e];exact h2.aB
end
end Go.Proofs
namespace Go.Proofs
open Go.Dw Go.RowKit Go.Maps Go.Sort Go.Deep
theorem Tryz.QA (s:SS):oo s.tk=pK s:=by
 unfold pK;have h1:(s.tk.map (·.1)).Perm (oo s.tk):=by simpa [oo] using (Pw s.tk []).symm
 rw [mergeSort_of_perm_i h1];refine (List.mergeSort_of_pairwise ?_).symm;exact (WL s.tk List.Pairwise.nil).imp fun h=>by simpa [leI] using h
set_option maxRecDepth 100000 in
theorem Tryz.zuS {A B:Nat→Prop} {w:World} {op hd wr:Int} {nn it:Bool} {u1 u2:Value} {l:List Sg} (h1:aL A w u1 l) (h2:aL B w u2 l) (hl:l.length<4000000):
    Calls prog 44 #[.agg #[.int .i64 op,.bool nn,.int .i64 hd,u1,.int .u32 wr,.bool it],.agg #[.int .i64 op,.bool nn,.int .i64 hd,u2,.int .u32 wr,.bool it]] w fun e w'=>e= .returned (.bool true)∧Below w.heap.size w w':=by
  have hsm:=fun w1 (hb:Below w.heap.size w w1)=>zn5 (aL.below h1 hb) (aL.below h2 hb) hl hl;simp only [ydE] at hsm;obtain ⟨sa,c,rfl,_⟩:=h1;obtain ⟨sb,d,rfl,_⟩:=h2;have hb1:=(yag w.heap.size w).alloc (yab _) (Obj.cells #[.int .i64 op,.bool nn,.int .i64 hd,.slice sa l.length c,.int .u32 wr,.bool it] 53);have hb2:=hb1.alloc (by simp) (Obj.cells #[.int .i64 op,.bool nn,.int .i64 hd,.slice sb l.length d,.int .u32 wr,.bool it] 53);have hs:=hsm _ hb2;have ka:=(Cl.new w #[.int .i64 op,.bool nn,.int .i64 hd,.slice sa l.length c,.int .u32 wr,.bool it] 53).alloc (Obj.cells #[.int .i64 op,.bool nn,.int .i64 hd,.slice sb l.length d,.int .u32 wr,.bool it] 53);have kb:=Cl.new2 (w:=w.alloc (Obj.cells #[.int .i64 op,.bool nn,.int .i64 hd,.slice sa l.length c,.int .u32 wr,.bool it] 53)) (b:=w.heap.size+1) (arr:= #[.int .i64 op,.bool nn,.int .i64 hd,.slice sb l.length d,.int .u32 wr,.bool it]) (t:=53) (by simp);clear hsm;go_enter func44,ntmps44;go_wp2_with (first
    | (go_at_call 16;refine hs.mono ?_;rintro e w3 ⟨rfl,hb3⟩;have ja:=ka.below hb3 ka.lt;have jb:=kb.below hb3 kb.lt;have a4:=ja.cell 4 _ rfl;have a5:=ja.cell 5 _ rfl;have b4:=jb.cell 4 _ rfl;have b5:=jb.cell 5 _ rfl)
    | go_in)
  go_ret;exact ⟨rfl,hb2.trans (hb3.mono hb2.size)⟩
set_option maxRecDepth 100000 in
theorem Tryz.zA3 {w:World} {G c:Nat} {xs:List Int} (hG:w.rangeAt G 0 (iG xs)) (hl:xs.length≤1000) (hl0:0<xs.length):
    Calls prog 75 #[.slice (some ⟨G,0,none⟩) xs.length c] w fun e w'=> ∃u,e= .returned u∧aG 5 1 w' w.heap.size u xs.length (iG xs)∧Below w.heap.size w w':=by
  obtain ⟨i,hi,i1,i2,i3⟩:=ybl Ar;have hoe:=EN w 5 1;have hlen:(iG xs).length=xs.length:=by simp [iG]
  have hone: ∀u∈iG xs,u.oneCell'=true:=fun u hu=>by
    obtain ⟨x,_,rfl⟩:=ya6.1 hu;rfl
  have uL:G<w.heap.size:=yan w _ (hG 0 _ (yam (by rw [hlen];exact hl0)));have hba:=(yag w.heap.size w).alloc (yab _) (Obj.cells #[] 5);have hnews: ∀j u,(iG xs)[j]? =some u→(w.alloc (Obj.cells #[] 5)).cell? ((⟨G,0,none⟩:Addr).add j)=some u:=fun j u hj=>by
    rw [Dw.addr_add];exact (hba.cell (p:=⟨G,0+j,none⟩) uL).trans (hG j u hj)
  clear hl0;go_enter func75,ntmps75;go_wp2_with (first
    | (at_builtin;go_loud (refine ya4 _ rfl _ _ 77 rfl w.heap.size 5 i _ 1 1 (by kernel_rfl) hi i1 i2 i3 rfl (by decide) (.slice (some ⟨w.heap.size,0,none⟩) 0 0) 0 [] rfl hoe ⟨G,0,none⟩ xs.length c (iG xs) rfl (by omega) hnews hone (by unfold maxLen;omega) (by omega) (by simp) ?_);intro u wa h2 h3 h4 h5;go_frame)
    | go_in)
  go_ret;have iC:Below w.heap.size w wa:=⟨h3.os,h3.tape,h3.output,yau hba.size h3.size,fun b hb=>(h3.block b (by simp;omega) (fun e=>by simp [Value.ownBlock] at e;omega)).trans (hba.block b hb)⟩;refine ⟨u,rfl,?_,iC⟩;unfold aG;simpa using h2
set_option maxRecDepth 100000 in
theorem Tryz.zFz:prog.underlying 123=some (.map 3 36)∧prog.underlying 3=some (.int .i64):=⟨by kernel_rfl,by kernel_rfl⟩
set_option maxRecDepth 100000 in
theorem Tryz.zF6:(prog.info? 36).map (fun i=>(i.zero,i.size,i.bytes))=some (some (.slice none 0 0),1,24):=by kernel_rfl
set_option maxRecDepth 100000 in
theorem Tryz.zFg (w:World):(zeroValue 36).run prog w= .ok (.slice none 0 0) w:=by
 obtain ⟨i,hi,i1,_⟩:=ybl zF6;simp [zeroValue,typeInfo,hi,i1]
theorem Tryz.zGq {A:Nat→Prop} {w:World} {M:Nat} {tk:List (Int×List Sg)} (h:kK A w M tk) (id:Int):
  (dP id tk=none→(Instr.lookup 123 (.map (some M)) (.int .i64 id) true).run prog w= .ok (.tuple #[.slice none 0 0,.bool false]) w)∧
  ∀ t,dP id tk=some t→ ∃v,aL A w v t∧(Instr.lookup 123 (.map (some M)) (.int .i64 id) true).run prog w= .ok (.tuple #[v,.bool true]) w:=by
 obtain ⟨arr,clock,h3,⟨hwf,_⟩,hv⟩:=h.map;obtain ⟨hu,hkt⟩:=zFz;have wX:Gu w (.map (some M)) arr:= .inr ⟨M,clock,rfl,h3⟩;rcases zM (kk:= .i64) (n:=id) arr.toList 0 hwf.keys with ⟨e1,e2⟩|⟨p,e,e1,e2,e3⟩
 ·refine ⟨fun _=>O9 hu hkt (.inl ⟨_,rfl⟩) wX e1 (zFg w),fun t ht=> ?_⟩;obtain ⟨v,h1,_⟩:=(hv id).2 t ht;rw [zN e2] at h1;cases h1
 ·have hm:=uf hwf (ya9 e2) e3;refine ⟨fun hn=> ?_,fun t ht=> ?_⟩
  ·rw [(hv id).1 hn] at hm;cases hm
  ·obtain ⟨v,h1,h2⟩:=(hv id).2 t ht;rw [h1] at hm;refine ⟨v,h2,?_⟩;rw [yaC hm];exact Pg hu hkt (.inl ⟨_,rfl⟩) wX e1
section
variable {A:Nat→Prop} {w:World} {S P L Bs B M N:Nat} {r:Tryz.Rg} {s:Tryz.SS} {g:Nat→Int}
set_option maxRecDepth 100000 in
theorem Tryz.zzn (h:SW A w S P L Bs B M N r s g) (hlen: ∀e∈s.tk,e.2.length≤1000000) (id:Int):
    Calls prog 42 #[.pointer (some ⟨S,0,none⟩),.int .i64 id] w fun e w'=> ∃u,e= .returned (.tuple #[u,.bool (dP id s.tk).isSome])∧cO w' w.heap.size u (zW s id)∧Below w.heap.size w w':=by
  have hm:=Ch h.aj;obtain ⟨nv,sv,ho,_,hsv⟩:=h.aj.obj;have c11:=kV ho (i:=11) rfl;obtain ⟨l1,l2⟩:=zGq h.aj.tk id;unfold zW;clear ho;cases hg:dP id s.tk with
  | none=>
    have hlk:=l1 hg;have hcl:=JW (w:=w) (v:= .slice none 0 0) (l:= []) (A:=fun _=>False) aL.none (by simp);clear l1 l2;go_enter func42,ntmps42;go_wp2_with (first
      | (go_at_call 56;refine hm.mono ?_;rintro e w' ⟨rfl,hw⟩;have hw:=hw.symm;subst hw)
      | (go_at_call 57;refine hcl.mono ?_;rintro e w2 ⟨u,rfl,hu,hb2⟩)
      | go_in)
    go_ret2;exact ⟨u,rfl,hu,hb2⟩
  | some t=>
    obtain ⟨v,hv,hlk⟩:=l2 t hg;have hln:=hlen _ (Fe hg);have hcl:=JW hv hln;clear l1 l2 hln;go_enter func42,ntmps42;go_wp2_with (first
      | (go_at_call 56;refine hm.mono ?_;rintro e w' ⟨rfl,hw⟩;have hw:=hw.symm;subst hw)
      | (go_at_call 57;refine hcl.mono ?_;rintro e w2 ⟨u,rfl,hu,hb2⟩)
      | go_in)
    go_ret2;exact ⟨u,rfl,hu,hb2⟩
set_option maxRecDepth 100000 in
theorem Tryz.zy2 (h:SW A w S P L Bs B M N r s g) (hd:(s.ph≠0∨s.br=true)→s.dn=false) (hln:s.sg.length≤1000000):
    Calls prog 15 #[.pointer (some ⟨S,0,none⟩)] w fun e w'=> ∃u,e= .returned (.tuple #[.agg #[.int .i64 s.out.op,.bool s.out.nn,.int .i64 s.out.hd,u,.int .u32 s.out.wr,.bool s.out.it],.bool s.has])∧cO w' w.heap.size u s.out.sg∧Below w.heap.size w w':=by
  by_cases hdn:s.ph=0∧s.dn=true
  · have e1:s.out=s:=by unfold SS.out;rw [yak hdn]
    have e2:s.has=true:=by unfold SS.has;rw [hdn.1,hdn.2];rfl
    rw [e1,e2];refine zBP h.aj hdn.1 ?_ hdn.2 hln;cases q:s.br with
    | false=>rfl
    | true=>rw [hd (.inr q)] at hdn;cases hdn.2
  · have e1:s.out= { s with op:=0,nn:=false,hd:=0,sg:= [],wr:=0,it:=false }:=by unfold SS.out;rw [yai hdn]
    have e2:s.has=false:=by
      unfold SS.has;cases q:s.dn with
      | false=>simp
      | true=>simp only [Bool.and_true,yat];exact fun e=>hdn ⟨e,q⟩
    rw [e1,e2];refine yas (show Calls _ _ _ _ fun e w'=>e= .returned (.tuple #[.agg #[.int .i64 0,.bool false,.int .i64 0,.slice none 0 0,.int .u32 0,.bool false],.bool false])∧Below w.heap.size w w' from ?_) fun e w' hh=>⟨_,hh.1,cO.nil _ _,hh.2⟩;have hbx:=(yag w.heap.size w).alloc (yab _) (Obj.cells #[.int .i64 0,.bool false,.int .i64 0,.slice none 0 0,.int .u32 0,.bool false] 53);have k2:=Cl.new w #[.int .i64 0,.bool false,.int .i64 0,.slice none 0 0,.int .u32 0,.bool false] 53;have hm:=Ch (h.below hbx).aj;have hbz:=KH (h.below hbx).aj;obtain ⟨nv,sv,ho,_,hsv⟩:=h.aj.obj;have oJ:=kV ho (i:=19) rfl;have y22:=(hbx.cell (p:=⟨S,19,none⟩) h.aj.rO).trans oJ;clear ho;by_cases hp:s.ph=0
    · have hdf:s.dn=false:=by
        cases q:s.dn with
        | false=>rfl
        | true=>exact absurd ⟨hp,q⟩ hdn
      rw [hdf] at y22;rw [hp] at hbz;clear hdf hdn hd oJ;go_enter func15,ntmps15;go_wp2_with (first
        | (go_at_call 56;refine hm.mono ?_;rintro e w' ⟨rfl,hw⟩;have hw:=hw.symm;subst hw)
        | (go_at_call 27;refine hbz.mono ?_;rintro e w' ⟨rfl,hw⟩;have hw:=hw.symm;subst hw)
        | go_in)
      refine yaI (gI rfl _ _ w.heap.size [.int .i64 0,.bool false,.int .i64 0,.slice none 0 0,.int .u32 0,.bool false] _ rfl (fun j y hy=>by rw [yaq];exact k2.cell j y hy) underlying53 rfl (by kernel_rfl)) rfl ?_;exact ⟨rfl,hbx⟩
    · rw [ya1 hp] at hbz;clear hdn hd hp;go_enter func15,ntmps15;go_wp2_with (first
        | (go_at_call 56;refine hm.mono ?_;rintro e w' ⟨rfl,hw⟩;have hw:=hw.symm;subst hw)
        | (go_at_call 27;refine hbz.mono ?_;rintro e w' ⟨rfl,hw⟩;have hw:=hw.symm;subst hw)
        | go_in)
      refine yaI (gI rfl _ _ w.heap.size [.int .i64 0,.bool false,.int .i64 0,.slice none 0 0,.int .u32 0,.bool false] _ rfl (fun j y hy=>by rw [yaq];exact k2.cell j y hy) underlying53 rfl (by kernel_rfl)) rfl ?_;exact ⟨rfl,hbx⟩
end
end Go.Proofs
namespace Go.Proofs
open Go.Dw Go.RowKit Go.Maps Go.Sort Go.Deep
set_option maxRecDepth 100000 in
theorem Tryz.zxb {w:World} {P:Nat} {r:Rg} {ev tb:Bool}:
  Calls prog 33 #[.pointer (some ⟨P,0,none⟩),r.val,.agg #[.bool ev,.bool tb,.bool true]] w fun e w'=>e= .returned (.tuple #[.pointer none,.int .i64 2])∧Below w.heap.size w w':=by
 have hb:=((yag w.heap.size w).alloc (yab _) (Obj.cells #[.bool false,.int .i64 r.n,.int .u64 r.d,.int .u64 r.v,.int .u64 r.c] 32)).alloc (by simp) (Obj.cells #[.bool ev,.bool tb,.bool true] 23);unfold Rg.val;go_enter func33,ntmps33;go_wp2_with fail;go_ret2;exact ⟨rfl,hb⟩
set_option maxRecDepth 100000 in
theorem Tryz.zA9 {w:World} {P L Bs B N:Nat} {g:Nat→Int} {r:Rg} {ev tb:Bool} (st:GM w P L Bs B N g):
    Calls prog 32 #[.pointer (some ⟨P,0,none⟩),r.val,.agg #[.bool ev,.bool tb,.bool true]] w fun e w'=>e= .returned (.tuple #[.pointer none,.int .i64 2])∧Below w.heap.size w w':=by
  have l7: ∀x y tx ty,GM ((w.alloc (.cells x tx)).alloc (.cells y ty)) P L Bs B N g:=fun x y tx ty=>(st.below ((yag _ w).alloc (yab _) _)).below ((yag _ _).alloc (yab _) _);have hb:=((yag w.heap.size w).alloc (yab _) (Obj.cells #[.bool false,.int .i64 r.n,.int .u64 r.d,.int .u64 r.v,.int .u64 r.c] 32)).alloc (by simp) (Obj.cells #[.bool ev,.bool tb,.bool true] 23);unfold Rg.val;go_enter func32,ntmps32;go_wp2_with (first
    | (go_at_call 71;refine (EY P L Bs B N 0 g _ (l7 _ _ _ _)).mono ?_;rintro e w' ⟨rfl,hw⟩;have hw:=hw.symm;subst hw)
    | go_in)
  go_ret2;exact ⟨rfl,hb⟩
theorem Tryz.zEJ {n0:Nat} {Z:Nat→Prop} {w:World} {d:gB} {r:Rg} {ev tb:Bool} (hd:d.ok n0) (hb2:d.b2=w.heap.size) (hn0:n0≤w.heap.size) (hg:GM w d.P d.L d.Bs d.B 20000 (fun _=>0)) (hg2:bO w d.P2 d.L2 d.ji d.B2 20000 (fun _=>0)) (hso: ∀A:Nat→Prop,A d.S→A d.M→iq A w d.S d.P d.M r (SS.fresh ev tb)) (hy:Cl w d.S2 ((SS.fresh ev tb).aI r d.P2 (.slice none 0 0) (.slice none 0 0))) (fQ:RgOk r) (hfit:r.d+16*r.n≤((20000:Nat):Int)∧r.v+6+2*r.n≤((20000:Nat):Int)∧r.c+6+8*r.n≤((20000:Nat):Int)) (hZ: ∀b,Z b→b<n0∨b=d.X7∨b=d.XB):Duo n0 Z w d r (SS.fresh ev tb) (fun _=>0) (SS.fresh ev tb) (fun _=>0):=by
 have HY:d.S<w.heap.size:=(hso (fun _=>True) trivial trivial).rO;have NA:d.M<w.heap.size:=(hso (fun _=>True) trivial trivial).tO;have o8:(0:Int)≤0∧(0:Int)<65536:=by decide
 have z32:(0:Int)≤0∧(0:Int)<4294967296:=by decide
 have hpb:eF (SS.fresh ev tb):=⟨o8,o8,o8,z32,.inl (yax _),fun h7=>absurd h7 (by show¬11≤0;decide)⟩;obtain ⟨n1,n2,n3,n4,n5,q1,q2,⟨q3,q4,q5,q6⟩,⟨q7,q8,q9,tT⟩,⟨q11,q12,q13,Oo⟩,⟨q15,q16,q17,q18⟩,⟨q25,q26⟩,⟨q19,Oq⟩,⟨Ot,q22⟩,q23,q24⟩:=hd.ex;have hlB:=hg.bl;have abQ:=hg2.bl;have abR:=hy.lt;have hA: ∀b,d.A b→b<w.heap.size:=fun b hb=>by rcases hb with rfl|rfl|rfl|rfl|rfl<;>omega
 refine ⟨⟨.slice none 0 0,⟨hso _ (.inl (.inl (.inl rfl))) (.inl (.inl (.inr (.inl rfl)))),hg,by decide,⟨by omega,by omega,by omega,by omega⟩,⟨by omega,by omega,by omega,by omega⟩,.inl (.inl (.inr (.inr (.inl rfl)))),fun b hb=> ?_,hfit⟩,
  ⟨⟨_,[],hy,aL.none,⟨rfl,⟨3,aG.nil 3 2 w d.b2⟩,fun i h=>(by cases h)⟩⟩,hg2,.inl (.inr (.inr (.inr (.inl rfl)))),.inl (.inr (.inr (.inr (.inr rfl)))),fun b hb=> ?_,⟨by omega,by omega,by omega,by omega,by omega⟩,by omega,⟨by omega,by omega,by omega,by omega⟩,fQ,hpb,by decide,hfit,fun q=>(by rcases q with q|q;exact absurd rfl q;cases q),fun e he=>(by cases he),by simp [SS.fresh]⟩,fun b e=>(by cases e)⟩,hd,fun b hb=> ?_⟩
 ·rcases hb with (hb|hb)|hb
  ·exact hA b hb
  ·rcases hZ b hb with q|q|q<;>omega
  ·cases hb
 ·rcases hb with hb|hb
  ·exact hA b hb
  ·rcases hZ b hb with q|q|q<;>omega
 ·have hne:=hd.ne;rcases hZ b hb with q|q|q
  ·exact ⟨by omega,hne.2.2.2.2.2.2 b q⟩
  ·exact ⟨by omega,q▸hne.2.2.2.2.1.1⟩
  ·exact ⟨by omega,q▸hne.2.2.2.2.2.1.1⟩
end Go.Proofs
namespace Go.Proofs
theorem Tryz.zpW {n:Nat} (l:List Value) (h:l.length=n):(⟨l⟩:Array Value)=((List.range n).map fun i=>(⟨l⟩:Array Value).getD i undef).toArray:=by
 refine ycY ?_;refine ydo fun i=> ?_;simp only [ya5];by_cases hi:i<n
 ·rw [yam (by omega:i<l.length),ybY hi];simp [yaA,h,hi]
 ·rw [yaZ (by omega),yaZ (by simp;omega)];rfl
set_option maxRecDepth 100000 in
theorem Tryz.KN {t:Array Value} (h:t.size=323) {v0 v2 v7 v8 v10 v12 v14 v15 v16 v17 v18 v19 v20 v21 v22:Value} (h0:t.getD 0 undef=v0) (h2:t.getD 2 undef=v2) (h7:t.getD 7 undef=v7) (h8:t.getD 8 undef=v8) (h10:t.getD 10 undef=v10) (h12:t.getD 12 undef=v12) (Mx:t.getD 14 undef=v14) (MB:t.getD 15 undef=v15) (h16:t.getD 16 undef=v16) (MC:t.getD 17 undef=v17) (h18:t.getD 18 undef=v18) (h19:t.getD 19 undef=v19) (h20:t.getD 20 undef=v20) (h21:t.getD 21 undef=v21) (h22:t.getD 22 undef=v22):
  ∃ j:Nat→Value,t= #[v0,j 1,v2,j 3,j 4,j 5,j 6,v7,v8,j 9,v10,j 11,v12,j 13,v14,v15,v16,v17,v18,v19,v20,v21,v22,j 23,j 24,j 25,j 26,j 27,j 28,j 29,j 30,j 31,j 32,j 33,j 34,j 35,j 36,j 37,j 38,j 39,j 40,j 41,j 42,j 43,j 44,j 45,j 46,j 47,j 48,j 49,j 50,j 51,j 52,j 53,j 54,j 55,j 56,j 57,j 58,j 59,j 60,j 61,j 62,j 63,j 64,j 65,j 66,j 67,j 68,j 69,j 70,j 71,j 72,j 73,j 74,j 75,j 76,j 77,j 78,j 79,j 80,j 81,j 82,j 83,j 84,j 85,j 86,j 87,j 88,j 89,j 90,j 91,j 92,j 93,j 94,j 95,j 96,j 97,j 98,j 99,j 100,j 101,j 102,j 103,j 104,j 105,j 106,j 107,j 108,j 109,j 110,j 111,j 112,j 113,j 114,j 115,j 116,j 117,j 118,j 119,j 120,j 121,j 122,j 123,j 124,j 125,j 126,j 127,j 128,j 129,j 130,j 131,j 132,j 133,j 134,j 135,j 136,j 137,j 138,j 139,j 140,j 141,j 142,j 143,j 144,j 145,j 146,j 147,j 148,j 149,j 150,j 151,j 152,j 153,j 154,j 155,j 156,j 157,j 158,j 159,j 160,j 161,j 162,j 163,j 164,j 165,j 166,j 167,j 168,j 169,j 170,j 171,j 172,j 173,j 174,j 175,j 176,j 177,j 178,j 179,j 180,j 181,j 182,j 183,j 184,j 185,j 186,j 187,j 188,j 189,j 190,j 191,j 192,j 193,j 194,j 195,j 196,j 197,j 198,j 199,j 200,j 201,j 202,j 203,j 204,j 205,j 206,j 207,j 208,j 209,j 210,j 211,j 212,j 213,j 214,j 215,j 216,j 217,j 218,j 219,j 220,j 221,j 222,j 223,j 224,j 225,j 226,j 227,j 228,j 229,j 230,j 231,j 232,j 233,j 234,j 235,j 236,j 237,j 238,j 239,j 240,j 241,j 242,j 243,j 244,j 245,j 246,j 247,j 248,j 249,j 250,j 251,j 252,j 253,j 254,j 255,j 256,j 257,j 258,j 259,j 260,j 261,j 262,j 263,j 264,j 265,j 266,j 267,j 268,j 269,j 270,j 271,j 272,j 273,j 274,j 275,j 276,j 277,j 278,j 279,j 280,j 281,j 282,j 283,j 284,j 285,j 286,j 287,j 288,j 289,j 290,j 291,j 292,j 293,j 294,j 295,j 296,j 297,j 298,j 299,j 300,j 301,j 302,j 303,j 304,j 305,j 306,j 307,j 308,j 309,j 310,j 311,j 312,j 313,j 314,j 315,j 316,j 317,j 318,j 319,j 320,j 321,j 322]:=by
 subst h0 h2 h7 h8 h10 h12 Mx MB h16 MC h18 h19 h20 h21 h22;obtain ⟨l⟩:=t;exact ⟨fun i=>(⟨l⟩:Array Value).getD i undef,zpW l h⟩
set_option maxRecDepth 100000 in
theorem Tryz.Aa {t:Array Value} (h:t.size=323) {v0 v2 v7 v8 v10 v12 v14 v15 v16 v17 v18 v19 v20 v21 v22 Vf:Value} (h0:t.getD 0 undef=v0) (h2:t.getD 2 undef=v2) (h7:t.getD 7 undef=v7) (h8:t.getD 8 undef=v8) (h10:t.getD 10 undef=v10) (h12:t.getD 12 undef=v12) (Mx:t.getD 14 undef=v14) (MB:t.getD 15 undef=v15) (h16:t.getD 16 undef=v16) (MC:t.getD 17 undef=v17) (h18:t.getD 18 undef=v18) (h19:t.getD 19 undef=v19) (h20:t.getD 20 undef=v20) (h21:t.getD 21 undef=v21) (h22:t.getD 22 undef=v22) (jJ:t.getD 104 undef=Vf):
  ∃ j:Nat→Value,t= #[v0,j 1,v2,j 3,j 4,j 5,j 6,v7,v8,j 9,v10,j 11,v12,j 13,v14,v15,v16,v17,v18,v19,v20,v21,v22,j 23,j 24,j 25,j 26,j 27,j 28,j 29,j 30,j 31,j 32,j 33,j 34,j 35,j 36,j 37,j 38,j 39,j 40,j 41,j 42,j 43,j 44,j 45,j 46,j 47,j 48,j 49,j 50,j 51,j 52,j 53,j 54,j 55,j 56,j 57,j 58,j 59,j 60,j 61,j 62,j 63,j 64,j 65,j 66,j 67,j 68,j 69,j 70,j 71,j 72,j 73,j 74,j 75,j 76,j 77,j 78,j 79,j 80,j 81,j 82,j 83,j 84,j 85,j 86,j 87,j 88,j 89,j 90,j 91,j 92,j 93,j 94,j 95,j 96,j 97,j 98,j 99,j 100,j 101,j 102,j 103,Vf,j 105,j 106,j 107,j 108,j 109,j 110,j 111,j 112,j 113,j 114,j 115,j 116,j 117,j 118,j 119,j 120,j 121,j 122,j 123,j 124,j 125,j 126,j 127,j 128,j 129,j 130,j 131,j 132,j 133,j 134,j 135,j 136,j 137,j 138,j 139,j 140,j 141,j 142,j 143,j 144,j 145,j 146,j 147,j 148,j 149,j 150,j 151,j 152,j 153,j 154,j 155,j 156,j 157,j 158,j 159,j 160,j 161,j 162,j 163,j 164,j 165,j 166,j 167,j 168,j 169,j 170,j 171,j 172,j 173,j 174,j 175,j 176,j 177,j 178,j 179,j 180,j 181,j 182,j 183,j 184,j 185,j 186,j 187,j 188,j 189,j 190,j 191,j 192,j 193,j 194,j 195,j 196,j 197,j 198,j 199,j 200,j 201,j 202,j 203,j 204,j 205,j 206,j 207,j 208,j 209,j 210,j 211,j 212,j 213,j 214,j 215,j 216,j 217,j 218,j 219,j 220,j 221,j 222,j 223,j 224,j 225,j 226,j 227,j 228,j 229,j 230,j 231,j 232,j 233,j 234,j 235,j 236,j 237,j 238,j 239,j 240,j 241,j 242,j 243,j 244,j 245,j 246,j 247,j 248,j 249,j 250,j 251,j 252,j 253,j 254,j 255,j 256,j 257,j 258,j 259,j 260,j 261,j 262,j 263,j 264,j 265,j 266,j 267,j 268,j 269,j 270,j 271,j 272,j 273,j 274,j 275,j 276,j 277,j 278,j 279,j 280,j 281,j 282,j 283,j 284,j 285,j 286,j 287,j 288,j 289,j 290,j 291,j 292,j 293,j 294,j 295,j 296,j 297,j 298,j 299,j 300,j 301,j 302,j 303,j 304,j 305,j 306,j 307,j 308,j 309,j 310,j 311,j 312,j 313,j 314,j 315,j 316,j 317,j 318,j 319,j 320,j 321,j 322]:=by
 subst h0 h2 h7 h8 h10 h12 Mx MB h16 MC h18 h19 h20 h21 h22 jJ;obtain ⟨l⟩:=t;exact ⟨fun i=>(⟨l⟩:Array Value).getD i undef,zpW l h⟩
open Go.Dw Go.RowKit Go.Maps Go.Sort Go.Deep
structure Tryz.Rf (r:Rg) (tot:Nat) (d:gB) (av:Value) (j:Nat) (E:Int) (x20:Nat) (tm:Array Value):Prop where
 sz:tm.size=323
 t0:tm.getD 0 undef= .int .i64 r.n
 t2:tm.getD 2 undef=av
 t7:tm.getD 7 undef= .pointer (some ⟨d.X7,0,none⟩)
 t8:tm.getD 8 undef= .int .u64 tot
 t10:tm.getD 10 undef= .pointer (some ⟨d.P,0,none⟩)
 t12:tm.getD 12 undef= .pointer (some ⟨d.P2,0,none⟩)
 t14:tm.getD 14 undef= .pointer (some ⟨d.XB,0,none⟩)
 t15:tm.getD 15 undef= .pointer (some ⟨d.S,0,none⟩)
 t16:tm.getD 16 undef= .int .i64 E
 t17:tm.getD 17 undef= .pointer (some ⟨d.S2,0,none⟩)
 t18:tm.getD 18 undef= .int .i64 E
 t19:tm.getD 19 undef= .int .i64 j
 t20:tm.getD 20 undef= .pointer (some ⟨x20,0,none⟩)
 t21:tm.getD 21 undef= .pointer (some ⟨x20+1,0,none⟩)
 t22:tm.getD 22 undef= .pointer (some ⟨x20+1+1,0,none⟩)
def Tryz.ng (n0:Nat) (d:gB) (x20 b:Nat):Prop:=b<n0∨b=d.X7∨b=d.XB∨b=x20∨b=x20+1∨b=x20+1+1
def Tryz.Rg.cells (r:Rg):List Value:= [.bool false,.int .i64 r.n,.int .u64 r.d,.int .u64 r.v,.int .u64 r.c]
def Tryz.jg (x y z:Int):List Value:= [.int .i64 x,.int .i64 y,.int .i64 z]
def Tryz.rZ (d:gB) (xn:Nat):List Value:= [.pointer (some ⟨d.P,0,none⟩),.pointer (some ⟨d.P2,0,none⟩),.int .i64 xn]
structure Tryz.Rw (W0:World) (d:gB) (r:Rg) (x20:Nat) (c:Ac) (xn:Nat) (w:World) (s1:SS) (g1:Nat→Int) (s2:SS) (g2:Nat→Int) (p1 p2:List Value):Prop where
 duo:Duo W0.heap.size (ng W0.heap.size d x20) w d r s1 g1 s2 g2
 x7:Cl w d.X7 r.cells
 xb:Cl w d.XB (rZ d xn)
 act:Cl w x20 c.cells
 k21:Cl w (x20+1) p1
 k22:Cl w (x20+1+1) p2
 old:Below W0.heap.size W0 w
section
variable {W0:World} {d:Tryz.gB} {r:Tryz.Rg} {x20 xn IL:Nat} {c:Tryz.Ac} {w w':World} {s1 s1':Tryz.SS} {g1 g1':Nat→Int} {s2 s2':Tryz.SS} {g2 g2':Nat→Int} {p1 p2 rR UK:List Value}
theorem Tryz.Rw.below (h:Rw W0 d r x20 c xn w s1 g1 s2 g2 p1 p2) (hb:Below w.heap.size w w'):Rw W0 d r x20 c xn w' s1 g1 s2 g2 p1 p2:=
 ⟨h.duo.below hb,h.x7.below hb h.x7.lt,h.xb.below hb h.xb.lt,h.act.below hb h.act.lt,h.k21.below hb h.k21.lt,h.k22.below hb h.k22.lt,h.old.trans (hb.mono h.old.size)⟩
theorem Tryz.Rw.turn (h:Rw W0 d r x20 c xn w s1 g1 s2 g2 p1 p2) (hd:Duo W0.heap.size (ng W0.heap.size d x20) w' d r s1' g1' s2' g2') (hm:Dw.Mv (fun b=> ¬ng W0.heap.size d x20 b) w w'):Rw W0 d r x20 c xn w' s1' g1' s2' g2' p1 p2:=
 ⟨hd,h.x7.kept (hm.block _ h.x7.lt fun q=>q (.inr (.inl rfl))),h.xb.kept (hm.block _ h.xb.lt fun q=>q (.inr (.inr (.inl rfl)))),h.act.kept (hm.block _ h.act.lt fun q=>q (.inr (.inr (.inr (.inl rfl))))),h.k21.kept (hm.block _ h.k21.lt fun q=>q (.inr (.inr (.inr (.inr (.inl rfl)))))),h.k22.kept (hm.block _ h.k22.lt fun q=>q (.inr (.inr (.inr (.inr (.inr rfl)))))),
  ⟨hm.os.trans h.old.os,hm.tape.trans h.old.tape,hm.output.trans h.old.output,yau h.old.size hm.size,fun b hb=>(hm.block b (yad hb h.old.size) fun q=>q (.inl hb)).trans (h.old.block b hb)⟩⟩
theorem Tryz.Rw.Vb {Z:Nat→Prop} (h:Rw W0 d r x20 c xn w s1 g1 s2 g2 p1 p2) (hz: ∀b,ng W0.heap.size d x20 b→Z b) (hd:Duo W0.heap.size Z w' d r s1' g1' s2' g2') (hm:Dw.Mv (fun b=> ¬Z b) w w'):Rw W0 d r x20 c xn w' s1' g1' s2' g2' p1 p2:=
 h.turn (hd.set hz) (hm.mono fun b q q2=>q (hz b q2))
theorem Tryz.Rw.U8 {Z:Nat→Prop} (h:Rw W0 d r x20 c xn w s1 g1 s2 g2 p1 p2) (hz: ∀b,ng W0.heap.size d x20 b→Z b) (hx:d.X7<d.XB∧d.XB<x20∧W0.heap.size≤d.XB) (hd:Duo W0.heap.size Z w' d r s1' g1' s2' g2') (hk:Cl w' d.XB (rZ d IL)) (hm:Dw.Mv (fun b=>b=d.XB∨ ¬Z b) w w'):Rw W0 d r x20 c IL w' s1' g1' s2' g2' p1 p2:=by
 have hn: ∀b,ng W0.heap.size d x20 b→b≠d.XB→ ¬(b=d.XB∨ ¬Z b):=fun b q hb e=>e.elim hb fun e=>e (hz b q);obtain ⟨h1,h2,h3⟩:=hx;exact ⟨hd.set hz,h.x7.kept (hm.block _ h.x7.lt (hn _ (.inr (.inl rfl)) (by omega))),hk,h.act.kept (hm.block _ h.act.lt (hn _ (.inr (.inr (.inr (.inl rfl)))) (by omega))),h.k21.kept (hm.block _ h.k21.lt (hn _ (.inr (.inr (.inr (.inr (.inl rfl))))) (by omega))),h.k22.kept (hm.block _ h.k22.lt (hn _ (.inr (.inr (.inr (.inr (.inr rfl))))) (by omega))),
  ⟨hm.os.trans h.old.os,hm.tape.trans h.old.tape,hm.output.trans h.old.output,yau h.old.size hm.size,fun b hb=>(hm.block b (yad hb h.old.size) (hn _ (.inl hb) (by omega))).trans (h.old.block b hb)⟩⟩
theorem Tryz.Duo.oks {n0:Nat} {Z:Nat→Prop} (h:Duo n0 Z w d r s1 g1 s2 g2):(∀x∈s2.sg,x.ok)∧(∀e∈s2.tk,∀x∈e.2,x.ok)∧((s2.ph≠0∨s2.br=true)→s2.dn=false):=by
 obtain ⟨lv,_,h2,_⟩:=h.ex;obtain ⟨sv,vs,_,q2,⟨q5,_,q6⟩⟩:=h2.obj;refine ⟨by obtain ⟨_,_,_,q,_⟩:=q2;exact q,fun e he=> ?_,h2.dn⟩;obtain ⟨i,hi,rfl⟩:=ycn.1 he;obtain ⟨_,_,_,q,_⟩:=q6 i hi (by omega);exact q
theorem Tryz.Duo.facts {n0:Nat} {Z:Nat→Prop} (h:Duo n0 Z w d r s1 g1 s2 g2):(∀j,0≤g1 j∧g1 j<256)∧eF s2∧RgOk r∧r.d+16*r.n≤((20000:Nat):Int)∧r.v+6+2*r.n≤((20000:Nat):Int):=by
 obtain ⟨lv,h1,h2,_⟩:=h.ex;exact ⟨h1.mem.byte,h2.pb,h2.rg,h2.fit.1,h2.fit.2.1⟩
theorem Tryz.Rw.UA (h:Rw W0 d r x20 c xn w s1 g1 s2 g2 p1 p2) (hx:d.X7<d.XB∧d.XB<x20∧W0.heap.size≤d.XB) (hm:Dw.Mv (· =x20+1) w w') (hk:Cl w' (x20+1) rR):Rw W0 d r x20 c xn w' s1 g1 s2 g2 rR p2:=
 ⟨h.duo.own (hm.mono fun b e=> .inr (.inr (.inr (.inr (.inl e))))),h.x7.kept (hm.block _ h.x7.lt (by show¬d.X7=x20+1;omega)),h.xb.kept (hm.block _ h.xb.lt (by show¬d.XB=x20+1;omega)),h.act.kept (hm.block _ h.act.lt (by show¬x20=x20+1;omega)),hk,h.k22.kept (hm.block _ h.k22.lt (by show¬x20+1+1=x20+1;omega)),
  ⟨hm.os.trans h.old.os,hm.tape.trans h.old.tape,hm.output.trans h.old.output,yau h.old.size hm.size,fun b hb=>(hm.block b (yad hb h.old.size) (by show¬b=x20+1;omega)).trans (h.old.block b hb)⟩⟩
theorem Tryz.Rw.UB (h:Rw W0 d r x20 c xn w s1 g1 s2 g2 p1 p2) (hx:d.X7<d.XB∧d.XB<x20∧W0.heap.size≤d.XB) (hm:Dw.Mv (· =x20+1+1) w w') (hk:Cl w' (x20+1+1) UK):Rw W0 d r x20 c xn w' s1 g1 s2 g2 p1 UK:=
 ⟨h.duo.own (hm.mono fun b e=> .inr (.inr (.inr (.inr (.inr e))))),h.x7.kept (hm.block _ h.x7.lt (by show¬d.X7=x20+1+1;omega)),h.xb.kept (hm.block _ h.xb.lt (by show¬d.XB=x20+1+1;omega)),h.act.kept (hm.block _ h.act.lt (by show¬x20=x20+1+1;omega)),h.k21.kept (hm.block _ h.k21.lt (by show¬x20+1=x20+1+1;omega)),hk,
  ⟨hm.os.trans h.old.os,hm.tape.trans h.old.tape,hm.output.trans h.old.output,yau h.old.size hm.size,fun b hb=>(hm.block b (yad hb h.old.size) (by show¬b=x20+1+1;omega)).trans (h.old.block b hb)⟩⟩
theorem Tryz.KZ {b:Nat} {x y z:Value} {l:List Value} (h:Cl w b l) (hl:l.length=3):Cl (((w.setCell ⟨b,0,none⟩ x).setCell ⟨b,1,none⟩ y).setCell ⟨b,2,none⟩ z) b [x,y,z]∧Dw.Mv (· =b) w (((w.setCell ⟨b,0,none⟩ x).setCell ⟨b,1,none⟩ y).setCell ⟨b,2,none⟩ z):=by
 match l,hl with
 | [u0,u1,u2],_=>exact ⟨((h.set 0 x (by simp)).set 1 y (by simp)).set 2 z (by simp),cZ (K:=(· =b)) (cZ (K:=(· =b)) (cZ (K:=(· =b)) (eO (yag _ _)) b 0 x rfl) b 1 y rfl) b 2 z rfl⟩
end
section
variable {n0:Nat} {Z:Nat→Prop} {d:Tryz.gB} {r:Tryz.Rg} {w w':World} {s1:Tryz.SS} {g1:Nat→Int} {s2:Tryz.SS} {g2:Nat→Int}
theorem Tryz.abD {xs:List Int} {u:Value} {b2 a:Nat} (hd:Duo n0 Z w d r s1 g1 s2 g2) (hu:aG 5 1 w b2 u xs.length (iG xs)) (hx:0<xs.length∧xs.length≤16) (hb: ∀x∈xs,0≤x∧x<256) (ha:a+xs.length≤20000):
  Calls prog 52 #[.pointer (some ⟨d.P,0,none⟩),.int .u64 a,u] w fun e w'=>e= .returned (.int .i64 0)∧Duo n0 Z w' d r s1 (ic g1 a xs) s2 g2∧Dw.Mv (fun b=> ¬Z b) w w':=by
 obtain ⟨sa,c,rfl,hr⟩:=aG.row hu;rcases hr with hr|⟨G,rfl,ho,hG⟩
 ·have:=yaH List.length hr;simp [iG] at this;rw [this] at hx;exact absurd hx.1 (by decide)
 ·exact zGA hd fun hg=>zzF d.P d.L d.Bs d.B 20000 a G 0 c xs g1 w hg (by decide) (by omega) (by omega) hb hG (aG.lt hu G ho).2
theorem Tryz.abE {xs:List Int} {u:Value} {b2 a:Nat} (hd:Duo n0 Z w d r s1 g1 s2 g2) (hu:aG 5 1 w b2 u xs.length (iG xs)) (hx:0<xs.length∧xs.length≤16) (hb: ∀x∈xs,0≤x∧x<256) (ha:a+xs.length≤20000):
  Calls prog 76 #[.pointer (some ⟨d.P2,0,none⟩),.int .u64 a,u] w fun e w'=>e= .returned (.int .i64 0)∧Duo n0 Z w' d r s1 g1 s2 (ic g2 a xs)∧Dw.Mv (fun b=> ¬Z b) w w':=by
 obtain ⟨sa,c,rfl,hr⟩:=aG.row hu;rcases hr with hr|⟨G,rfl,ho,hG⟩
 ·have:=yaH List.length hr;simp [iG] at this;rw [this] at hx;exact absurd hx.1 (by decide)
 ·exact zGz hd fun hg=>zwS d.P2 d.L2 d.ji d.B2 20000 a G 0 c xs g2 w hg (by decide) (by omega) (by omega) hb hG (aG.lt hu G ho).2
theorem Tryz.zGt {xs:List Int} {u:Value} {b2:Nat} (hu:aG 5 1 w b2 u xs.length (iG xs)) (hx:0<xs.length∧xs.length≤16):
  Calls prog 75 #[u] w fun e w'=> ∃u2,e= .returned u2∧aG 5 1 w' w.heap.size u2 xs.length (iG xs)∧Below w.heap.size w w':=by
 obtain ⟨sa,c,rfl,hr⟩:=aG.row hu;rcases hr with hr|⟨G,rfl,ho,hG⟩
 ·have:=yaH List.length hr;simp [iG] at this;rw [this] at hx;exact absurd hx.1 (by decide)
 ·exact zA3 hG (by omega) (by omega)
theorem Tryz.aG.keep {t:TypeId} {sz n:Nat} {b2:Nat} {v:Value} {cs:List Value} (h:aG t sz w b2 v n cs) (hb:Below w.heap.size w w'):aG t sz w' b2 v n cs:=aG.kept h fun b e=>hb.block b (aG.lt h b e).2
set_option maxRecDepth 100000 in
theorem Tryz.Rz {xs:List Int} {u:Value} {b2 a xn:Nat} (hd:Duo n0 Z w d r s1 g1 s2 g2) (hxb:Cl w d.XB (rZ d xn)) (hz:Z d.XB) (hu:aG 5 1 w b2 u xs.length (iG xs)) (hzu: ∀b,u.ownBlock=some b→Z b) (hx:0<xs.length∧xs.length≤16) (hb: ∀x∈xs,0≤x∧x<256) (ha:a+xs.length≤20000):
    Calls prog 36 #[.pointer (some ⟨d.XB,0,none⟩),.int .u64 a,u] w fun e w'=>e= .returned (.tuple #[])∧Duo n0 Z w' d r s1 (ic g1 a xs) s2 (ic g2 a xs)∧Dw.Mv (fun b=> ¬Z b) w w':=by
  have x0:=hxb.cell 0 _ rfl;have x1:=hxb.cell 1 _ rfl;have hbd:=(yag w.heap.size w).drew;have hdd:=hd.below hbd;have hud:=aG.keep hu hbd;have hkd:=hxb.below hbd hxb.lt;go_enter func36,ntmps36;go_wp2_with fail;go_region_held3 (fun w'=>w'.cell? ⟨d.XB,0,none⟩=some (.pointer (some ⟨d.P,0,none⟩))) (go_keep)
    ((first
      | (go_at_call 75;refine (zGt hud hx).mono ?_;rintro en w7 ⟨u2,rfl,hu2,iX⟩;have hd7:=hdd.below iX;have Bo:=hkd.below iX hkd.lt;have Uj:=aG.keep hud iX;have x70:=Bo.cell 0 _ rfl)
      | (go_at_call 52;refine (abD hd7 hu2 hx hb ha).mono ?_;rintro en w8 ⟨rfl,fo,iy⟩;have DU:=Bo.kept (iy.block _ Bo.lt fun q=>q hz);have hu8:=aG.kept Uj fun b e=>iy.block b (aG.lt Uj b e).2 fun q=>q (hzu b e);have x80:=DU.cell 0 _ rfl)))
  all_goals
    clear x1;have x1:=DU.cell 1 _ rfl;go_wp2_with (first
      | (go_at_call 76;refine (abE fo hu8 hx hb ha).mono ?_;rintro en w9 ⟨rfl,DL,jV⟩)
      | go_in)
    go_end0;exact ⟨rfl,DL,((((eO hbd).trans (eO iX))).trans iy).trans jV⟩
end
end Go.Proofs
end
