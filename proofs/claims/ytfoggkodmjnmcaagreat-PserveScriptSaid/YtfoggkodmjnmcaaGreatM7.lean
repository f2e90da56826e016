/-
  Proved: laws on the way to 'PserveScriptProof' (texts QdG6 QdI QdH QdJ Lives6 Enter PserveScriptFacts); no condition.
-/
import Derived.Test.YtfoggkodmjnmcaaGreatM6
import Derived.Deep.CutBlock
import Derived.Laws.BytesArg
import Derived.Deep.RegionLaw
import Derived.Test.YtfoggkodmjnmcaaGreatProg
import Derived.KernelRfl
import Derived.Test.YtfoggkodmjnmcaaGreatRows
import Derived.WalkKit
import Derived.ProofKit
import Derived.OpenShut
set_option linter.unusedSimpArgs false
set_option linter.unusedVariables false
set_option maxHeartbeats 4000000
noncomputable section
namespace Go.Proofs
open Go.Dw Go.RowKit Go.Maps Go.Sort Go.Deep
set_option maxRecDepth 100000 in
theorem Tryz.zAC {W0 w:World} {n:Nat} {d:gB} {r:Rg} {av:Value} {j aL:Nat} {E:Int} {c:Pc} {s:PS} {g:Nat→Int} {tm:Array Value} (hf:Rf n d av j E aL tm) (jI:tm.getD 99 undef= .int .i64 6) (hw:Rw W0 n d r aL c w s g s g (jc 0 0 0) (jc 0 0 0)) (hI:SI s j) (hj:j<60) (hco:c.ok w) (hsl:c.sl.length≤100) (hn:1≤n∧n≤16) (gN:jG r) (hrn:yS r.n n):
    (bJ prog [1,0,1,1,0,0,1,0,0,1,0,1,1,1,1,1,1,1,1,1,1,5]).wp prog (wH W0 n d r av j aL c) ⟨tm,[]⟩ w:=by
  have hal:=hf.sz;obtain ⟨jf,eH⟩:=yw (t:=tm) hf.sz hf.t0 hf.t2 hf.t7 hf.t8 hf.t10 hf.t12 hf.t14 hf.t15 hf.t16 hf.t17 hf.t18 hf.t19 hf.t20 hf.t21 jI;rw [eH];clear eH hal hf jI;obtain ⟨hg,hct,hpb⟩:=hw.duo.facts;have hnx:=hpb.nx;rw [hrn.eq] at hnx;clear hg hct hpb;have c1:=hw.act.cell 1 _ rfl;have c8:=hw.act.cell 8 _ rfl;obtain ⟨b9,b10,abX⟩:=hw.duo.uR;have hsv:=hco.sv;have hn0:=hco.n;clear hco;obtain ⟨l,hl⟩: ∃l,l=c.sl:=⟨_,rfl⟩;obtain ⟨sa,cs,RQ,hok,hsr⟩:=hsv;have aaX: ∀w' (q:Int),0≤q∧q<n→Below w.heap.size w w'→Calls prog 42 #[.agg #[.int .i64 s.nx,.bool s.nw],.int .i64 n,.int .i64 q,.slice sa c.sl.length cs] w' fun e w2=> ∃(u:Value) (er:Int) (ps:List Pt),e= .returned (.tuple #[u,.int .i64 er])∧oM w2 w'.heap.size u ps∧(∀p∈ps,p.ok∧0≤p.aD∧p.aD<n)∧ps.length≤100∧Below w'.heap.size w' w2:=fun w' q hq hb=>by
    have hv:aX (fun _=>False) w' (.slice sa c.sl.length cs) c.sl:=aX.below ⟨sa,cs,rfl,hok,hsr⟩ hb;refine (zpW (n:=n) (a:=s.nx) (x:=s.nw) hv (by omega) (by omega) hnx hq).mono ?_;rintro e w2 ⟨⟨u,rfl,hu⟩,hb2⟩;refine ⟨u,_,_,rfl,hu,zwZ hok (by omega) hnx hq,?_,hb2⟩;unfold Ef;split
    · rw [Du];exact hsl
    · exact yaE _
  rw [RQ] at c8;obtain ⟨q,hq,hq2⟩: ∃q:Int,c.n%(n:Int)=q∧(0≤q∧q<n):=⟨_,rfl,ybP _ (by omega),ybF _ (by omega)⟩;clear hl RQ hok hsr hsl hnx;refine jy (c':=(au 1 (au 0 (au 1 (au 1 (au 0 (au 0 (au 1 (au 0 (au 0 (au 1 (au 0 (au 1 (au 1 (au 1 (au 1 (au 1 (au 1 (au 1 (au 1 (au 1 (au 1 (match (f5).body with|some c=>c|none=> .skip))))))))))))))))))))))) (by kernel_rfl) ?_
  dsimp only [f5,au]
  go_wp2_with fail;go_region_held3 (fun w'=>w'.cell? ⟨aL,1,none⟩=some (.int .i64 c.n)∧w'.cell? ⟨aL,8,none⟩=some (.slice sa c.sl.length cs)∧w'.cell? ⟨d.S2,9,none⟩=some (.int .i64 s.nx)∧w'.cell? ⟨d.S2,10,none⟩=some (.bool s.nw)) (go_keep)
    ((first
      | (go_at_call 7;refine (Dv c.n n (by omega) _).mono ?_;rintro en w3 ⟨rfl,hw3⟩;have hw3:=hw3.symm;subst hw3;rw [hq])
      | (go_at_call 42;refine (aaX _ q hq2 ((yah _ w).drew)).mono ?_;rintro en w4 ⟨u,er,ps,rfl,hu,hps,hpl,hb4⟩;obtain ⟨su,cu,rfl,hrow⟩:=aA.row hu;have Kv:=((yah _ w).drew).trans (hb4.mono (yab _));have hr4:=hw.below Kv;have y1:=hr4.act.cell 1 _ rfl;have y8:=(Kv.cell (p:=⟨aL,8,none⟩) hw.act.lt).trans c8;have y9:=hr4.duo.uR.1;have y10:=hr4.duo.uR.2.1)))
  all_goals (go_wp2_with fail)
  have hD4:=hw.duo.more Kv (Z':=fun b=>jX W0.heap.size d aL b∨Value.ownBlock (.slice su ps.length cu)=some b) (fun b q=>q.imp id (fun e=>aA.lt hu b e));have zF:oM w4 w.heap.size (.slice su ps.length cu) ps:=aA.mono hu (yab _);go_loopw [27,28] (fun iv tv wr=> ∃(i:Nat) (g':Nat→Int),i≤ps.length∧iv= .int .i64 i∧Rw W0 n d r aL c wr s g' s g' (jc 0 0 0) (jc 0 0 0)∧Duo W0.heap.size (fun b=>jX W0.heap.size d aL b∨Value.ownBlock (.slice su ps.length cu)=some b) wr d r s g' s g'∧oM wr w.heap.size (.slice su ps.length cu) ps) (fun iv _ _=>ps.length-(RowKit.intOf iv).toNat)
  case atStart=>exact ⟨0,g,yaE _,rfl,hr4,hD4,zF⟩
  case round=>
    obtain ⟨i,g',hi,rfl,hR,hD,hU⟩:=hrel;by_cases ic:i<ps.length
    · have zB:(i:Int)<ps.length:=by omega
      obtain ⟨_,_,JY,hrw⟩:=aA.row hU;cases JY;rcases hrw with hnil|⟨G,rfl,ho,hG⟩
      · have:=yaI List.length hnil;rw [VF] at this;have h0:5*ps.length=0:=this;exact absurd ic (by omega)
      have hpo:=hps ps[i] (yaS ic);obtain ⟨p,hp⟩: ∃p,p=ps[i]:=⟨_,rfl⟩;have hcells: ∀w',oM w' w.heap.size (.slice (some ⟨G,0,none⟩) ps.length cu) ps→w'.rangeAt G (i*5) p.cells:=fun w' Kq=>by
        obtain ⟨_,_,JY,hrw⟩:=aA.row Kq;cases JY;rcases hrw with hnil|⟨G',eq2,_,hG'⟩
        · have:=yaI List.length hnil;rw [VF] at this;have h0:5*ps.length=0:=this;exact absurd ic (by omega)
        · cases eq2;have:=zzH hG' i ic
          rwa [yau,ybE 5 i,←hp] at this
      rw [←hp] at hpo;clear hp ho hG;have hat:=hpo.2;have e1:IntKind.wrap .u64 p.aD=p.aD:=wrap_u64 _ (by omega) (by omega);have e2:IntKind.wrap .u64 (16*p.aD)=16*p.aD:=wrap_u64 _ (by omega) (by omega);obtain ⟨a,ha,ha2⟩: ∃a:Nat,(a:Int)=4096+16*p.aD∧a+16≤20000:=⟨(4096+16*p.aD).toNat,by omega,by omega⟩;have e3:IntKind.wrap .u64 (4096+16*p.aD)=(a:Int):=by rw [wrap_u64 _ (by omega) (by omega)];omega
      clear ha;clear hat;have hp0:=hcells _ hU;have p1:=hp0 1 _ rfl;have p2:=hp0 2 _ rfl;have p3:=hp0 3 _ rfl;have p4:=hp0 4 _ rfl;have EY: ∀w',oM w' w.heap.size (.slice (some ⟨G,0,none⟩) ps.length cu) ps→w'.cell? ⟨G,i*5,none⟩=some (.int .i64 p.aD):=fun w' Kq=>hcells w' Kq 0 _ rfl;clear hp0 hcells;go_wp2_with (first
        | (go_at_call 38;refine (Nf p hpo.1 _).mono ?_;rintro e w6 ⟨u,rfl,Le,hb6⟩;have hx16:=Pt.EH p;have hbb:=Pt.Qe p;obtain ⟨xs,hxs⟩: ∃xs,xs=Pt.bytes p:=⟨_,rfl⟩;rw [←hxs] at Le hx16 hbb;clear hxs;have zD:=hR.below hb6;have QL:=aA.keep hU hb6;have hD6:=hD.more hb6 (Z':=fun b=>(jX W0.heap.size d aL b∨Value.ownBlock (.slice (some ⟨G,0,none⟩) ps.length cu)=some b)∨u.ownBlock=some b) (fun b q=>q.imp id (fun e=>aA.lt Le b e));have x7:=zD.x7.cell 2 _ rfl;have x9:=EY _ QL;have K5:=zD.below ((yah _ w6).drew);have Ke:=hD6.below ((yah _ w6).drew);have aao:=aA.keep QL ((yah _ w6).drew);have xI:=aA.keep Le ((yah _ w6).drew))
        | go_in)
      go_region_held3 (fun w'=>w'.cell? ⟨d.X7,2,none⟩=some (.int .u64 4096)∧w'.cell? ⟨G,i*5,none⟩=some (.int .i64 p.aD)) (go_keep)
        ((first
          | (go_at_call 40;refine (Vr xI hx16).mono ?_;rintro en w7 ⟨u2,rfl,hu2,fu⟩;have hD7:=Ke.below fu;have BU:=K5.below fu;have x77:=BU.x7.cell 2 _ rfl;have Kr:=aA.keep aao fu;have x97:=EY _ Kr)
          | (go_at_call 39;refine (TK hD7 hu2 hx16 hbb ha2).mono ?_;rintro en w8 ⟨rfl,zh,lK⟩;have BV:=BU.FQ (fun b q=> .inl (.inl q)) zh lK;have x78:=BV.x7.cell 2 _ rfl;have hU8:=aA.kept Kr (fun b e=>lK.block b (aA.lt Kr b e).2 (fun q=>q (.inl (.inr e))));have x98:=EY _ hU8;have xJ:=aA.kept (aA.keep xI fu) fun b e=>lK.block b (aA.lt (aA.keep xI fu) b e).2 (fun q=>q (.inr e)))))
      all_goals (go_wp2_with fail)
      have K6:=BV.below ((yah _ w8).drew);have Kg:=zh.below ((yah _ w8).drew);have Lf:=aA.keep xJ ((yah _ w8).drew);have QM:=aA.keep hU8 ((yah _ w8).drew);go_region_held3 (fun w'=>w'.cell? ⟨d.X7,2,none⟩=some (.int .u64 4096)∧w'.cell? ⟨G,i*5,none⟩=some (.int .i64 p.aD)) (go_keep)
        ((first
          | (go_at_call 41;refine (TL Kg Lf hx16 hbb ha2).mono ?_;rintro en w9 ⟨rfl,Bu,mM⟩;have BX:=K6.FQ (fun b q=> .inl (.inl q)) Bu mM;have x79:=BX.x7.cell 2 _ rfl;have QN:=aA.kept QM (fun b e=>mM.block b (aA.lt QM b e).2 (fun q=>q (.inl (.inr e))));have x99:=EY _ QN)))
      all_goals (go_wp2_with fail)
      exact ⟨⟨i+1,_,by omega,by push_cast;rfl,BX,Bu.set (fun b q=> .inl q),QN⟩,by simp only [RowKit.intOf];omega⟩
    · have zB: ¬(i:Int)<ps.length:=by omega
      go_wp2;exact ⟨rfl,_,_,_,0,0,0,⟨rfl,rfl,rfl,rfl,rfl,rfl,rfl,rfl,rfl,rfl,rfl,rfl,rfl,rfl,rfl⟩,hR,hI.up⟩
structure Tryz.Rg0 (n:Nat) (d:gB) (av:Value) (j:Nat) (E:Int) (tm:Array Value):Prop where
 sz:tm.size=341
 t0:tm.getD 0 undef= .int .i64 n
 t2:tm.getD 2 undef=av
 t7:tm.getD 7 undef= .pointer (some ⟨d.X7,0,none⟩)
 t8:tm.getD 8 undef= .int .u64 (8+16*n)
 t10:tm.getD 10 undef= .pointer (some ⟨d.P,0,none⟩)
 t12:tm.getD 12 undef= .pointer (some ⟨d.P2,0,none⟩)
 t14:tm.getD 14 undef= .pointer (some ⟨d.S,0,none⟩)
 t15:tm.getD 15 undef= .int .i64 E
 t16:tm.getD 16 undef= .pointer (some ⟨d.S2,0,none⟩)
 t17:tm.getD 17 undef= .int .i64 E
 t18:tm.getD 18 undef= .int .i64 j
structure Tryz.RI (w0:World) (n:Nat) (d:gB) (r:Rg) (av:Value) (j:Nat) (a:Act) (w:World):Prop where
 df:a.defers= []
 ex: ∃(E:Int) (s:PS) (g:Nat→Int),Rg0 n d av j E a.tmps∧Duo w0.heap.size (fun b=>b<w0.heap.size∨b=d.X7) w d r s g s g∧SI s j
 x7:Cl w d.X7 (znc n)
 old:Below w0.heap.size w0 w
set_option maxRecDepth 100000 in
theorem Tryz.zAB {w wr:World} {n:Nat} {d:gB} {r:Rg} {aa:Option Addr} {ca:Nat} {acts:List Pc} {j:Nat} {a1:Act} (hr:RI w n d r (.slice aa acts.length ca) j a1 wr) (hj:j≤acts.length) (hA:qU w (.slice aa acts.length ca) acts) (Br:acts.length≤60∧ ∀x∈acts,x.sl.length≤100) (hd:d.ok w.heap.size) (hn:1≤n∧n≤16) (gN:jG r) (hrn:yS r.n n):
    (bJ prog [0,0,1,0,1,1,1,1,1,1,1,1,1,1,5]).wp prog (fun ex a' w'=>match ex with| .normal=>RI w n d r (.slice aa acts.length ca) (j+1) a' w'∧j<acts.length| .exit i=>i=0∧RI w n d r (.slice aa acts.length ca) j a' w'|_=>False) a1 wr:=by
  obtain ⟨hdf,⟨E,s,g,hf,hD,hI⟩,hX,hold⟩:=hr;obtain ⟨tm,ds⟩:=a1;have hdf:ds= []:=hdf;subst hdf;obtain ⟨jf,eH⟩:=IJ (t:=tm) hf.sz hf.t0 hf.t2 hf.t7 hf.t8 hf.t10 hf.t12 hf.t14 hf.t15 hf.t16 hf.t17 hf.t18 rfl rfl rfl;generalize tm.getD 19 undef=LP at eH;generalize tm.getD 20 undef=LQ at eH;generalize tm.getD 21 undef=LU at eH;rw [eH];clear eH hf;have ES:=hA.ok;have zm:acts= []∨ ∃R o,aa=some ⟨R,o,none⟩∧ ∀(i:Nat) (hi:i<acts.length),w.rangeAt R (o+9*i) acts[i].cells:=by
    obtain ⟨aa',c',e,h⟩:=hA.val;cases e;exact h
  refine jy (c':=(au 0 (au 0 (au 1 (au 0 (au 1 (au 1 (au 1 (au 1 (au 1 (au 1 (au 1 (au 1 (au 1 (au 1 (match (f5).body with|some c=>c|none=> .skip)))))))))))))))) (by kernel_rfl) ?_
  dsimp only [f5,au]
  by_cases hjl:j<acts.length
  · have aaL:(j:Int)<acts.length:=by omega
    obtain ⟨R,o,hra,hrow⟩: ∃R o,aa=some ⟨R,o,none⟩∧ ∀(i:Nat) (hi:i<acts.length),w.rangeAt R (o+9*i) acts[i].cells:=by
      rcases zm with q|⟨R,o,q1,q2⟩
      · rw [q] at hjl;simp at hjl
      · exact ⟨R,o,q1,q2⟩
    have hco:=ES acts[j] (yaS hjl);have Qv:=Br.2 acts[j] (yaS hjl);have hcw:=hrow j hjl;have hRl:R<w.heap.size:=World.block_lt_of_cell? w _ (hcw 0 _ rfl);have hcr:=iR hcw (hold.block R hRl);obtain ⟨c,hc⟩: ∃c,c=acts[j]:=⟨_,rfl⟩;rw [←hc] at hco Qv hcr;rw [ybE 9 j] at hcr;obtain ⟨sa,cs,hsv,aa3,hsr⟩:=hco.sv;have a0:=hcr 0 _ rfl;have a1:=hcr 1 _ rfl;have a2:=hcr 2 _ rfl;have a3:=hcr 3 _ rfl;have a4:=hcr 4 _ rfl;have a5:=hcr 5 _ rfl;have a6:=hcr 6 _ rfl;have a7:=hcr 7 _ rfl;have a8:=hcr 8 _ rfl;rw [hsv] at a8;simp only [ybk] at a0;have aaj:c.sl.length≤100:=Qv;have hce:c.cells= [.int .i64 c.k,.int .i64 c.n,.int .u32 c.v,.int .u64 c.a,.int .u32 c.l,.int .u16 c.f,.int .u16 c.x,.bool c.gd,.slice sa c.sl.length cs]:=by unfold Pc.cells;rw [hsv]
    have vg:j<60:=yae hjl Br.1;clear hc hcr hcw hrow zm ES hA hsv aa3 hsr;subst hra;go_upto_block 2 with (first
      | (go_at_call 7;refine (Dv c.k 7 (by decide) _).mono ?_;rintro e w3 ⟨rfl,rfl⟩)
      | go_in)
    have hbW:=(((yah wr.heap.size wr).alloc (yab _) (Obj.cells #[.int .i64 c.k,.int .i64 c.n,.int .u32 c.v,.int .u64 c.a,.int .u32 c.l,.int .u16 c.f,.int .u16 c.x,.bool c.gd,.slice sa c.sl.length cs] 73)).alloc (by simp) (Obj.cells #[.int .i64 0,.int .i64 0,.int .i64 0] 77)).alloc (by simp;omega) (Obj.cells #[.int .i64 0,.int .i64 0,.int .i64 0] 77);have aco:=hold.size;have hxl:=hX.lt;have hdn:=hd.ne.2.2.2.2.1.2;have u6:Rw w n d r wr.heap.size c _ s g s g (jc 0 0 0) (jc 0 0 0):=⟨hD.more hbW (fun b q=>by
        rcases q with q|q|q|q|q
        · exact .inl (.inl q)
        · exact .inl (.inr q)
        · exact .inr (by simp;omega)
        · exact .inr (by simp;omega)
        · exact .inr (by simp;omega)),hX.below hbW hX.lt,
      by rw [hce];exact ((Cl.new wr _ _).alloc _).alloc _,
      (Cl.new2 (by simp)).alloc _,Cl.new2 (by simp),hold.trans (hbW.mono hold.size)⟩
    have aaD:=hco.sv.below (hold.trans (hbW.mono hold.size));refine jy (c':=bJ prog [1,0,1,1,0,0,1,0,0,1,0,1,1,1,1,1,1,1,1,1,1,5]) (by kernel_rfl) ?_;refine ya3 (?_:Code.wp _ _ (wH w n d r (.slice (some ⟨R,o,none⟩) acts.length ca) j wr.heap.size c) _ _) ?_
    · have hm:c.k%7=0∨c.k%7=1∨c.k%7=2∨c.k%7=3∨c.k%7=4∨c.k%7=5∨c.k%7=6:=by omega
      have hok:c.ok _:=⟨hco.k,hco.n,hco.v,hco.a,hco.l,hco.f,hco.x,aaD,hco.sn⟩;rcases hm with h|h|h|h|h|h|h
      · exact zAI (E:=E) ⟨rfl,rfl,rfl,rfl,rfl,rfl,rfl,rfl,rfl,rfl,rfl,rfl,rfl,rfl,rfl⟩ (yaI (Value.int .i64) h) u6 hI vg
      · exact zAH (E:=E) ⟨rfl,rfl,rfl,rfl,rfl,rfl,rfl,rfl,rfl,rfl,rfl,rfl,rfl,rfl,rfl⟩ (yaI (Value.int .i64) h) u6 hI vg hco.v
      · exact zAG (E:=E) ⟨rfl,rfl,rfl,rfl,rfl,rfl,rfl,rfl,rfl,rfl,rfl,rfl,rfl,rfl,rfl⟩ (yaI (Value.int .i64) h) u6 hI vg ⟨by omega,by omega⟩ gN
      · exact zAF (E:=E) ⟨rfl,rfl,rfl,rfl,rfl,rfl,rfl,rfl,rfl,rfl,rfl,rfl,rfl,rfl,rfl⟩ (yaI (Value.int .i64) h) u6 hI vg ⟨by omega,by omega⟩ gN
      · exact zAE (E:=E) ⟨rfl,rfl,rfl,rfl,rfl,rfl,rfl,rfl,rfl,rfl,rfl,rfl,rfl,rfl,rfl⟩ (yaI (Value.int .i64) h) u6 hI vg hok hn
      · exact zAD (E:=E) ⟨rfl,rfl,rfl,rfl,rfl,rfl,rfl,rfl,rfl,rfl,rfl,rfl,rfl,rfl,rfl⟩ (yaI (Value.int .i64) h) u6 hI vg hok gN
      · exact zAC (E:=E) ⟨rfl,rfl,rfl,rfl,rfl,rfl,rfl,rfl,rfl,rfl,rfl,rfl,rfl,rfl,rfl⟩ (yaI (Value.int .i64) h) u6 hI vg hok aaj hn gN hrn
    · rename_i K1 hK1 K0 hK;intro ex a' w' hpost;cases ex with
      | normal=>
        obtain ⟨hds,E',s',g',px,py,pz,hf',hw',hI'⟩:=hpost;obtain ⟨tm',ds'⟩:=a';have hds:ds'= []:=hds;subst hds;refine hK _ _ (jy (c':=bJ prog [1,1,1,0,0,1,0,0,1,0,1,1,1,1,1,1,1,1,1,1,5]) (by kernel_rfl) (ya3 (zDU hf' hw' hI' vg) ?_));intro ex2 a2 w2 ve;obtain ⟨rfl,KH,hf2,hw2⟩:=ve;obtain ⟨Tw,ds2⟩:=a2;have KH:ds2= []:=KH;subst KH;obtain ⟨jf2,KQ⟩:=IJ (t:=Tw) hf2.sz hf2.t0 hf2.t2 hf2.t7 hf2.t8 hf2.t10 hf2.t12 hf2.t14 hf2.t15 hf2.t16 hf2.t17 hf2.t18 hf2.t19 hf2.t20 hf2.t21;have KQ:Tw=_:=KQ;rw [KQ];refine hK1 _ _ ?_;clear hK hK1 hbW u6;go_wp2_with fail;exact ⟨rfl,⟨E',s',g',⟨rfl,rfl,rfl,rfl,rfl,rfl,rfl,rfl,rfl,rfl,rfl,rfl⟩,hw2.duo.set (fun b q=>q.elim (fun q=> .inl q) (fun q=> .inr (.inl q))),hI'⟩,hw2.x7,hw2.old⟩
      | _=>exact hpost.elim
  · have aaL: ¬(j:Int)<acts.length:=by omega
    go_wp2_with fail;exact ⟨rfl,⟨E,s,g,⟨rfl,rfl,rfl,rfl,rfl,rfl,rfl,rfl,rfl,rfl,rfl,rfl⟩,hD,hI⟩,hX,hold⟩
def Tryz.El (g:Nat→Int):ByteArray:=strOfNums ((List.range 20000).map g)
theorem Tryz.zAP {w:World} {G c:Nat} {g:Nat→Int} (h:w.rangeAt G 0 (row g 0 20000)):(convert 55 9 (.slice (some ⟨G,0,none⟩) 20000 c)).run prog w= .ok (.string (El g)) w:=
 run_convert_bytes_arg (P:=prog) w 55 5 (by kernel_rfl) (by kernel_rfl) G 0 20000 c ((List.range 20000).map g) (by rw [ybs,List.length_range]) (fun i hi=>by
  have hx:(row g 0 20000)[i]? =some (.int .u8 (g i)):=by
   unfold row;rw [ybb,ybY hi];simp only [yaK,yau]
  have hy:((List.range 20000).map g).getD i 0=g i:=by
   rw [yaO,ybb,ybY hi];rfl
  rw [hy];exact h i _ hx) 9 (by kernel_rfl)
theorem Tryz.zxx {w':World} {b2:Nat} {v:Value} {g:Nat→Int} (h:w'.ownsRow b2 5 1 v 20000 (row g 0 20000)): ∃G c,v= .slice (some ⟨G,0,none⟩) 20000 c∧ ∀w2,Below w'.heap.size w' w2→(convert 55 9 (.slice (some ⟨G,0,none⟩) 20000 c)).run prog w2= .ok (.string (El g)) w2:=by
 have h1:aA 5 1 w' b2 v 20000 (row g 0 20000):=h;obtain ⟨sa,c,rfl,hr⟩:=aA.row h1;rcases hr with hr|⟨G,rfl,ho,hG⟩
 ·have:=yaI List.length hr;rw [zW] at this;exact absurd this (by decide)
 ·exact ⟨G,c,rfl,fun w2 hb=>zAP (iR hG (hb.block G (aA.lt h1 G ho).2))⟩
section
variable {n0:Nat} {Z:Nat→Prop} {d:Tryz.gB} {r:Tryz.Rg} {w:World} {s1:Tryz.PS} {g1:Nat→Int} {s2:Tryz.PS} {g2:Nat→Int}
theorem Tryz.zFQ (hd:Duo n0 Z w d r s1 g1 s2 g2):Calls prog 24 #[.pointer (some ⟨d.P,0,none⟩)] w fun e w'=> ∃G c,e= .returned (.slice (some ⟨G,0,none⟩) 20000 c)∧(∀w2,Below w'.heap.size w' w2→(convert 55 9 (.slice (some ⟨G,0,none⟩) 20000 c)).run prog w2= .ok (.string (El g1)) w2)∧Below w.heap.size w w':=by
 obtain ⟨lv,h1,_,_⟩:=hd.ex;refine (zx4 d.P d.L d.Bs d.B 20000 g1 w h1.mem (by decide) (by decide)).mono ?_;rintro e w' ⟨v,rfl,hv,hb⟩;obtain ⟨G,c,rfl,hc⟩:=zxx hv;exact ⟨G,c,rfl,hc,hb⟩
theorem Tryz.zFP (hd:Duo n0 Z w d r s1 g1 s2 g2):Calls prog 51 #[.pointer (some ⟨d.P2,0,none⟩)] w fun e w'=> ∃G c,e= .returned (.slice (some ⟨G,0,none⟩) 20000 c)∧(∀w2,Below w'.heap.size w' w2→(convert 55 9 (.slice (some ⟨G,0,none⟩) 20000 c)).run prog w2= .ok (.string (El g2)) w2)∧Below w.heap.size w w':=by
 obtain ⟨lv,_,h2,_⟩:=hd.ex;refine (zt7 d.P2 d.L2 d.jh d.B2 20000 g2 w h2.rm (by decide) (by decide)).mono ?_;rintro e w' ⟨v,rfl,hv,hb⟩;obtain ⟨G,c,rfl,hc⟩:=zxx hv;exact ⟨G,c,rfl,hc,hb⟩
end
end Go.Proofs
namespace Go.Proofs
open Go.Dw Go.RowKit Go.Maps Go.Sort Go.Deep
set_option maxRecDepth 100000 in
theorem Tryz.abu (KU: ∀w,Calls prog 6 #[] w fun e w'=>e= .returned (.bool true)∧Below w.heap.size w w') {w:World} {av:Value} {acts:List Pc} (hA:qU w av acts) (size:Int) (ev tb pk:Bool):
    Calls prog 5 #[.int .i64 size,.agg #[.bool ev,.bool tb,.bool pk],av] w fun e w'=>e= .returned (.bool true)∧Below w.heap.size w w':=by
  have ES:=hA.ok;obtain ⟨aa,ca,fH,zm⟩:=hA.val;obtain ⟨k,hk1,hk2⟩: ∃k:Nat,size%16=k∧k<16:=by
    have h0:0≤size%16:=ybP _ (by decide);have h1:size%16<16:=ybF _ (by decide);exact ⟨(size%16).toNat,by omega,by omega⟩
  have hn:1≤k+1∧k+1≤16:=by omega
  have hA1: ∀w1:World,Below (w.alloc (Obj.cells #[Value.bool ev,Value.bool tb,Value.bool pk] 23)).heap.size (w.alloc (Obj.cells #[Value.bool ev,Value.bool tb,Value.bool pk] 23)) w1→qU w1 av acts:=fun w1 hb=>qU.below hA ((ydM (yah w.heap.size w) (yab _) _).trans (hb.mono (by simp)));have hwk:IntKind.wrap .i64 (1+(k:Int))=((k+1:Nat):Int):=by rw [gy (by omega) (by omega)];omega
  have hpl:=zus (k+1) hn;have gN:=zup hn;generalize hm:k+1=n at hwk hpl gN hn;clear hm;have KV:=fun R w (c:Cl w R [.int .u64 0,.int .u64 20000])=>zDB R 20000 1 w (c.cell 0 _ rfl) (c.cell 1 _ rfl) (by decide) (by decide);have xA:=fun R w (c:Cl w R [.int .u64 0,.int .u64 20000])=>zvZ (w:=w) (R:=R) (c.cell 0 _ rfl) (c.cell 1 _ rfl);have K4: ∀w:World,Calls prog 29 #[.bool true,.int .i64 n,.int .u64 4096] w fun e w'=>e= .returned (.tuple #[.agg #[.bool true,.int .i64 n,.int .u64 4096,.int .u64 (4096+16*n),.int .u64 (4100+16*n)],.int .u64 (8+16*n),.int .i64 0])∧Below w.heap.size w w':=fun w=>hpl w;clear hpl;obtain ⟨r,hr⟩: ∃r,r=Pb n:=⟨_,rfl⟩;have hpv:r.gJ= .agg #[.bool true,.int .i64 n,.int .u64 4096,.int .u64 (4096+16*n),.int .u64 (4100+16*n)]:=by rw [hr];rfl
  rw [←hr] at gN;have hrn:yS r.n n:=⟨by rw [hr];rfl⟩;have hpy: ∀(w:World) (P:Nat),Calls prog 33 #[.pointer (some ⟨P,0,none⟩),.agg #[.bool true,.int .i64 n,.int .u64 4096,.int .u64 (4096+16*n),.int .u64 (4100+16*n)],.agg #[.bool ev,.bool tb,.bool true]] w fun e w'=> ∃S,e= .returned (.tuple #[.pointer (some ⟨S,0,none⟩),.int .i64 0])∧w.heap.size≤S∧Cl w' S ((PS.fresh ev tb).aJ r P (.slice none 0 0) (.slice none 0 0) 0)∧Below w.heap.size w w':=fun w P=>hpv▸zt5 (w:=w) (P:=P) (ev:=ev) (tb:=tb) gN;have RG: ∀(w:World) (P:Nat),Calls prog 33 #[.pointer (some ⟨P,0,none⟩),.agg #[.bool true,.int .i64 n,.int .u64 4096,.int .u64 (4096+16*n),.int .u64 (4100+16*n)],.agg #[.bool ev,.bool tb,.bool false]] w fun e w'=>e= .returned (.tuple #[.pointer none,.int .i64 2])∧Below w.heap.size w w':=fun w P=>hpv▸zv0 (w:=w) (P:=P) (r:=r) (ev:=ev) (tb:=tb);have hps: ∀ {w:World} {P L Bs B:Nat} {g:Nat→Int},GM w P L Bs B 20000 g→Calls prog 32 #[.pointer (some ⟨P,0,none⟩),.agg #[.bool true,.int .i64 n,.int .u64 4096,.int .u64 (4096+16*n),.int .u64 (4100+16*n)],.agg #[.bool ev,.bool tb,.bool true]] w fun e w'=> ∃S M,e= .returned (.tuple #[.pointer (some ⟨S,0,none⟩),.int .i64 0])∧w.heap.size≤S∧w.heap.size≤M∧S≠M∧Own w' S ((PS.fresh ev tb).row r P M (.slice none 0 0))∧w'.heap[M]? =some (.map #[] 0)∧Below w.heap.size w w':=fun st=>hpv▸zAn (r:=r) st gN;have RD: ∀ {w:World} {P L Bs B:Nat} {g:Nat→Int},GM w P L Bs B 20000 g→Calls prog 32 #[.pointer (some ⟨P,0,none⟩),.agg #[.bool true,.int .i64 n,.int .u64 4096,.int .u64 (4096+16*n),.int .u64 (4100+16*n)],.agg #[.bool ev,.bool tb,.bool false]] w fun e w'=>e= .returned (.tuple #[.pointer none,.int .i64 2])∧Below w.heap.size w w':=fun st=>hpv▸zxE (r:=r) st;clear hr hpv;subst fH;cases pk with
  | false=>
    clear hpy hps;go_enter func5,ntmps5;go_wp2_with (first
      | (go_at_call 6;refine (KU _).mono ?_;rintro e w1 ⟨rfl,hb1⟩;have ka:=(Cl.new w _ _).below hb1 (by simp))
      | (go_at_call 22;refine (YB (hA1 _ hb1)).mono ?_;rintro e w2 ⟨b,rfl,hlt,hb2⟩;replace ka:=ka.below hb2 ka.lt)
      | (go_at_call 7;refine (Dv size 16 (by decide) _).mono ?_;rintro e w3 ⟨rfl,rfl⟩;rw [hk1])
      | (go_at_call 29;refine (K4 _).mono ?_;rintro e w4 ⟨rfl,hb4⟩;replace ka:=ka.below hb4 ka.lt)
      | (go_at_call 30;refine (KV (w4.heap.size+1) _ (Cl.new2 (iP _ _))).mono ?_;rintro e w5 ⟨P,L,Bs,B,rfl,hg,hb5,hP,hL,Kb,hB⟩)
      | (go_at_call 31;refine (xA w5.heap.size _ (Cl.new2 rfl)).mono ?_;rintro e w6 ⟨P2,L2,jh,B2,rfl,hg2,hb6,hP2,hL2,Kc,hB2⟩;have kr:=(((Cl.new w4 _ _).alloc _).below hb5 (by simp<;>omega));replace kr:=(kr.alloc _).below hb6 (by have:=kr.lt;simp<;>omega);have BN:=hg.below (((yah w5.heap.size w5).alloc (yab _) _).trans (hb6.mono (by simp)));have hs5:=hb5.size;have hs6:=hb6.size;simp only [iP] at hs5 hs6;have kV:=(((ka.alloc _).alloc _).below hb5 (by have:=ka.lt;simp<;>omega));replace kV:=(kV.alloc _).below hb6 (by have:=kV.lt;simp<;>omega);have x0:=kV.cell 0 _ rfl;have x1:=kV.cell 1 _ rfl;have x2:=kV.cell 2 _ rfl;have y0:=kr.cell 0 _ rfl;have y1:=kr.cell 1 _ rfl;have y2:=kr.cell 2 _ rfl;have y3:=kr.cell 3 _ rfl;have y4:=kr.cell 4 _ rfl)
      | (go_at_call 32;refine (RD BN).mono ?_;rintro e w7 ⟨rfl,fu⟩;clear x0 x1 x2 y0 y1 y2 y3 y4;have vC:=kV.below fu kV.lt;have lN:=kr.below fu kr.lt;have x0:=vC.cell 0 _ rfl;have x1:=vC.cell 1 _ rfl;have x2:=vC.cell 2 _ rfl;have y0:=lN.cell 0 _ rfl;have y1:=lN.cell 1 _ rfl;have y2:=lN.cell 2 _ rfl;have y3:=lN.cell 3 _ rfl;have y4:=lN.cell 4 _ rfl)
      | (go_at_call 33;refine (RG _ _).mono ?_;rintro e w8 ⟨rfl,dY⟩)
      | go_in)
    · have hbl:=((ydM (yah w.heap.size w) (yab _) (Obj.cells #[Value.bool ev,Value.bool tb,Value.bool false] 23)).trans (hb1.mono (by simp))).trans (hb2.mono (by have:=hb1.size;simp at this;omega));exact vY (fn:=Tryz.f5) (Post:=fun e w'=>e= .returned (.bool true)∧RowKit.Below w.heap.size w w') rfl rfl rfl ⟨rfl,hbl⟩
    · have hq:True:=trivial;have zu:Below w.heap.size w w3:=((ydM (yah w.heap.size w) (yab _) (Obj.cells #[Value.bool ev,Value.bool tb,Value.bool false] 23)).trans (hb1.mono (by simp))).trans (hb2.mono (by have:=hb1.size;simp at this;omega));have hs3:=zu.size;have zw:=zu.trans (hb4.mono hs3);have hs4:=zw.size;have zn:Below w4.heap.size w4 w5:=(((yah w4.heap.size w4).alloc (yab _) _).alloc (by simp) _).trans (hb5.mono (by simp;omega));have zo:Below w5.heap.size w5 w6:=((yah w5.heap.size w5).alloc (yab _) _).trans (hb6.mono (by simp));have hs7:=fu.size;have La:=dY.size;have zx:Below w.heap.size w w8:=(((zw.trans (zn.mono hs4)).trans (zo.mono (by omega))).trans (fu.mono (by omega))).trans (dY.mono (by omega));exact vY (fn:=Tryz.f5) (Post:=fun e w'=>e= .returned (.bool true)∧RowKit.Below w.heap.size w w') rfl rfl rfl ⟨rfl,zx⟩
  | true=>
    clear RG RD;go_enter func5,ntmps5;go_wp2_with (first
      | (go_at_call 6;refine (KU _).mono ?_;rintro e w1 ⟨rfl,hb1⟩;have ka:=(Cl.new w _ _).below hb1 (by simp))
      | (go_at_call 22;refine (YB (hA1 _ hb1)).mono ?_;rintro e w2 ⟨b,rfl,hlt,hb2⟩;replace ka:=ka.below hb2 ka.lt)
      | (go_at_call 7;refine (Dv size 16 (by decide) _).mono ?_;rintro e w3 ⟨rfl,rfl⟩;rw [hk1])
      | (go_at_call 29;refine (K4 _).mono ?_;rintro e w4 ⟨rfl,hb4⟩;replace ka:=ka.below hb4 ka.lt)
      | (go_at_call 30;refine (KV (w4.heap.size+1) _ (Cl.new2 (iP _ _))).mono ?_;rintro e w5 ⟨P,L,Bs,B,rfl,hg,hb5,hP,hL,Kb,hB⟩)
      | (go_at_call 31;refine (xA w5.heap.size _ (Cl.new2 rfl)).mono ?_;rintro e w6 ⟨P2,L2,jh,B2,rfl,hg2,hb6,hP2,hL2,Kc,hB2⟩;have kr:=(((Cl.new w4 _ _).alloc _).below hb5 (by simp<;>omega));replace kr:=(kr.alloc _).below hb6 (by have:=kr.lt;simp<;>omega);have BN:=hg.below (((yah w5.heap.size w5).alloc (yab _) _).trans (hb6.mono (by simp)));have hs5:=hb5.size;have hs6:=hb6.size;simp only [iP] at hs5 hs6;have kV:=(((ka.alloc _).alloc _).below hb5 (by have:=ka.lt;simp<;>omega));replace kV:=(kV.alloc _).below hb6 (by have:=kV.lt;simp<;>omega);have x0:=kV.cell 0 _ rfl;have x1:=kV.cell 1 _ rfl;have x2:=kV.cell 2 _ rfl;have y0:=kr.cell 0 _ rfl;have y1:=kr.cell 1 _ rfl;have y2:=kr.cell 2 _ rfl;have y3:=kr.cell 3 _ rfl;have y4:=kr.cell 4 _ rfl)
      | (go_at_call 32;refine (hps BN).mono ?_;rintro e w7 ⟨S,M,rfl,hS,hM,hSM,hso,hsm,fu⟩;clear x0 x1 x2 y0 y1 y2 y3 y4;have vC:=kV.below fu kV.lt;have lN:=kr.below fu kr.lt;have x0:=vC.cell 0 _ rfl;have x1:=vC.cell 1 _ rfl;have x2:=vC.cell 2 _ rfl;have y0:=lN.cell 0 _ rfl;have y1:=lN.cell 1 _ rfl;have y2:=lN.cell 2 _ rfl;have y3:=lN.cell 3 _ rfl;have y4:=lN.cell 4 _ rfl)
      | (go_at_call 33;refine (hpy _ _).mono ?_;rintro e w8 ⟨S2,rfl,hS2,hy,dY⟩)
      | go_in)
    · have hbl:=((ydM (yah w.heap.size w) (yab _) (Obj.cells #[Value.bool ev,Value.bool tb,Value.bool true] 23)).trans (hb1.mono (by simp))).trans (hb2.mono (by have:=hb1.size;simp at this;omega));exact vY (fn:=Tryz.f5) (Post:=fun e w'=>e= .returned (.bool true)∧RowKit.Below w.heap.size w w') rfl rfl rfl ⟨rfl,hbl⟩
    · have hbt:b=true:=by cases b with|true=>rfl|false=>rename_i h;exact absurd h (by simp)
      have Br:=hlt hbt;have zu:Below w.heap.size w w3:=((ydM (yah w.heap.size w) (yab _) (Obj.cells #[Value.bool ev,Value.bool tb,Value.bool true] 23)).trans (hb1.mono (by simp))).trans (hb2.mono (by have:=hb1.size;simp at this;omega));have hs3:=zu.size;have zw:=zu.trans (hb4.mono hs3);have hs4:=zw.size;have zn:Below w4.heap.size w4 w5:=(((yah w4.heap.size w4).alloc (yab _) _).alloc (by simp) _).trans (hb5.mono (by simp;omega));have zo:Below w5.heap.size w5 w6:=((yah w5.heap.size w5).alloc (yab _) _).trans (hb6.mono (by simp));have hs7:=fu.size;have La:=dY.size;have zx:Below w.heap.size w w8:=(((zw.trans (zn.mono hs4)).trans (zo.mono (by omega))).trans (fu.mono (by omega))).trans (dY.mono (by omega));simp only [iP] at hP hL Kb hB hP2 hL2 Kc hB2;have xh:S<w7.heap.size:=by
        obtain ⟨Tg,Tt,hs0,_⟩:=hso;exact (yap.1 hs0).1
      have Ff:M<w7.heap.size:=(yap.1 hsm).1;have Rb:=hg.pl;have hgl:=hg.ll;have hgs:=hg.sl;have hgb:=hg.bl;have Rc:=hg2.pl;have Ra:=hg2.ll;have Rh:=hg2.sl;have Q7:=hg2.bl;have hyl:=hy.lt;have hd:gB.ok ⟨w4.heap.size,S,P,L,Bs,B,M,S2,P2,L2,jh,B2,w8.heap.size⟩ w.heap.size:=⟨w4.heap.size+1,w5.heap.size,w6.heap.size,w7.heap.size,by show w.heap.size≤w4.heap.size;omega,by show w4.heap.size<_;omega,⟨by show _≤P;omega,by show _≤L;omega,by show _≤Bs;omega,by show _≤B;omega⟩,⟨Rb,hgl,hgs,hgb⟩,⟨by show _≤P2;omega,by show _≤L2;omega,by show _≤jh;omega,by show _≤B2;omega⟩,⟨Rc,Ra,Rh,Q7⟩,⟨by show _≤S;omega,by show _≤M;omega⟩,⟨xh,Ff⟩,by show _≤S2;omega,hyl⟩;have hD0:=zDT (Z:=fun b=>b<w.heap.size∨b=w4.heap.size) (ev:=ev) (tb:=tb) (r:=r) hd rfl (by have:=zx.size;omega) ((BN.below fu).below dY) ((hg2.below fu).below dY) (hso.kept (dY.block _ xh)) ((dY.block _ Ff).trans hsm) hy hSM gN (fun b q=>q);have Kt:=lN.below dY lN.lt;obtain ⟨d,hdd⟩: ∃d:gB,d=⟨w4.heap.size,S,P,L,Bs,B,M,S2,P2,L2,jh,B2,w8.heap.size⟩:=⟨_,rfl⟩;rw [←hdd] at hd hD0;have f1:d.X7=w4.heap.size:=by rw [hdd]
      have f2:d.S=S:=by rw [hdd]
      have f3:d.P=P:=by rw [hdd]
      have f4:d.S2=S2:=by rw [hdd]
      have f5:d.P2=P2:=by rw [hdd]
      clear hdd;rw [←f1] at Kt hD0 ⊢;rw [←f2,←f3,←f4,←f5];clear f1 f2 f3 f4 f5;clear hP hL Kb hB hP2 hL2 Kc hB2 xh Ff Rb hgl hgs hgb Rc Ra Rh Q7 hyl La hs7 hs6 hs5 hs4 hs3 zn zo zw zu hy hsm hso BN hg2 hg dY fu hb6 hb5 hb4 hb1 hb2 ka kV vC kr lN x0 x1 x2 y0 y1 y2 y3 y4 hS2 hS hM hSM hps hpy K4 KV xA hA1 KU hwk hk1 hk2 hlt;have hn0:=zx.size;rename_i K hK;have hA':qU w (.slice aa acts.length ca) acts:=hA;refine jy (c':= .loop (bJ prog [0,0,1,0,1,1,1,1,1,1,1,1,1,1,5])) (by kernel_rfl) ?_;refine xX (fun (j:Nat) a' w'=>j≤acts.length∧RI w n d r (.slice aa acts.length ca) j a' w') (fun j=>acts.length-j) (fun j a1 w1 hI=> ?_) 0 _ _ ⟨yaE _,rfl,⟨0,_,_,⟨rfl,rfl,rfl,rfl,rfl,rfl,rfl,rfl,rfl,rfl,rfl,rfl⟩,hD0,SI.fresh ev tb⟩,Kt,zx⟩;refine ya3 (zAB hI.2 hI.1 hA' Br hd hn gN hrn) fun ex a2 w2 hh=> ?_;clear hD0 Kt zx hn0 hI;cases ex with
      | normal=>exact ⟨j+1,by have:=hh.2;omega,by have:=hh.2;omega,hh.1⟩
      | exit i=>
        obtain ⟨rfl,hR⟩:=hh;show K a2 w2;refine hK _ _ ?_;clear hK;obtain ⟨hdf,⟨E,s,g,hf,hD,hI⟩,hX,hold⟩:=hR;obtain ⟨tm,ds⟩:=a2;have hdf:ds= []:=hdf;subst hdf;obtain ⟨jf,eH⟩:=IJ (t:=tm) hf.sz hf.t0 hf.t2 hf.t7 hf.t8 hf.t10 hf.t12 hf.t14 hf.t15 hf.t16 hf.t17 hf.t18 rfl rfl rfl;generalize tm.getD 19 undef=LP at eH;generalize tm.getD 20 undef=LQ at eH;generalize tm.getD 21 undef=LU at eH;rw [eH];clear eH hf hX hI hA hA' ES zm Br hd;have Qz:=hD.below ((yah _ w2).drew);have hbd:=hold.trans (((yah _ w2).drew).mono hold.size);obtain ⟨str,hstr⟩: ∃str,str=El g:=⟨_,rfl⟩;have hi1:=zFQ Qz;have hi2:=fun w' (hb:Below w2.drew.heap.size w2.drew w')=>zFP (Qz.below hb);rw [←hstr] at hi1 hi2;clear hstr;go_wp2_with fail;go_region_law (first
          | (go_simp;go_at_call 24;refine hi1.mono ?_;rintro en w3 ⟨G1,c1,rfl,hv1,hb3⟩;have aci:=hv1 w3 (yah _ _))
          | (go_simp;go_at_call 51;refine (hi2 _ hb3).mono ?_;rintro en w4 ⟨G2,c2,rfl,hv2,hb4⟩;have acj:=hv1 w4 hb4;have hv24:=hv2 w4 (yah _ _)))
        all_goals
          go_wp2_with fail;exact vY (fn:=Tryz.f5) (Post:=fun e w'=>e= .returned (.bool true)∧RowKit.Below w.heap.size w w') rfl rfl rfl ⟨rfl,(hbd.trans (hb3.mono hbd.size)).trans (hb4.mono (hbd.trans (hb3.mono hbd.size)).size)⟩
      | _=>exact hh.elim
end Go.Proofs
namespace Go.Proofs.YtfoggkodmjnmcaaGreat
theorem zuY:(Dw.ev Tryz.prog (Dw.HY 64 [90]) 100000000 (.call 6 [] Dw.nX Dw.isTrue)).good=true:=by kernel_rfl
theorem abd:Dw.Ua Tryz.prog 6:=Dw.ztY (by kernel_rfl) (fun w=>Tryz.zCh) zuY
theorem zqL:Tryz.pinned.checked.prog.mayEnter=true:=by kernel_rfl
end Go.Proofs.YtfoggkodmjnmcaaGreat
namespace Go.Proofs.YtfoggkodmjnmcaaGreat.pserveScript
open Go.ChangeShapes Go.WideShapes Go.ChangeAt Go.RowKit
theorem aae:joinedFacts Tryz.pinned.checked.prog 5 Tryz.f5 Rows.pserveScriptSpec Rows.pserveScriptRow=true:=by
 unfold joinedFacts;rw [zqL];kernel_rfl
end Go.Proofs.YtfoggkodmjnmcaaGreat.pserveScript
end
