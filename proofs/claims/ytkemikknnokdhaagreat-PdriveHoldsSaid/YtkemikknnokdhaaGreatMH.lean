/-
  Proved: laws on the way to 'PdriveHoldsProof' (VeH); no condition.
-/
import Derived.Test.YtkemikknnokdhaaGreatMD
set_option linter.unusedSimpArgs false
set_option linter.unusedVariables false
set_option maxHeartbeats 4000000
noncomputable section
namespace Go.Proofs
open Go.Dw Go.RowKit Go.Maps Go.Sort Go.Deep
set_option maxRecDepth 100000 in
theorem Tryz.zuw {W0 w:World} {n:Nat} {ev tb pk:Bool} {d:Hd} {r:Rg} {aa:Option Addr} {ca:Nat} {acts:List Tn} {ov:Value} {tk:Int} {j:Nat} {s:DS} {g:Nat→Int} {tm:Array Value} (hf:Ho0 n d (.slice aa acts.length ca) ov tk s.own j tm) (hw:HoW W0 n ev tb pk d r w s g ov [.int .i64 s.nx,.bool s.nw] [.int .i64 s.sx,.bool s.sw] s.L) (hs:HoS s tb tk j) (hA:TnsV W0 (.slice aa acts.length ca) acts) (hj:j<acts.length) (h60:acts.length≤60) (hbk:acts[j].bk=true) (hn:1≤n∧n≤16) (hrk:PgOk r) (hrn:EqI r.n n):
    (zbb prog [0,0,1,0,1,1,1,1,1,1,1,1,1,1,4]).wp prog (zn5 W0 n ev tb pk d r (.slice aa acts.length ca) j) ⟨tm,[]⟩ w:=by
  obtain ⟨jf,hjf⟩:=zhv (t:=tm) hf.sz hf.t0 hf.t2 hf.t4 hf.t8 hf.t9 hf.t10 hf.t12 hf.t13 hf.t14 hf.t15 hf.t16 hf.t17;rw [hjf];clear hjf hf;obtain ⟨R,o,hra,hrow⟩: ∃R o,aa=some ⟨R,o,none⟩∧ ∀(i:Nat) (hi:i<acts.length),W0.rangeAt R (o+4*i) acts[i].cells:=by
    obtain ⟨aa',c',e,h⟩:=hA.val;cases e;rcases h with q|⟨R,o,q1,q2⟩
    · rw [q] at hj;simp at hj
    · exact ⟨R,o,q1,q2⟩
  have hco:=hA.ok acts[j] (List.getElem_mem hj);have hcw:=hrow j hj;have hRl:R<W0.heap.size:=World.block_lt_of_cell? W0 _ (hcw 0 _ rfl);have hcr:=zag hcw (hw.old.block R hRl);obtain ⟨c,hc⟩: ∃c,c=acts[j]:=⟨_,rfl⟩;rw [←hc] at hco hcr hbk;rw [Nat.mul_comm 4 j] at hcr;obtain ⟨sa,cs,hsv,hsok,hsr⟩:=hco.sv;have a0:=hcr 0 _ rfl;have a1:=hcr 1 _ rfl;have a2:=hcr 2 _ rfl;have a3:=hcr 3 _ rfl;rw [hsv] at a1;rw [hbk] at a0;simp only [Nat.add_zero] at a0;have hcv:=hco.v;have hj':(j:Int)<acts.length:=by omega
  clear hc hcr hcw hrow hA hsok hsr hco hsv hbk;subst hra;obtain ⟨t12,hO⟩:=hw.row;obtain ⟨sov,cov,rfl,hOr⟩:=OwnR.row hO;have hbA:=(Below.refl w.heap.size w).alloc (Nat.le_refl _) (Obj.cells #[.bool true,.slice sa c.sl.length cs,.int .i64 c.n,.int .u32 c.v] 89);by_cases hL0:s.L.length=0
  · have hL0':(s.L.length:Int)=0:=by omega
    have hwA:=hw.below hbA;clear hOr hO;refine zaD (c':=(zae 0 (zae 0 (zae 1 (zae 0 (zae 1 (zae 1 (zae 1 (zae 1 (zae 1 (zae 1 (zae 1 (zae 1 (zae 1 (zae 1 (match (f4).body with|some c=>c|none=> .skip)))))))))))))))) (by kernel_rfl) ?_
    dsimp only [f4,zae]
    go_wp2_with fail;exact ⟨rfl,s,g,.slice sov s.L.length cov,tk,⟨rfl,rfl,rfl,rfl,rfl,rfl,rfl,by show Value.slice sov 0 cov= .slice sov s.L.length cov;rw [hL0],rfl,rfl,rfl,rfl,rfl⟩,hwA,hs.up⟩
  · obtain ⟨G,rfl,_,hG⟩: ∃G,sov=some ⟨G,0,none⟩∧(Value.slice sov s.L.length cov).ownBlock=some G∧w.rangeAt G 0 (zap s.L):=by
      rcases hOr with q|q
      · have:=congrArg List.length q;rw [zaY] at this;have:s.L.length*3=0:=this;omega
      · exact q
    have hL1: ¬(s.L.length:Int)=0:=by omega
    have hbn:=hrk.bnd;have hLl:s.L.length≤16:=by
      have h1:=zbg fun e he=>(hw.dr.pb.el e he).2.2.1;have h2:=hw.dr.pb.sum;have h3:=hw.dr.pb.own;omega
    obtain ⟨k,hk,hkl⟩: ∃k:Nat,c.n%(s.L.length:Int)=k∧k<s.L.length:=by
      have h0:0≤c.n%(s.L.length:Int):=Int.emod_nonneg _ (by omega);have h1:c.n%(s.L.length:Int)<s.L.length:=Int.emod_lt_of_pos _ (by omega);exact ⟨(c.n%(s.L.length:Int)).toNat,by omega,by omega⟩
    have hkl':(k:Int)<s.L.length:=by omega
    obtain ⟨o0,o1,o2⟩:=zch s.L k hkl;have hGl:G<w.heap.size:=(OwnR.lt hO G rfl).2;have hGd:d.X14<G:=(OwnR.lt hO G rfl).1;have hmem:=List.getElem_mem hkl;have hel:=hw.dr.pb.el _ hmem;obtain ⟨e,he⟩: ∃e,e=s.L[k]:=⟨_,rfl⟩;rw [←he] at o0 o1 o2 hmem hel;have g0:=(hbA.cell (p:=⟨G,0+k*3,none⟩) hGl).trans (hG _ _ o0);have g1:=(hbA.cell (p:=⟨G,0+(k*3+1),none⟩) hGl).trans (hG _ _ o1);have g2:=(hbA.cell (p:=⟨G,0+(k*3+2),none⟩) hGl).trans (hG _ _ o2);rw [Nat.zero_add] at g0 g1 g2;have hpk:=fun w'=>zm7 c.n s.L.length (by omega) w';rw [hk] at hpk;have hsx:=hw.dr.pb.sx;rw [hrn.eq] at hsx;have e1:IntKind.wrap .u64 s.sx=s.sx:=wrap_u64 _ (by omega) (by omega);have e2:IntKind.wrap .u64 (16*s.sx)=16*s.sx:=wrap_u64 _ (by omega) (by omega);have e3:IntKind.wrap .u64 (4096+16*s.sx)=4096+16*s.sx:=wrap_u64 _ (by omega) (by omega);obtain ⟨a,ha,ha2⟩: ∃a:Nat,(a:Int)=4096+16*s.sx+8∧a+8≤60000:=⟨(4096+16*s.sx+8).toNat,by omega,by omega⟩;have e4:IntKind.wrap .u64 (4096+16*s.sx+8)=(a:Int):=by rw [wrap_u64 _ (by omega) (by omega)];omega
    have e6:IntKind.wrap .u16 e.id=e.id:=by unfold IntKind.wrap;simp [IntKind.signed,IntKind.bits];omega
    have hown:=hw.dr.pb.own;have holr:s.own+e.ct≤32:=by
      have:=hw.dr.pb.own_le;omega
    have e7:IntKind.wrap .i64 (s.own+e.ct)=s.own+e.ct:=zaT (by omega) (by omega);have hmk:0≤zcJ s.sw∧zcJ s.sw<65536:=by unfold zcJ;split<;>decide
    obtain ⟨u1,u2,u3⟩:=zoa (g:=g) (V:=c.v) (id:=e.id) (sw:=s.sw) hsx.1 hcv ⟨hel.1.1,by omega⟩;rw [show (4096+16*s.sx+8).toNat=a by omega] at u1 u2 u3;obtain ⟨ys,hys⟩: ∃ys,ys=Pt.bytes ⟨0,0,c.v,e.id,zcJ s.sw⟩:=⟨_,rfl⟩;rw [←hys] at u1 u2 u3;obtain ⟨xs,hxs⟩: ∃xs,xs=ys.drop 8:=⟨_,rfl⟩;rw [←hxs] at u1 u2 u3;have hnd:=hw.dr.pb.nd;have hget:zby s.L (zac (putL g a xs) (4096+16*s.sx+8).toNat 8/4294967296%65536)=some e:=by
      rw [show (4096+16*s.sx+8).toNat=a by omega,u2];exact zk9 hnd hmem
    obtain ⟨hr0,hfin⟩:=zqN (r:=r) (g:=putL g a xs) hs.ph hs.br u1 hget;rw [show (4096+16*s.sx+8).toNat=a by omega,u3] at hfin;have hdel:za8 s.L e.id=s.L.take k++s.L.drop (k+1):=znI hkl (by rw [he]) fun q hq hqe=>by
      have:=(List.pairwise_iff_getElem.1 hnd) q k (by simpa using (by omega:q<s.L.length)) (by simpa using hkl) hq;simp only [List.getElem_map] at this;exact this (by rw [hqe,he])
    have hDI1:=hs.di.recl;have hgo:=fun w'=>zlM (n:=n) (a:=s.sx) (c:=e.ct) (x:=s.sw) (by omega) hsx (by have:=hrn.eq;omega) w';unfold posV at hgo;rw [hrn.eq] at hfin;obtain ⟨v1,v2,hv12⟩: ∃v1 v2,zaH n s.sx s.sw e.ct=(v1,v2):=⟨_,_,rfl⟩;rw [hv12] at hgo hfin;obtain ⟨s2,hs2⟩: ∃s2:DS,s2= { s with op:=2,nn:=false,tok:=e.tk,wr:=c.v,kk:=false,own:=s.own+e.ct,L:=za8 s.L e.id,sx:=v1,sw:=v2,ph:=0,dn:=true }:=⟨_,rfl⟩;have hfin2:zev r 20 0 (zcM s).2 (putL g a xs)=(3,s2,putL g a xs):=by rw [hs2];exact hfin
    have hS2o:s2.out= .agg #[.int .i64 2,.bool false,.int .i64 e.tk,.int .u32 c.v,.bool false]:=by
      rw [hs2];unfold DS.out;rw [if_pos ⟨rfl,rfl⟩]
    have hS2h:s2.has=true:=by rw [hs2];rfl
    have hS2w:s2.own=s.own+e.ct:=by rw [hs2]
    have hS2L:s2.L=s.L.take k++s.L.drop (k+1):=by rw [hs2];exact hdel
    have hS2n:s2.nx=s.nx∧s2.nw=s.nw∧s2.sx=v1∧s2.sw=v2:=by rw [hs2];exact ⟨rfl,rfl,rfl,rfl⟩
    have hS2s:HoS s2 tb tk (j+1):=by
      rw [hs2];exact ⟨rfl,hs.br,hs.tb,DI.late (.inl rfl),fun x hx=>hs.tks x ((zfo _ _).subset hx),hs.tk0.1,by have:=hs.tk0.2;omega⟩
    have hK:HidQ ((zcM s).1=0∧zev r 20 0 (zcM s).2 (putL g a xs)=(3,s2,putL g a xs)∧s2.out= .agg #[.int .i64 2,.bool false,.int .i64 e.tk,.int .u32 c.v,.bool false]∧s2.has=true∧s2.own=s.own+e.ct∧s2.L=s.L.take k++s.L.drop (k+1)∧(s2.nx=s.nx∧s2.nw=s.nw∧s2.sx=v1∧s2.sw=v2)∧HoS s2 tb tk (j+1)):=⟨hr0,hfin2,hS2o,hS2h,hS2w,hS2L,hS2n,hS2s⟩;clear hs2 hfin hdel hr0 hfin2 hS2o hS2h hS2w hS2L hS2n hS2s u1 u2 u3 hv12;have hwA:=hw.below hbA;have hbB:=hbA.alloc hbA.size (Obj.cells #[.int .i64 e.id,.int .i64 e.tk,.int .i64 e.ct] 95);have hwB:=hw.below hbB;have kT:=(Cl.new w #[.bool true,.slice sa c.sl.length cs,.int .i64 c.n,.int .u32 c.v] 89).alloc (.cells #[.int .i64 e.id,.int .i64 e.tk,.int .i64 e.ct] 95);have kE:=Cl.new2 (b:=w.heap.size+1) (arr:= #[.int .i64 e.id,.int .i64 e.tk,.int .i64 e.ct]) (t:=95) (w:=w.alloc (.cells #[.bool true,.slice sa c.sl.length cs,.int .i64 c.n,.int .u32 c.v] 89)) (by simp);have p14:=hwB.x14.cell 1 _ rfl;have pT:=kT.cell 3 _ rfl;have pE:=kE.cell 0 _ rfl;obtain ⟨l1,l2,l3,l4⟩:=hw.x10l;have lo:=hw.old.size;have l14:=hw.x14.lt;clear o0 o1 o2 hk he hnd hget;refine zaD (c':=(zae 0 (zae 0 (zae 1 (zae 0 (zae 1 (zae 1 (zae 1 (zae 1 (zae 1 (zae 1 (zae 1 (zae 1 (zae 1 (zae 1 (match (f4).body with|some c=>c|none=> .skip)))))))))))))))) (by kernel_rfl) ?_
    dsimp only [f4,zae]
    go_wp2_with (first
      | (go_at_call 7;refine (hpk _).mono ?_;rintro en w3 ⟨rfl,hw3⟩;have hw3:=hw3.symm;subst hw3)
      | go_in)
    go_region_held3 (fun w'=>w'.cell? ⟨w.heap.size,3,none⟩=some (.int .u32 c.v)∧w'.cell? ⟨w.heap.size+1,0,none⟩=some (.int .i64 e.id)∧w'.cell? ⟨d.X14,1,none⟩=some (.bool s.sw)) (go_keep)
      ((first
        | (go_at_call 21;refine (zvi _).mono ?_;rintro en w4 ⟨rfl,hw4⟩;have hw4:=hw4.symm;subst hw4)
        | (go_at_call 20;refine (zlT ⟨0,0,c.v,e.id,zcJ s.sw⟩ ⟨⟨by show (0:Int)≤0;decide,by show (0:Int)<_;decide⟩,hcv,⟨hel.1.1,by show e.id<65536;omega⟩,hmk⟩ _).mono ?_;rintro en w6 ⟨u,rfl,hu,hb6⟩;have hb06:=(hbB.drew).trans (hb6.mono hbB.size);have hw6:=hw.below hb06;have kT6:=(kT.drew).below hb6 kT.drew.lt;have kE6:=(kE.drew).below hb6 kE.drew.lt;have z3:=kT6.cell 3 _ rfl;have z0:=kE6.cell 0 _ rfl;have z14:=hw6.x14.cell 1 _ rfl)))
    all_goals (go_wp2_with fail)
    have hx16:=Pt.bytes_len ⟨0,0,c.v,e.id,zcJ s.sw⟩;have hbb:=Pt.bytes_bnd ⟨0,0,c.v,e.id,zcJ s.sw⟩;rw [←hys] at hu hx16 hbb;obtain ⟨H,cp,rfl,hcp,hHl,hH⟩:=zvP hu hx16;rw [←hxs] at hH;have hx8:xs.length=8:=by rw [hxs,List.length_drop,hx16]
    have hbx: ∀x∈xs,0≤x∧x<256:=fun x hx=>hbb x (List.mem_of_mem_drop (hxs▸hx));have hc8: ¬cp=8:=by omega
    have hw6d:=hw6.below ((Below.refl _ w6).drew);have hH6d:w6.drew.rangeAt H 8 (zaf xs):=fun j v hv=>hH j v hv;have x10:=hw6.x10.cell 2 _ rfl;have x14:=hw6.x14.cell 0 _ rfl;have hrm:=fun (cc:Nat)=>(by
      have q2:=zcq d.P d.L d.Bs d.B 60000 a H 8 cc xs g w6.drew hw6d.dr.f.mem (by decide) (by omega) (by omega) hbx hH6d hHl.2;rw [hx8] at q2;exact q2.mono fun en w' hh=>⟨hh.1,hw6d.turn ⟨hw6d.dr.f.memB (zeu hh.2.2) hh.2.1,hw6d.dr.pb⟩ ((zeu hh.2.2).mono fun b q=> .inr (.inr q)),(zeu hh.2.2).mono fun b q=> .inr (.inr q)⟩:Calls prog 22 #[.pointer (some ⟨d.P,0,none⟩),.int .u64 a,.slice (some ⟨H,8,none⟩) 8 cc] w6.drew fun en w'=>en= .returned (.int .i64 0)∧HoW W0 n ev tb pk d r w' s (putL g a xs) (.slice (some ⟨G,0,none⟩) s.L.length cov) [.int .i64 s.nx,.bool s.nw] [.int .i64 s.sx,.bool s.sw] s.L∧Dw.Mv (dK d.S d.I d.B) w6.drew w')
    have l10:d.X10≤w.heap.size:=by omega
    clear hys hxs hbb hx16 hu hcp hH z3 z0 z14 hbx hx8;have hP:=HidQ.mk (And.intro hgo (And.intro hel (And.intro hDI1 (And.intro hK (And.intro hbn (And.intro kT6 (And.intro kE6 (And.intro e7 (And.intro hown (And.intro holr (And.intro hG (And.intro hkl (And.intro hLl (And.intro hmem (And.intro hs (And.intro hrk (And.intro hrn (And.intro l1 (And.intro l2 (And.intro l3 (And.intro l4 (And.intro lo (And.intro hj' (And.intro l14 l10))))))))))))))))))))))));clear hgo hel hDI1 hK hbn kT6 kE6 e7 hown holr hG hkl hLl hmem hs hrk hrn l1 l2 l3 l4 lo hj' l14 l10 hpk e6 kT kE p14 pT pE hwB hbB hbA hwA g0 g1 g2 hGl hGd hkl' hL0 hL1 hb06 hO a0 a1 a2 a3 hmk hcv hRl ha hb6;go_region_held3 (fun w'=>w'.cell? ⟨d.X10,2,none⟩=some (.int .u64 4096)∧w'.cell? ⟨d.X14,0,none⟩=some (.int .i64 s.sx)) (go_keep)
      ((first
        | (go_at_call 22;refine (hrm _).mono ?_;rintro en w8 ⟨rfl,hw8,hm8⟩;have x108:=hw8.x10.cell 2 _ rfl;have x148:=hw8.x14.cell 0 _ rfl)))
    obtain ⟨hgo,hel,hDI1,hK,hbn,kT6,kE6,e7,hown,holr,hG,hkl,hLl,hmem,hs,hrk,hrn,l1,l2,l3,l4,lo,hj',l14,l10⟩:=hP.out;clear hP;have kT8:=kT6.drew.kept (hw6d.kept hm8 _ kT6.drew.lt (.inr l10));have kE8:=kE6.drew.kept (hw6d.kept hm8 _ kE6.drew.lt (.inr (Nat.le_succ_of_le l10)));have y0:=hw8.x14.cell 0 _ rfl;have y1:=hw8.x14.cell 1 _ rfl;have y2:=kE8.cell 2 _ rfl;obtain ⟨hr0,hfin2,hS2o,hS2h,hS2w,hS2L,hS2n,hS2s⟩:=hK.out;clear hK;have hS2n:HidQ _:=⟨hS2n⟩;have hS2L:HidQ _:=⟨hS2L⟩;have hS2w:HidQ _:=⟨hS2w⟩;have hrec:=fun {w':World} (q:HoW W0 n ev tb pk d r w' s (putL g a xs) (.slice (some ⟨G,0,none⟩) s.L.length cov) [.int .i64 s.nx,.bool s.nw] [.int .i64 v1,.bool v2] s.L)=>(by
      have q1:=zlP q.dr;rw [hr0] at q1;exact q1.mono fun en w2 hh=>⟨hh.1,q.turn hh.2.1 (dk_S hh.2.2),dk_S hh.2.2⟩:Calls prog 16 #[.pointer (some ⟨d.S,0,none⟩)] w' fun en w2=>en= .returned (.int .i64 0)∧HoW W0 n ev tb pk d r w2 (zcM s).2 (putL g a xs) (.slice (some ⟨G,0,none⟩) s.L.length cov) [.int .i64 s.nx,.bool s.nw] [.int .i64 v1,.bool v2] s.L∧Dw.Mv (dK d.S d.I d.B) w' w2)
    have hfns:=fun {w':World} (q:HoW W0 n ev tb pk d r w' (zcM s).2 (putL g a xs) (.slice (some ⟨G,0,none⟩) s.L.length cov) [.int .i64 s.nx,.bool s.nw] [.int .i64 v1,.bool v2] s.L)=>((ziA q.dr hDI1 (by decide) hfin2).mono fun en w2 hh=>⟨hh.1,q.turn hh.2.1 hh.2.2,hh.2.2⟩:Calls prog 41 #[.pointer (some ⟨d.S,0,none⟩)] w' fun en w2=>en= .returned (.int .i64 3)∧HoW W0 n ev tb pk d r w2 s2 (putL g a xs) (.slice (some ⟨G,0,none⟩) s.L.length cov) [.int .i64 s.nx,.bool s.nw] [.int .i64 v1,.bool v2] s.L∧Dw.Mv (dK d.S d.I d.B) w' w2);have hdn:=fun {w':World} (q:HoW W0 n ev tb pk d r w' s2 (putL g a xs) (.slice (some ⟨G,0,none⟩) s.L.length cov) [.int .i64 s.nx,.bool s.nw] [.int .i64 v1,.bool v2] s.L)=>(by
      have q1:=zsI q.dr;rw [hS2o,hS2h] at q1;exact q1:Calls prog 27 #[.pointer (some ⟨d.S,0,none⟩)] w' fun en w2=>en= .returned (.tuple #[.agg #[.int .i64 2,.bool false,.int .i64 e.tk,.int .u32 c.v,.bool false],.bool true])∧Below w'.heap.size w' w2)
    have hsp:=fun {w':World} (q:HoW W0 n ev tb pk d r w' s2 (putL g a xs) (.slice (some ⟨G,0,none⟩) s.L.length cov) [.int .i64 s.nx,.bool s.nw] [.int .i64 v1,.bool v2] s.L)=>(by
      have q1:=zgT q.dr;rw [hS2w.out] at q1;exact q1:Calls prog 32 #[.pointer (some ⟨d.S,0,none⟩)] w' fun en w2=>en= .returned (.int .i64 (s.own+e.ct))∧w2=w')
    clear hr0 hfin2 hS2o hS2h hDI1 hrm hm8 hbn hown holr hel hmem l1 l2 l3 l4 x108 x148 x10 x14 hH6d hw6d hw6 kT6 kE6;go_wp2_with (first
      | (go_at_call 40;refine (hgo _).mono ?_;rintro en w9 ⟨rfl,hb9⟩;have hw9:=hw8.below hb9;have f0:=hw9.x14.free 0;have f1:=hw9.x14.free 1;have c0:=hw9.x14.cell 0 _ rfl;have c1:=hw9.x14.cell 1 _ rfl;have kT9:=kT8.below hb9 kT8.lt;have kE9:=kE8.below hb9 kE8.lt;have hwX:=hw9.set14 (zaj (zaj (zaa (K:=(· =d.X14)) (Below.refl w9.heap.size w9)) d.X14 0 (.int .i64 v1) rfl) d.X14 1 (.bool v2) rfl) ((hw9.x14.set 0 (.int .i64 v1) (by simp)).set 1 (.bool v2) (by simp));have kTX:=kT9.kept (w':=(w9.setCell ⟨d.X14,0,none⟩ (.int .i64 v1)).setCell ⟨d.X14,1,none⟩ (.bool v2)) ((Below.heap_setCell _ ⟨d.X14,1,none⟩ _ _ (Nat.ne_of_gt l14)).trans (Below.heap_setCell _ ⟨d.X14,0,none⟩ _ _ (Nat.ne_of_gt l14)));have kEX:=kE9.kept (w':=(w9.setCell ⟨d.X14,0,none⟩ (.int .i64 v1)).setCell ⟨d.X14,1,none⟩ (.bool v2)) ((Below.heap_setCell _ ⟨d.X14,1,none⟩ _ _ (Nat.ne_of_gt (Nat.lt_succ_of_lt l14))).trans (Below.heap_setCell _ ⟨d.X14,0,none⟩ _ _ (Nat.ne_of_gt (Nat.lt_succ_of_lt l14)))))
      | (go_at_call 16;refine (hrec hwX).mono ?_;rintro en w10 ⟨rfl,hw10,hm10⟩;have kT10:=kTX.kept (hwX.kept hm10 _ kTX.lt (.inr l10));have kE10:=kEX.kept (hwX.kept hm10 _ kEX.lt (.inr (Nat.le_succ_of_le l10))))
      | (go_at_call 41;refine (hfns hw10).mono ?_;rintro en w11 ⟨rfl,hw11,hm11⟩;have kT11:=kT10.kept (hw10.kept hm11 _ kT10.lt (.inr l10));have kE11:=kE10.kept (hw10.kept hm11 _ kE10.lt (.inr (Nat.le_succ_of_le l10))))
      | (go_at_call 27;refine (hdn hw11).mono ?_;rintro en w12 ⟨rfl,hb12⟩;have hbD:=hb12.alloc hb12.size (Obj.cells #[.int .i64 2,.bool false,.int .i64 e.tk,.int .u32 c.v,.bool false] 67);have hwD:=hw11.below hbD;have kTD:=kT11.below hbD kT11.lt;have kED:=kE11.below hbD kE11.lt;have m3:=kTD.cell 3 _ rfl;have m1:=kED.cell 1 _ rfl;have m2:=kED.cell 2 _ rfl)
      | (go_at_call 32;refine (hsp hwD).mono ?_;rintro en w13 ⟨rfl,hw13⟩;have hw13:=hw13.symm;subst hw13)
      | go_in)
    clear hrec hfns hdn hsp kT8 kE8 kT9 kE9 kTX kEX kT10 kE10 kT11 kE11 kTD kED m1 m2 m3 f0 f1 c0 c1 hw8 hw9 hwX hw10 hw11 hm10 hm11 hb9 hbD hb12 y0 y1 y2;generalize w12.alloc (Obj.cells #[.int .i64 2,.bool false,.int .i64 e.tk,.int .u32 c.v,.bool false] 67)=wc at hwD ⊢;obtain ⟨hG13,hcap,hGd,hGl⟩:=hwD.out;have hinfo:=znr;obtain ⟨i0,hi0⟩: ∃i0,prog.info? 95=some i0:=by
      cases hi:prog.info? 95 with
      | none=>rw [hi] at hinfo;cases hinfo
      | some i=>exact ⟨i,rfl⟩
    rw [hi0] at hinfo;simp only [Option.map_some,Option.some.injEq,Prod.mk.injEq] at hinfo;obtain ⟨j1,j2,j3⟩:=hinfo;have hU:prog.underlying 92=some (.slice 95):=by kernel_rfl
    have hoe:=zor wc 95 3;have hGs:G<((wc.alloc (Obj.cells #[] 95)).drew).heap.size:=by simp;omega
    have hGa:((wc.alloc (Obj.cells #[] 95)).drew).rangeAt G 0 (zap s.L):=zag hG13 (heap_alloc_old wc _ (h:=hGl));have hone:=zkx s.L;have hlen:=zaY s.L;have hn1:((zap s.L).take (k*3)).length=k*3:=by rw [List.length_take,hlen];omega
    have hn2:((zap s.L).drop ((k+1)*3)).length=(s.L.length-(k+1))*3:=by rw [List.length_drop,hlen];omega
    have c1:(0:Int)≤(k:Int):=by omega
    have c2:(k:Int)≤(cov:Int):=by omega
    have c3:(k:Int)+1≤(s.L.length:Int):=by omega
    have c4:(s.L.length:Int)≤(cov:Int):=by omega
    have c5:(0:Int)≤(k:Int)+1:=by omega
    have c6:=zu4 k (by omega);have c7:(k:Int)+1≤(cov:Int):=by omega
    clear hG13 hgo hG e7;go_region_law (first
      | (refine zgy (P0:=prog) (by rfl) _ _ _ (by rfl) wc.heap.size 95 95 i0 _ 3 24 hU hi0 j1 j2 j3 rfl (by decide) (.slice (some ⟨wc.heap.size,0,none⟩) 0 0) 0 [] (by rfl) hoe (some ⟨G,0,none⟩) ⟨G,0,none⟩ rfl k cov ((zap s.L).take (k*3)) (by rfl) hn1
           (zoO hGa (k*3)) (fun u hu=>hone u (List.mem_of_mem_take hu)) (by unfold maxLen;omega) (by omega) (by simp) ?_
         intro v1' wa t1 hown1 hgrow1 hat1;have hGb:=zlQ hGa hgrow1 hGs (fun e=>by simp [Value.ownBlock] at e;omega))
      | (refine zgy (P0:=prog) (by rfl) _ _ _ (by rfl) wc.heap.size 95 t1 i0 _ 3 24 hU hi0 j1 j2 j3 rfl (by decide) v1' (0+k) ([]++(zap s.L).take (k*3)) (by rfl) hown1 (if cov=k+1 then some ⟨G,0,none⟩ else some ⟨G,(k+1)*3,none⟩) (if cov=k+1 then ⟨G,0,none⟩ else ⟨G,(k+1)*3,none⟩) (by split<;>rfl) (s.L.length-(k+1)) (cov-(k+1)) ((zap s.L).drop ((k+1)*3)) (by rfl) hn2
           (zmu hGb (by rw [hlen];omega)) (fun u hu=>hone u (List.mem_of_mem_drop hu)) (by unfold maxLen;omega) (by omega) (by have:=hgrow1.size;simp at this;omega) ?_
         intro v2' wb t2 hown2 hgrow2 hat2))
    all_goals (go_wp2_with fail)
    all_goals
      have hcs: []++(zap s.L).take (k*3)++(zap s.L).drop ((k+1)*3)=zap (s.L.take k++s.L.drop (k+1)):=by
        rw [List.nil_append,zi8 _ _ (by omega),zi9 _ _ (by omega),zbC]
      have hcl:0+k+(s.L.length-(k+1))=(s.L.take k++s.L.drop (k+1)).length:=by rw [List.length_append,List.length_take,List.length_drop];omega
      rw [hcs,hcl] at hown2;have q1:Below wc.heap.size wc ((wc.alloc (Obj.cells #[] 95)).drew):=⟨rfl,rfl,rfl,by simp,fun b hb=>heap_alloc_old wc _ (h:=hb)⟩;have q2:Below wc.heap.size ((wc.alloc (Obj.cells #[] 95)).drew) wa:=⟨hgrow1.os,hgrow1.tape,hgrow1.output,hgrow1.size,fun b hb=>hgrow1.block b (by simp;omega) (fun e=>by simp [Value.ownBlock] at e;omega)⟩;have hs1:=hgrow1.size;simp at hs1;have q3:Below wc.heap.size wa wb:=⟨hgrow2.os,hgrow2.tape,hgrow2.output,hgrow2.size,fun b hb=>hgrow2.block b (by omega) (fun e=>by
        rcases hat1 with h|h
        · rw [h] at e;simp [Value.ownBlock] at e;omega
        · rw [h] at e;simp at e;omega)⟩
      have hX:=hwD.x14.lt;have hF:=hwD.setO (M':=s.L.take k++s.L.drop (k+1)) (zaa ((q1.trans q2).trans q3)) (OwnR.mono hown2 (by omega)) (fun b e=> .inr (OwnR.lt hown2 b e).1);obtain ⟨n1,n2,n3,n4⟩:=hS2n.out;rw [←n1,←n2,←n3,←n4,←hS2L.out] at hF;exact ⟨rfl,s2,_,v2',tk,⟨rfl,rfl,rfl,rfl,rfl,rfl,rfl,rfl,rfl,rfl,rfl,by rw [hS2w.out];rfl,rfl⟩,hF,hS2s⟩
end Go.Proofs
end
