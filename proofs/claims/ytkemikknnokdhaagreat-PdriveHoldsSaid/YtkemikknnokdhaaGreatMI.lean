/-
  Proved: laws on the way to 'PdriveHoldsProof' (VeI); no condition.
-/
import Derived.Test.YtkemikknnokdhaaGreatMD
import Derived.Test.YtkemikknnokdhaaGreatMV
set_option linter.unusedSimpArgs false
set_option linter.unusedVariables false
set_option maxHeartbeats 4000000
noncomputable section
namespace Go.Proofs
open Go.Dw Go.RowKit Go.Maps Go.Sort Go.Deep
set_option maxRecDepth 100000 in
theorem Tryz.zvU {W0 w:World} {n:Nat} {ev tb pk:Bool} {d:Hd} {r:Rg} {aa:Option Addr} {ca:Nat} {acts:List Tn} {ov:Value} {tk:Int} {j:Nat} {s:DS} {g:Nat→Int} {tm:Array Value} (hf:Ho0 n d (.slice aa acts.length ca) ov tk s.own j tm) (hw:HoW W0 n ev tb pk d r w s g ov [.int .i64 s.nx,.bool s.nw] [.int .i64 s.sx,.bool s.sw] s.L) (hs:HoS s tb tk j) (hA:TnsV W0 (.slice aa acts.length ca) acts) (hj:j<acts.length) (h60:acts.length≤60) (hbk:acts[j].bk=false) (hsl100:acts[j].sl.length≤100) (hn:1≤n∧n≤16) (hrk:PgOk r) (hrn:EqI r.n n) (hno:(za3 60000 r.n s tk acts[j].sl).1≠0):
    (zbb prog [0,0,1,0,1,1,1,1,1,1,1,1,1,1,4]).wp prog (zn5 W0 n ev tb pk d r (.slice aa acts.length ca) j) ⟨tm,[]⟩ w:=by
  obtain ⟨jf,hjf⟩:=zhv (t:=tm) hf.sz hf.t0 hf.t2 hf.t4 hf.t8 hf.t9 hf.t10 hf.t12 hf.t13 hf.t14 hf.t15 hf.t16 hf.t17;rw [hjf];clear hjf hf;obtain ⟨R,o,hra,hrow⟩: ∃R o,aa=some ⟨R,o,none⟩∧ ∀(i:Nat) (hi:i<acts.length),W0.rangeAt R (o+4*i) acts[i].cells:=by
    obtain ⟨aa',c',e,h⟩:=hA.val;cases e;rcases h with q|⟨R,o,q1,q2⟩
    · rw [q] at hj;simp at hj
    · exact ⟨R,o,q1,q2⟩
  have hco:=hA.ok acts[j] (List.getElem_mem hj);have hcw:=hrow j hj;have hRl:R<W0.heap.size:=World.block_lt_of_cell? W0 _ (hcw 0 _ rfl);have hcr:=zag hcw (hw.old.block R hRl);obtain ⟨c,hc⟩: ∃c,c=acts[j]:=⟨_,rfl⟩;rw [←hc] at hco hcr hbk hsl100 hno;rw [Nat.mul_comm 4 j] at hcr;obtain ⟨sa,cs,hsv,hsok,hsr⟩:=hco.sv;have hv0: ∀ {w'},Below W0.heap.size W0 w'→SegV (fun b=>W0.heap.size≤b) w' (.slice sa c.sl.length cs) c.sl:=fun {w'} hb=>SegV.setK (A:=fun _=>False) (w:=W0) ⟨sa,cs,rfl,hsok,hsr⟩ (fun b hb' q=>absurd q (by omega)) (fun b hb' _=>hb.block b hb');have a0:=hcr 0 _ rfl;have a1:=hcr 1 _ rfl;have a2:=hcr 2 _ rfl;have a3:=hcr 3 _ rfl;rw [hsv] at a1;rw [hbk] at a0;simp only [Nat.add_zero] at a0;have hj':(j:Int)<acts.length:=by omega
  clear hc hcr hcw hrow hA hsr hco hsv hbk;subst hra;have hbA:=(Below.refl w.heap.size w).alloc (Nat.le_refl _) (Obj.cells #[.bool false,.slice sa c.sl.length cs,.int .i64 c.n,.int .u32 c.v] 89);have hwA:=hw.below hbA;have kT:=Cl.new w #[.bool false,.slice sa c.sl.length cs,.int .i64 c.n,.int .u32 c.v] 89;have pT:=kT.cell 1 _ rfl;obtain ⟨l1,l2,l3,l4⟩:=hw.x10l;have lo:=hw.old.size;have l14:=hw.x14.lt;have l10:d.X10≤w.heap.size:=by omega
  have hks:=zkQ (hv0 hwA.old) (by omega);have hof:=fun {w1:World} {u:Value} (hb1:Below (w.alloc (Obj.cells #[.bool false,.slice sa c.sl.length cs,.int .i64 c.n,.int .u32 c.v] 89)).heap.size (w.alloc (Obj.cells #[.bool false,.slice sa c.sl.length cs,.int .i64 c.n,.int .u32 c.v] 89)) w1) (hu:OwnSeg w1 (w.alloc (Obj.cells #[.bool false,.slice sa c.sl.length cs,.int .i64 c.n,.int .u32 c.v] 89)).heap.size u c.sl)=>(by
    have q:=hwA.below hb1;have hlt:=hwA.dr.f.lt;exact (zp1 q.dr (OwnSeg.segV hu hsok (A:=hoA d ov) (fun b q1 q=>by have:=hlt b q;omega)) (by omega) (by have:=hs.tk0;omega)).mono fun en w2 hh=>⟨hh.1,q.turn hh.2.1 hh.2.2,hh.2.2⟩:Calls prog 13 #[.pointer (some ⟨d.S,0,none⟩),.int .i64 tk,u] w1 fun en w2=>en= .returned (.int .i64 (za3 60000 r.n s tk c.sl).1)∧HoW W0 n ev tb pk d r w2 (za3 60000 r.n s tk c.sl).2 g ov [.int .i64 s.nx,.bool s.nw] [.int .i64 s.sx,.bool s.sw] s.L∧Dw.Mv (dK d.S d.I d.B) w1 w2)
  have hsame:=znH hno;rw [hsame] at hof;have hfull:(za3 60000 r.n s tk c.sl).1=7→s.own<s.need c.sl:=zsk hw.dr.pb hrk (by exact zph);generalize (za3 60000 r.n s tk c.sl).1=er at hof hno hfull;have hsp:=fun {w':World} (q:HoW W0 n ev tb pk d r w' s g ov [.int .i64 s.nx,.bool s.nw] [.int .i64 s.sx,.bool s.sw] s.L)=>zgT q.dr;have hbz:=fun {w':World} (q:HoW W0 n ev tb pk d r w' s g ov [.int .i64 s.nx,.bool s.nw] [.int .i64 s.sx,.bool s.sw] s.L)=>(by
    have q1:=zdy q.dr;rw [hs.ph] at q1;exact q1:Calls prog 33 #[.pointer (some ⟨d.S,0,none⟩)] w' fun en w2=>en= .returned (.bool false)∧w2=w')
  have hneed:s.need c.sl=if tb=true∧1<c.sl.length then 1 else (c.sl.length:Int):=by
    unfold DS.need DS.tab;rw [hs.tb];simp
  have close: ∀ {w9:World} (_:HoW W0 n ev tb pk d r w9 s g ov [.int .i64 s.nx,.bool s.nw] [.int .i64 s.sx,.bool s.sw] s.L),True:=fun _=>trivial;clear close hsame hwA lo l14;have arms:True:=trivial;clear arms;cases tb with
  | false=>
    rw [if_neg (by simp)] at hneed;by_cases h7:er=7
    · have hle:=hfull h7;rw [hneed] at hle;have hle': ¬(c.sl.length:Int)≤s.own:=by omega
      subst h7;clear hfull hneed hle hno;refine zaD (c':=(zae 0 (zae 0 (zae 1 (zae 0 (zae 1 (zae 1 (zae 1 (zae 1 (zae 1 (zae 1 (zae 1 (zae 1 (zae 1 (zae 1 (match (f4).body with|some c=>c|none=> .skip)))))))))))))))) (by kernel_rfl) ?_
      dsimp only [f4,zae]
      go_wp2_with (first
        | (go_at_call 14;refine hks.mono ?_;rintro en w1 ⟨u,rfl,hu,hb1⟩)
        | (go_at_call 13;refine (hof hb1 hu).mono ?_;rintro en w2 ⟨rfl,hw2,hm2⟩;have kT2:=(kT.below hb1 kT.lt).kept ((hw.below (hbA.trans (hb1.mono hbA.size))).kept hm2 _ (kT.below hb1 kT.lt).lt (.inr l10));have p2:=kT2.cell 1 _ rfl;have p4:=hw2.x4.cell 1 _ rfl)
        | (go_at_call 32;refine (hsp hw2).mono ?_;rintro en w3 ⟨rfl,hw3⟩;have hw3:=hw3.symm;subst hw3)
        | (go_at_call 33;refine (hbz hw2).mono ?_;rintro en w4 ⟨rfl,hw4⟩;have hw4:=hw4.symm;subst hw4)
        | go_in)
      exact ⟨rfl,s,g,ov,tk,⟨rfl,rfl,rfl,rfl,rfl,rfl,rfl,rfl,rfl,rfl,rfl,rfl,rfl⟩,hw2,hs.up⟩
    · clear hfull hneed;refine zaD (c':=(zae 0 (zae 0 (zae 1 (zae 0 (zae 1 (zae 1 (zae 1 (zae 1 (zae 1 (zae 1 (zae 1 (zae 1 (zae 1 (zae 1 (match (f4).body with|some c=>c|none=> .skip)))))))))))))))) (by kernel_rfl) ?_
      dsimp only [f4,zae]
      go_wp2_with (first
        | (go_at_call 14;refine hks.mono ?_;rintro en w1 ⟨u,rfl,hu,hb1⟩)
        | (go_at_call 13;refine (hof hb1 hu).mono ?_;rintro en w2 ⟨rfl,hw2,hm2⟩;have kT2:=(kT.below hb1 kT.lt).kept ((hw.below (hbA.trans (hb1.mono hbA.size))).kept hm2 _ (kT.below hb1 kT.lt).lt (.inr l10));have p2:=kT2.cell 1 _ rfl;have p4:=hw2.x4.cell 1 _ rfl)
        | (go_at_call 32;refine (hsp hw2).mono ?_;rintro en w3 ⟨rfl,hw3⟩;have hw3:=hw3.symm;subst hw3)
        | (go_at_call 33;refine (hbz hw2).mono ?_;rintro en w4 ⟨rfl,hw4⟩;have hw4:=hw4.symm;subst hw4)
        | go_in)
      exact ⟨rfl,s,g,ov,tk,⟨rfl,rfl,rfl,rfl,rfl,rfl,rfl,rfl,rfl,rfl,rfl,rfl,rfl⟩,hw2,hs.up⟩
  | true=>
    by_cases h1:1<c.sl.length
    · rw [if_pos ⟨rfl,h1⟩] at hneed;have h1':(c.sl.length:Int)>1:=by omega
      by_cases h7:er=7
      · have hle:=hfull h7;rw [hneed] at hle;have hle': ¬(1:Int)≤s.own:=by omega
        subst h7;clear hfull hneed hle hno;refine zaD (c':=(zae 0 (zae 0 (zae 1 (zae 0 (zae 1 (zae 1 (zae 1 (zae 1 (zae 1 (zae 1 (zae 1 (zae 1 (zae 1 (zae 1 (match (f4).body with|some c=>c|none=> .skip)))))))))))))))) (by kernel_rfl) ?_
        dsimp only [f4,zae]
        go_wp2_with (first
          | (go_at_call 14;refine hks.mono ?_;rintro en w1 ⟨u,rfl,hu,hb1⟩)
          | (go_at_call 13;refine (hof hb1 hu).mono ?_;rintro en w2 ⟨rfl,hw2,hm2⟩;have kT2:=(kT.below hb1 kT.lt).kept ((hw.below (hbA.trans (hb1.mono hbA.size))).kept hm2 _ (kT.below hb1 kT.lt).lt (.inr l10));have p2:=kT2.cell 1 _ rfl;have p4:=hw2.x4.cell 1 _ rfl)
          | (go_at_call 32;refine (hsp hw2).mono ?_;rintro en w3 ⟨rfl,hw3⟩;have hw3:=hw3.symm;subst hw3)
          | (go_at_call 33;refine (hbz hw2).mono ?_;rintro en w4 ⟨rfl,hw4⟩;have hw4:=hw4.symm;subst hw4)
          | go_in)
        exact ⟨rfl,s,g,ov,tk,⟨rfl,rfl,rfl,rfl,rfl,rfl,rfl,rfl,rfl,rfl,rfl,rfl,rfl⟩,hw2,hs.up⟩
      · clear hfull hneed;refine zaD (c':=(zae 0 (zae 0 (zae 1 (zae 0 (zae 1 (zae 1 (zae 1 (zae 1 (zae 1 (zae 1 (zae 1 (zae 1 (zae 1 (zae 1 (match (f4).body with|some c=>c|none=> .skip)))))))))))))))) (by kernel_rfl) ?_
        dsimp only [f4,zae]
        go_wp2_with (first
          | (go_at_call 14;refine hks.mono ?_;rintro en w1 ⟨u,rfl,hu,hb1⟩)
          | (go_at_call 13;refine (hof hb1 hu).mono ?_;rintro en w2 ⟨rfl,hw2,hm2⟩;have kT2:=(kT.below hb1 kT.lt).kept ((hw.below (hbA.trans (hb1.mono hbA.size))).kept hm2 _ (kT.below hb1 kT.lt).lt (.inr l10));have p2:=kT2.cell 1 _ rfl;have p4:=hw2.x4.cell 1 _ rfl)
          | (go_at_call 32;refine (hsp hw2).mono ?_;rintro en w3 ⟨rfl,hw3⟩;have hw3:=hw3.symm;subst hw3)
          | (go_at_call 33;refine (hbz hw2).mono ?_;rintro en w4 ⟨rfl,hw4⟩;have hw4:=hw4.symm;subst hw4)
          | go_in)
        exact ⟨rfl,s,g,ov,tk,⟨rfl,rfl,rfl,rfl,rfl,rfl,rfl,rfl,rfl,rfl,rfl,rfl,rfl⟩,hw2,hs.up⟩
    · rw [if_neg (fun q=>h1 q.2)] at hneed;have h1': ¬(c.sl.length:Int)>1:=by omega
      by_cases h7:er=7
      · have hle:=hfull h7;rw [hneed] at hle;have hle': ¬(c.sl.length:Int)≤s.own:=by omega
        subst h7;clear hfull hneed hle hno;refine zaD (c':=(zae 0 (zae 0 (zae 1 (zae 0 (zae 1 (zae 1 (zae 1 (zae 1 (zae 1 (zae 1 (zae 1 (zae 1 (zae 1 (zae 1 (match (f4).body with|some c=>c|none=> .skip)))))))))))))))) (by kernel_rfl) ?_
        dsimp only [f4,zae]
        go_wp2_with (first
          | (go_at_call 14;refine hks.mono ?_;rintro en w1 ⟨u,rfl,hu,hb1⟩)
          | (go_at_call 13;refine (hof hb1 hu).mono ?_;rintro en w2 ⟨rfl,hw2,hm2⟩;have kT2:=(kT.below hb1 kT.lt).kept ((hw.below (hbA.trans (hb1.mono hbA.size))).kept hm2 _ (kT.below hb1 kT.lt).lt (.inr l10));have p2:=kT2.cell 1 _ rfl;have p4:=hw2.x4.cell 1 _ rfl)
          | (go_at_call 32;refine (hsp hw2).mono ?_;rintro en w3 ⟨rfl,hw3⟩;have hw3:=hw3.symm;subst hw3)
          | (go_at_call 33;refine (hbz hw2).mono ?_;rintro en w4 ⟨rfl,hw4⟩;have hw4:=hw4.symm;subst hw4)
          | go_in)
        exact ⟨rfl,s,g,ov,tk,⟨rfl,rfl,rfl,rfl,rfl,rfl,rfl,rfl,rfl,rfl,rfl,rfl,rfl⟩,hw2,hs.up⟩
      · clear hfull hneed;refine zaD (c':=(zae 0 (zae 0 (zae 1 (zae 0 (zae 1 (zae 1 (zae 1 (zae 1 (zae 1 (zae 1 (zae 1 (zae 1 (zae 1 (zae 1 (match (f4).body with|some c=>c|none=> .skip)))))))))))))))) (by kernel_rfl) ?_
        dsimp only [f4,zae]
        go_wp2_with (first
          | (go_at_call 14;refine hks.mono ?_;rintro en w1 ⟨u,rfl,hu,hb1⟩)
          | (go_at_call 13;refine (hof hb1 hu).mono ?_;rintro en w2 ⟨rfl,hw2,hm2⟩;have kT2:=(kT.below hb1 kT.lt).kept ((hw.below (hbA.trans (hb1.mono hbA.size))).kept hm2 _ (kT.below hb1 kT.lt).lt (.inr l10));have p2:=kT2.cell 1 _ rfl;have p4:=hw2.x4.cell 1 _ rfl)
          | (go_at_call 32;refine (hsp hw2).mono ?_;rintro en w3 ⟨rfl,hw3⟩;have hw3:=hw3.symm;subst hw3)
          | (go_at_call 33;refine (hbz hw2).mono ?_;rintro en w4 ⟨rfl,hw4⟩;have hw4:=hw4.symm;subst hw4)
          | go_in)
        exact ⟨rfl,s,g,ov,tk,⟨rfl,rfl,rfl,rfl,rfl,rfl,rfl,rfl,rfl,rfl,rfl,rfl,rfl⟩,hw2,hs.up⟩
end Go.Proofs
end
