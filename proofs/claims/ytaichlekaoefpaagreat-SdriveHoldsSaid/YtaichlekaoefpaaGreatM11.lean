/-
  Proved: laws on the way to 'SdriveHoldsProof' (texts YcA YcB YcC VbB VbC VbD VbE VbF VbG VbH VbI VbJ VdE VdF0 VdD VdG UbA UbB UbC UbD UbF UbG YcD YcE VbK VbM VcE VaX VcF VcG VcH VcI VcJ VaY VaZ VcA VcB VcC VcD VdF YcF VdL0 VdL1 UaA UaB UaC); no condition.
-/
import Derived.Test.YtaichlekaoefpaaGreatM10
import Derived.Deep.MidRow
import Derived.Sort.OwnSortedInts
set_option linter.unusedSimpArgs false
set_option linter.unusedVariables false
set_option maxHeartbeats 4000000
noncomputable section
namespace Go.Proofs
open Go.Dw Go.RowKit Go.Maps Go.Sort Go.Deep
set_option maxRecDepth 100000 in
theorem Tryz.zwT {w:World} {P L Bs B N:Nat} {r:Rg} {ev tb:Bool} (st:GM w P L Bs B N (fun _=>0)) (hr:SgOk r) (hN:N≤1048576) (hF:40000≤N):
    Calls prog 11 #[.pointer (some ⟨P,0,none⟩),r.val,.agg #[.bool ev,.bool tb,.bool false],.int .u64 20000] w fun e w'=> ∃S M,e= .returned (.tuple #[.pointer (some ⟨S,0,none⟩),.int .i64 0])∧(w.heap.size≤S∧w.heap.size≤M)∧SDW (fun b=>b<w.heap.size∨sdK S M B b) w' S P L Bs B M N r (SD.fresh ev tb r.n.toNat) (fun _=>0)∧Dw.Mv (· =B) w w':=by
  have hbn:=hr.ok.bnd;have hn16:=hr.n16;obtain ⟨n,hrn⟩: ∃n:Nat,r.n=n:=⟨r.n.toNat,by omega⟩;have hn2:1≤n∧n≤16:=by omega
  have hb2:=((Below.refl w.heap.size w).alloc (Nat.le_refl _) (Obj.cells #[.bool false,.int .i64 r.n,.int .u64 r.d,.int .u64 r.v,.int .u64 r.c] 31)).alloc (by simp) (Obj.cells #[.bool ev,.bool tb,.bool false] 23);have kA:=(Cl.new w #[.bool false,.int .i64 r.n,.int .u64 r.d,.int .u64 r.v,.int .u64 r.c] 31).alloc (.cells #[.bool ev,.bool tb,.bool false] 23);have kB:=Cl.new2 (w:=w.alloc (Obj.cells #[.bool false,.int .i64 r.n,.int .u64 r.d,.int .u64 r.v,.int .u64 r.c] 31)) (b:=w.heap.size+1) (arr:= #[.bool ev,.bool tb,.bool false]) (t:=23) (by simp);have st2:=st.below hb2;have hfit:=zpO st2 hr hN hF;have hhas: ∀w',Below w.heap.size w w'→Calls prog 51 #[.pointer (some ⟨P,0,none⟩),.int .u64 20000,.int .u64 ((n:Int)*1024)] w' fun e w2=>e= .returned (.bool true)∧Below w'.heap.size w' w2:=fun w' hb=>by
    have:=zl4 P L Bs B N 20000 ((n:Int)*1024) _ w' (st.below hb) hN (by omega) (by omega) (by omega) (by omega)
    rwa [decide_eq_true (show 1≤(n:Int)*1024∧20000+(n:Int)*1024≤(N:Int) by omega)] at this
  have hfn:=fun w'=>zto hn2 w';have hmk: ∀(w:World),(Instr.makeMap 121 none).run prog w= .ok (.map (some w.heap.size)) (w.alloc (.map #[] 0)):=fun _=>rfl;have w1k:IntKind.wrap .u64 (n:Int)=n:=wrap_u64 _ (by omega) (by omega);have w2k:IntKind.wrap .u64 ((n:Int)*1024)=(n:Int)*1024:=wrap_u64 _ (by omega) (by omega);have hbl:=st.bl;have hpl:=st.pl;have hll:=st.ll;have hsl:=st.sl;unfold Rg.val at hfit ⊢;rw [hrn] at kA kB hb2 st2 hfit ⊢;have hsz3: ∀ {w3:World},Below ((w.alloc (Obj.cells #[.bool false,.int .i64 n,.int .u64 r.d,.int .u64 r.v,.int .u64 r.c] 31)).alloc (Obj.cells #[.bool ev,.bool tb,.bool false] 23)).heap.size ((w.alloc (Obj.cells #[.bool false,.int .i64 n,.int .u64 r.d,.int .u64 r.v,.int .u64 r.c] 31)).alloc (Obj.cells #[.bool ev,.bool tb,.bool false] 23)) w3→w.heap.size+2≤w3.heap.size:=fun hb=>by have:=hb.size;simp at this;omega
  rw [Int.toNat_natCast];have rest: ∀ {w4 w5:World} {u2:Option Addr} {cu:Nat},Below w.heap.size w w4→Below w4.heap.size w4 w5→OwnR 3 1 w5 w4.heap.size (.slice u2 (upto n).length cu) (upto n).length (zac (upto n))→w.heap.size+2≤w4.heap.size→ ∀WB:World,WB=((w5.alloc (Obj.cells #[.int .i64 n,.slice u2 (upto n).length cu] 79)).alloc (.map #[] 0)).alloc (.cells (((SD.fresh ev tb n).row r P (w5.heap.size+1) (.slice none 0 0) (.pointer none) (.slice none 0 0) (.slice u2 (upto n).length cu)).toArray) 125)→
      SDWf [] False (fun b=>b<w.heap.size∨sdK (w5.heap.size+2) (w5.heap.size+1) B b) WB (w5.heap.size+2) P L Bs B (w5.heap.size+1) N r (SD.fresh ev tb n) (fun _=>0)∧Below w.heap.size w WB∧WB.heap.size=w5.heap.size+1+1+1:=fun {w4 w5 u2 cu} h04 h45 hu hs WB hWB=>by
    have h05:=zdy h04 h45;have hs5:=h45.size;have h0B:Below w.heap.size w WB:=hWB▸zas (zas (zas h05));have h5B:Below w5.heap.size w5 WB:=hWB▸zas (zas (zas (Below.refl _ _)));have hsB:WB.heap.size=w5.heap.size+3:=by rw [hWB];simp
    have hM:WB.heap[w5.heap.size+1]? =some (.map #[] 0):=by
      rw [hWB,(MapKept.heap_alloc _ _).2 _ (by simp)];have:=heap_alloc_last (w5.alloc (Obj.cells #[.int .i64 n,.slice u2 (upto n).length cu] 79)) (.map #[] 0)
      rwa [show (w5.alloc (Obj.cells #[.int .i64 n,.slice u2 (upto n).length cu] 79)).heap.size=w5.heap.size+1 by simp] at this
    have kS:Cl WB (w5.heap.size+2) ((SD.fresh ev tb n).row r P (w5.heap.size+1) (.slice none 0 0) (.pointer none) (.slice none 0 0) (.slice u2 (upto n).length cu)):=by
      rw [hWB];exact Cl.new2 (by simp)
    have hi:=IdV.own hu (A:=(· <w4.heap.size)) (fun b q=>q);have hi2:=hi.setK (A':=fun b=>b<w.heap.size∨sdK (w5.heap.size+2) (w5.heap.size+1) B b) (w':=WB) (fun b q1 q2=>by rcases q2 with q2|rfl|rfl|rfl<;>omega) fun b q1 _=>h5B.block b q1;exact ⟨⟨⟨_,_,_,_,kS,⟨none,0,rfl,Nat.le_refl _,.inl rfl⟩,rfl,fun q=>q.elim,SegV.none,hi2⟩,⟨⟨#[],0,hM,⟨⟨fun e he=>by simp at he,by simp⟩,⟨fun e he=>by simp at he,by simp⟩⟩,fun k=>⟨fun _=>rfl,fun e he=>by cases he⟩⟩,by simp [SD.fresh]⟩,st.below h0B,by omega,.inr (.inl rfl),.inr (.inr (.inl rfl)),.inr (.inr (.inr rfl)),fun b q=>by rcases q with q|rfl|rfl|rfl<;>omega,hr,hN,hF,⟨by omega,by omega,by omega,by omega⟩,⟨by omega,by omega,by omega,by omega⟩⟩,h0B,hsB⟩
  have hdn:HidP (r.n=n):=⟨hrn⟩;have hrow: ∀M fv,((SD.fresh ev tb n).row r P M (.slice none 0 0) (.pointer none) (.slice none 0 0) fv).toArray= #[.pointer (some ⟨P,0,none⟩),.bool false,.int .i64 n,.int .u64 r.d,.int .u64 r.v,.int .u64 r.c,.bool ev,.bool tb,.bool false,.int .u64 20000,.int .i64 n,fv,.map (some M),.int .u16 0,.int .u16 0,
    .slice none 0 0,.pointer none,.slice none 0 0,.int .i64 0,.bool false,.int .i64 0,.int .u32 0,.bool false,.bool false,.bool false]:=fun M fv=>by
    unfold SD.row SD.fresh;rw [hrn]
  simp only [hrow] at rest;clear hrn hrow;rcases Bool.eq_false_or_eq_true tb with htb|htb
  all_goals
    rw [htb] at kA kB hb2 st2 hfit hsz3 rest ⊢;clear htb;go_enter func11,ntmps11;go_wp2_with (first
      | (go_at_call 49;refine (zgP P L Bs B N 0 _ _ st2).mono ?_;rintro e w' ⟨rfl,hw⟩;have hw:=hw.symm;subst hw)
      | (go_at_call 50;refine hfit.mono ?_;rintro e w3 ⟨rfl,hb3⟩;have hb03:=hb2.trans (hb3.mono hb2.size);have kA3:=kA.below hb3 kA.lt;have kB3:=kB.below hb3 kB.lt;have hs3:=hsz3 hb3;have x0:=kA3.cell 0 _ rfl;have x1:=kA3.cell 1 _ rfl;have x2:=kA3.cell 2 _ rfl;have x3:=kA3.cell 3 _ rfl;have x4:=kA3.cell 4 _ rfl;have y0:=kB3.cell 0 _ rfl;have y1:=kB3.cell 1 _ rfl;have y2:=kB3.cell 2 _ rfl)
      | (go_at_call 51;refine (hhas _ hb03).mono ?_;rintro e w4 ⟨rfl,hb4⟩;have hs3':=hb4.size;replace hb03:=hb03.trans (hb4.mono hb03.size);replace kA3:=kA3.below hb4 kA3.lt;replace kB3:=kB3.below hb4 kB3.lt;have v0:=kA3.cell 0 _ rfl;have v1:=kA3.cell 1 _ rfl;have v2:=kA3.cell 2 _ rfl;have v3:=kA3.cell 3 _ rfl;have v4:=kA3.cell 4 _ rfl;have u0:=kB3.cell 0 _ rfl;have u1:=kB3.cell 1 _ rfl;have u2:=kB3.cell 2 _ rfl)
      | (go_at_call 52;refine (hfn _).mono ?_;rintro e w5 ⟨uf,rfl,huf,hb5⟩;have kA5:=kA3.below hb5 kA3.lt;have kB5:=kB3.below hb5 kB3.lt;obtain ⟨su,cu,rfl,_⟩:=OwnR.row huf;have s0:=kA5.cell 0 _ rfl;have s1:=kA5.cell 1 _ rfl;have s2:=kA5.cell 2 _ rfl;have s3:=kA5.cell 3 _ rfl;have s4:=kA5.cell 4 _ rfl;have t0:=kB5.cell 0 _ rfl;have t1:=kB5.cell 1 _ rfl;have t2:=kB5.cell 2 _ rfl;have kA6:=kA5.alloc (Obj.cells #[.int .i64 n,.slice su (upto n).length cu] 79);have kB6:=kB5.alloc (Obj.cells #[.int .i64 n,.slice su (upto n).length cu] 79);have s0':=kA6.cell 0 _ rfl;have s1':=kA6.cell 1 _ rfl;have s2':=kA6.cell 2 _ rfl;have s3':=kA6.cell 3 _ rfl;have s4':=kA6.cell 4 _ rfl;have t0':=kB6.cell 0 _ rfl;have t1':=kB6.cell 1 _ rfl;have t2':=kB6.cell 2 _ rfl)
      | go_in)
    obtain ⟨hW0,h0B,hWs⟩:=rest hb03 hb5 huf (by omega) _ rfl;clear rest s0 s1 s2 s3 s4 s0' s1' s2' s3' s4' t0 t1 t2 t0' t1' t2' kA6 kB6 kA5 kB5 kA3 kB3 x0 x1 x2 x3 x4 y0 y1 y2 huf hfit hhas hfn hmk kA kB hsz3
    try clear v0 v1 v2 v3 v4 u0 u1 u2
    generalize ((w5.alloc (Obj.cells #[.int .i64 n,.slice su (upto n).length cu] 79)).alloc (.map #[] 0)).alloc (Obj.cells _ 125)=WB at*;have hbG:=(Below.refl WB.heap.size WB).alloc (Nat.le_refl _) (Obj.cells #[.int .i64 2,.int .i64 3,.int .i64 5] 3);have kG:=Cl.new WB #[.int .i64 2,.int .i64 3,.int .i64 5] 3;have hW1:=hW0.below hbG;have hm1:=(zaa (K:=(· =B)) h0B).trans (zaa hbG);have hs5:=hb5.size;have hs0:=hb03.size;rw [hWs] at kG;have hGB:w5.heap.size+1+1+1≠B:=by omega
    generalize hSS:w5.heap.size+1+1=S at*;go_loopw [69] (fun iv wr=>(iv= .int .i64 0∨iv= .int .i64 1∨iv= .int .i64 2∨iv= .int .i64 3)∧SDWf [] False (fun b=>b<w.heap.size∨sdK S (w5.heap.size+1) B b) wr S P L Bs B (w5.heap.size+1) N r (SD.fresh ev _ n) (fun _=>0)∧Cl wr (S+1) [.int .i64 2,.int .i64 3,.int .i64 5]∧Dw.Mv (· =B) w wr) (fun iv _=>3-(RowKit.intOf iv).toNat)
    case atStart=>exact ⟨.inl rfl,hW1,kG,hm1⟩
    case round=>
      obtain ⟨hi,hW,kR,hmr⟩:=hrel;have hrg:=hW.rg;obtain ⟨rok,rn,rd,rv,rc⟩:=hrg;have g0:=kR.cell 0 _ rfl;have g1:=kR.cell 1 _ rfl;have g2:=kR.cell 2 _ rfl;have hst: ∀ {what:Int} {a:Nat},a+2≤N→(∀w',Calls prog 136 #[r.val,.int .i64 what,.int .i64 0] w' fun e w2=>e= .returned (.tuple #[.int .u64 a,.int .i64 2,.int .i64 0])∧Below w'.heap.size w' w2)→_:=fun {what a} q1 q2=>zgi hW (v:=0) (k:=2) (.inr (.inl rfl)) q1 q2;obtain ⟨a2,ha2⟩: ∃a:Nat,r.v=a:=⟨r.v.toNat,by omega⟩;obtain ⟨a3,ha3⟩: ∃a:Nat,r.v+2=a:=⟨(r.v+2).toNat,by omega⟩;obtain ⟨a5,ha5⟩: ∃a:Nat,r.v+4+2*r.n=a:=⟨(r.v+4+2*r.n).toNat,by omega⟩;have h2:=hst (what:=2) (a:=a2) (by omega) (fun w'=>by rw [←ha2];exact zuF r rok w');have h3:=hst (what:=3) (a:=a3) (by omega) (fun w'=>by rw [←ha3];exact zpo r rok w');have h5:=hst (what:=5) (a:=a5) (by omega) (fun w'=>by rw [←ha5];exact zpl r rok w');simp only [zqp] at h2 h3 h5;have hGl:=kR.lt;clear hst rok rn rd rv rc ha2 ha3 ha5;rcases hi with rfl|rfl|rfl|rfl
      · go_wp2_with (first
          | (go_at_call 53;refine h2.mono ?_;rintro e w6 ⟨rfl,h6,hm6⟩)
          | go_in)
        exact ⟨⟨.inr (.inl rfl),h6,kR.kept (hm6.block _ hGl hGB),hmr.trans hm6⟩,by simp [RowKit.intOf]⟩
      · go_wp2_with (first
          | (go_at_call 53;refine h3.mono ?_;rintro e w6 ⟨rfl,h6,hm6⟩)
          | go_in)
        exact ⟨⟨.inr (.inr (.inl rfl)),h6,kR.kept (hm6.block _ hGl hGB),hmr.trans hm6⟩,by simp [RowKit.intOf]⟩
      · go_wp2_with (first
          | (go_at_call 53;refine h5.mono ?_;rintro e w6 ⟨rfl,h6,hm6⟩)
          | go_in)
        exact ⟨⟨.inr (.inr (.inr rfl)),h6,kR.kept (hm6.block _ hGl hGB),hmr.trans hm6⟩,by simp [RowKit.intOf]⟩
      · go_wp2_with fail;go_ret2;refine ⟨S,rfl,w5.heap.size+1,⟨by omega,by omega⟩,⟨hW.nwMono (fun q=>absurd q.1 (by show¬1≤0;decide)),by rw [hdn.out,Int.toNat_natCast];exact SDB.fresh ev _ n⟩,hmr⟩
theorem Tryz.zhR {n:Nat} (h:n=1∨n=2∨n=4∨n=8∨n=16):SgOk (zaw n):=by
 have h0:=zp9 h;rcases h with rfl|rfl|rfl|rfl|rfl<;>exact ⟨h0,by decide,by decide,by decide,⟨by decide,by decide⟩⟩
theorem Tryz.zoj {r:Rg} (s:SD) (g:Nat→Int): ∃x y z:Int,(zay r s g).1= .agg #[.int .i64 x,.int .i64 y,.int .i64 z]:=by
 unfold zay;split
 ·exact ⟨_,_,_,rfl⟩
 ·split
  ·exact ⟨_,_,_,rfl⟩
  ·unfold zcl
   dsimp only
   repeat' split
   all_goals exact ⟨_,_,_,rfl⟩
section
variable {A:Nat→Prop} {w w':World} {S P L Bs B M N:Nat} {r:Tryz.Rg} {s s':Tryz.SD} {g g':Nat→Int}
set_option maxRecDepth 100000 in
theorem Tryz.zhl (h:SDW A w S P L Bs B M N r s g) (hi:SDI s) {k:Int} (hk:0≤k) (hf:zdL r 20 0 s g=(k,s',g')):
    Calls prog 38 #[.pointer (some ⟨S,0,none⟩)] w fun e w'=>e= .returned (.int .i64 k)∧SDW A w' S P L Bs B M N r s' g'∧Dw.Mv (sdK S M B) w w':=by
  go_enter func38,ntmps38;go_wp2;go_loopw [3] (fun iv wr=> ∃(j:Nat) (s2:SD) (g2:Nat→Int),j≤20∧iv= .int .i64 j∧SDW A wr S P L Bs B M N r s2 g2∧SDI s2∧zdL r (20-j) j s2 g2=(k,s',g')∧Dw.Mv (sdK S M B) w wr) (fun iv _=>20-(RowKit.intOf iv).toNat)
  case atStart=>exact ⟨0,s,g,by decide,rfl,h,hi,hf,Dw.Mv.refl (sdK S M B) w⟩
  case round=>
    obtain ⟨j,s2,g2,hj,rfl,hW,hI,hF,hM⟩:=hrel;by_cases hj20:j<20
    · have hj':(j:Int)<20:=by omega
      have hbz:=zeC hW;by_cases hp:s2.ph=0
      · have e:=zfk (r:=r) (f:=20-j) (n:=j) (s:=s2) (g:=g2) hp;rw [hF] at e;cases e;rw [hp] at hbz;clear hF hI;go_wp2_with (first
          | (go_at_call 32;refine hbz.mono ?_;rintro e wA ⟨rfl,hw⟩;have hw:=hw.symm;subst hw)
          | go_in)
        go_ret;exact ⟨rfl,hW,hM⟩
      · have hst:=zpC hW hI;obtain ⟨x,y,z,hacc⟩:=zoj (r:=r) s2 g2;have hIn:=hI.step (r:=r) (g:=g2);have hF2:(zay r s2 g2).2.1=0∧zdL r (20-(j+1)) ((j:Int)+1) (zay r s2 g2).2.2.1 (zay r s2 g2).2.2.2=(k,s',g'):=by
          rw [show 20-j=(20-(j+1))+1 by omega] at hF;unfold zdL at hF;rw [if_neg hp] at hF;by_cases h0:(zay r s2 g2).2.1=0
          · rw [if_pos h0] at hF;exact ⟨h0,hF⟩
          · rw [if_neg h0] at hF;have:=congrArg Prod.fst hF;have:(-1:Int)=k:=this;omega
        have hbt:decide (s2.ph≠0)=true:=decide_eq_true hp;rw [hbt] at hbz;rw [hacc,hF2.1] at hst;generalize hS':(zay r s2 g2).2.2.1=s3 at hst hIn hF2;generalize hG':(zay r s2 g2).2.2.2=g3 at hst hF2;have hF3:=hF2.2;clear hF2 hF hacc hS' hG' hbt hp hI;go_wp2_with (first
          | (go_at_call 32;refine hbz.mono ?_;rintro e wA ⟨rfl,hw⟩;have hw:=hw.symm;subst hw)
          | (go_at_call 23;refine hst.mono ?_;rintro e wB ⟨rfl,hWB,hMB⟩)
          | go_in)
        have hbx:=(Below.refl wB.heap.size wB).alloc (Nat.le_refl _) (Obj.cells #[.int .i64 x,.int .i64 y,.int .i64 z] 56);exact ⟨⟨j+1,s3,g3,by omega,by push_cast;rfl,hWB.below hbx,hIn,hF3,(hM.trans hMB).trans (zaa hbx)⟩,by simp only [RowKit.intOf];omega⟩
    · have hj': ¬(j:Int)<20:=by omega
      have hje:j=20:=by omega
      subst hje;have e:zdL r 0 ((20:Nat):Int) s2 g2=(k,s',g'):=hF;cases e;clear hF hI;go_wp2_with fail;go_ret;exact ⟨rfl,hW,hM⟩
end
set_option maxRecDepth 100000 in
theorem Tryz.zhQ {n:Nat} (hn:n=1∨n=2∨n=4∨n=8∨n=16) (ev tb:Bool) (w:World):
    Calls prog 37 #[.int .i64 n,.agg #[.bool ev,.bool tb,.bool false]] w fun e w'=> ∃S P L Bs B M,e= .returned (.tuple #[.pointer (some ⟨P,0,none⟩),.pointer (some ⟨S,0,none⟩),(zaw n).val,.bool true])∧
      SDW (sdK S M B) w' S P L Bs B M 60000 (zaw n) (SD.fresh ev tb (zaw n).n.toNat) (fun _=>0)∧Below w.heap.size w w'∧(w.heap.size≤S∧w.heap.size≤M∧w.heap.size≤B∧w.heap.size≤P∧w.heap.size≤L∧w.heap.size≤Bs):=by
  have hpl:=zqt n hn;rw [←zoA] at hpl;have hnew:=fun R w (c:Cl w R [.int .u64 0,.int .u64 60000])=>zvu R 60000 1 w (c.cell 0 _ rfl) (c.cell 1 _ rfl) (by decide) (by decide);have hrk:=zhR hn;obtain ⟨r,hr⟩: ∃r,r=zaw n:=⟨_,rfl⟩;rw [←hr] at hpl hrk ⊢;clear hr;have hnw:=fun {w:World} {P L Bs B:Nat} (st:GM w P L Bs B 60000 (fun _=>0))=>zwT (ev:=ev) (tb:=tb) st hrk (by decide) (by decide);unfold Rg.val at hpl hnw ⊢;go_enter func37,ntmps37;go_wp2_with (first
    | (go_at_call 8;refine (hpl _).mono ?_;rintro e w1 ⟨rfl,hb1⟩;have ka:=((Cl.new w _ _).alloc _).below hb1 (by simp<;>omega);have kb:=(Cl.new (w.alloc _) _ _).below hb1 (by simp<;>omega);rw [zbp] at kb)
    | (go_at_call 9;refine (hnew (w1.heap.size+1) _ (Cl.new2 (zbp _ _))).mono ?_;rintro e w2 ⟨P,L,Bs,B,rfl,hg,hb2,hP,hL,hBs,hB⟩;have kc:=((Cl.new w1 _ _).alloc _).below hb2 (by simp<;>omega);replace ka:=((ka.alloc _).alloc _).below hb2 (by have:=ka.lt;simp<;>omega);replace kb:=((kb.alloc _).alloc _).below hb2 (by have:=kb.lt;simp<;>omega);have x0:=ka.cell 0 _ rfl;have x1:=ka.cell 1 _ rfl;have x2:=ka.cell 2 _ rfl;have y0:=kc.cell 0 _ rfl;have y1:=kc.cell 1 _ rfl;have y2:=kc.cell 2 _ rfl;have y3:=kc.cell 3 _ rfl;have y4:=kc.cell 4 _ rfl)
    | (go_at_call 11;refine (hnw hg).mono ?_;rintro e w3 ⟨S,M,rfl,⟨hS,hM⟩,hso,hm3⟩;simp only [zbp] at hB;clear x0 x1 x2 y0 y1 y2 y3 y4;have lw1:=hb1.size;have lkb:=kb.lt;simp only [zbp] at lw1;replace kb:=kb.kept (hm3.block _ kb.lt (by show¬w.heap.size+1=B;omega));replace kc:=kc.kept (hm3.block _ kc.lt (by show¬w1.heap.size=B;omega));have y0:=kc.cell 0 _ rfl;have y1:=kc.cell 1 _ rfl;have y2:=kc.cell 2 _ rfl;have y3:=kc.cell 3 _ rfl;have y4:=kc.cell 4 _ rfl;have z0:=kb.cell 0 _ rfl;have z1:=kb.cell 1 _ rfl;have z2:=kb.cell 2 _ rfl;have z3:=kb.cell 3 _ rfl;have z4:=kb.cell 4 _ rfl;have f0:=kb.free 0;have f1:=kb.free 1;have f2:=kb.free 2;have f3:=kb.free 3;have f4:=kb.free 4)
    | go_in)
  have l1:=kb.lt;have hkb:=kb;clear ka kb kc;go_region;go_wp2_with fail;have k0:=((((hkb.set 0 (.bool false) (show 0<5 by decide)).set 1 (.int .i64 r.n) (show 1<5 by decide)).set 2 (.int .u64 r.d) (show 2<5 by decide)).set 3 (.int .u64 r.v) (show 3<5 by decide)).set 4 (.int .u64 r.c) (show 4<5 by decide);have hmv:=(((((Mv.refl (· =w.heap.size+1) w3).setCell (w.heap.size+1) 0 (.bool false) (.inl rfl)).setCell (w.heap.size+1) 1 (.int .i64 r.n) (.inl rfl)).setCell (w.heap.size+1) 2 (.int .u64 r.d) (.inl rfl)).setCell (w.heap.size+1) 3 (.int .u64 r.v) (.inl rfl)).setCell (w.heap.size+1) 4 (.int .u64 r.c) (.inl rfl);generalize (((((w3.setCell ⟨w.heap.size+1,0,none⟩ (.bool false)).setCell ⟨w.heap.size+1,1,none⟩ (.int .i64 r.n)).setCell ⟨w.heap.size+1,2,none⟩ (.int .u64 r.d)).setCell ⟨w.heap.size+1,3,none⟩ (.int .u64 r.v)).setCell ⟨w.heap.size+1,4,none⟩ (.int .u64 r.c))=w4 at k0 hmv ⊢;have hsz1:=hb1.size;have hsz2:=hb2.size;have hsz3:=hm3.size;simp only [zbp] at hsz1 hsz2 hsz3 hP hL hBs;have hbw2:Below w.heap.size w w2:=(((((Below.refl _ w).alloc (Nat.le_refl _) _).alloc (by simp only [zbp];omega) _).trans (hb1.mono (by simp only [zbp];omega))).alloc (by omega) _).alloc (by simp only [zbp];omega) _|>.trans (hb2.mono (by simp only [zbp];omega));have hbw:Below w.heap.size w w3:=hbw2.trans ⟨hm3.os,hm3.tape,hm3.output,hm3.size,fun b hb=>hm3.block b (by omega) (by show¬b=B;omega)⟩;have hbl:=hbw.trans (hmv.below (base:=w.heap.size) (fun k hk=>by omega) hbw.size);refine bodyPost_ret (zsJ rfl _ _ (w.heap.size+1) [.bool false,.int .i64 r.n,.int .u64 r.d,.int .u64 r.v,.int .u64 r.c] _ rfl (fun j v hv=>by rw [Nat.zero_add];exact k0.cell j v hv) underlying31 rfl (by kernel_rfl)) rfl ?_;have hgp:=hg.pl;have hgl:=hg.ll;have hgs:=hg.sl;have hgb:=hg.bl;refine ⟨S,P,L,Bs,B,M,rfl,⟨(hso.f.keepA (A':=sdK S M B) (fun b _ q=> .inr q) (.inl rfl) (.inr (.inl rfl)) (.inr (.inr rfl)) (fun b q=>Nat.lt_of_lt_of_le (hso.f.lt b (.inr q)) hmv.size) (fun b q1 q2=>hmv.block b q1 (fun e=>by have e:b=w.heap.size+1:=e;rcases q2 with q2|q2|q2|q2|q2|q2|q2;exact q2 (.inl (by omega));all_goals omega)) hmv.size).below ((Below.refl _ w4).drew),hso.pb⟩,hbl.drew,by omega,by omega,by omega,by omega,by omega,by omega⟩
end Go.Proofs
namespace Go.Proofs
open Go.Dw Go.RowKit Go.Maps Go.Sort Go.Deep Go.ChangeShapes Go.WideShapes
structure Tryz.Tn where
 bk:Bool
 sv:Value
 sl:List Sg
 n:Int
 v:Int
def Tryz.Tn.cells (c:Tn):List Value:= [.bool c.bk,c.sv,.int .i64 c.n,.int .u32 c.v]
structure Tryz.Tn.ok (c:Tn) (w:World):Prop where
 sv:SegV (fun _=>False) w c.sv c.sl
 sn:c.sl.length<4000000000000000
 n: -9223372036854775808≤c.n∧c.n<9223372036854775808
 v:0≤c.v∧c.v<4294967296
structure Tryz.TnsV (w:World) (av:Value) (acts:List Tn):Prop where
 val: ∃aa c,av= .slice aa acts.length c∧(acts= []∨ ∃R o,aa=some ⟨R,o,none⟩∧ ∀i,(hi:i<acts.length)→w.rangeAt R (o+4*i) acts[i].cells)
 ok: ∀x∈acts,x.ok w
 len:acts.length<4000000000000000
section
variable {H:Type} {enc:TypeId×Value→H} {W:World} {sp:Nat→Bool} {held:Bool} {fuel:Nat}
set_option maxRecDepth 100000 in
theorem Tryz.zuL {cs:List Value} {x:DataW H×List MemPlace} (h:DataW.trod enc prog W 0 sp held fuel 90 cs=some x) (hw: ∀n∈x.1.weights prog 90,n≤reachBytes): ∃c:Tn,cs=c.cells∧c.ok W:=by
 obtain ⟨xs,n,rfl,rfl,hl,hx,hf⟩:=DataW.trod_struct underlying90 h;have hl:cs.length=4:=hl.trans (by kernel_rfl);have hx:xs.length=4:=hx
 match cs,hl with
 | [c0,c1,c2,c3],_=>
  have f0:DataW.trod enc prog W 0 sp held n 4 [c0]=xs[0]? :=by
   have:=(show DataW.trod enc prog W 0 sp held n 4 (([c0,c1,c2,c3].drop 0).take (prog.cellsOf 4))=xs[0]? from hf 0 _ rfl);rw [show prog.cellsOf 4=1 from by kernel_rfl] at this;exact this
  have f1:DataW.trod enc prog W 0 sp held n 51 [c1]=xs[1]? :=by
   have:=(show DataW.trod enc prog W 0 sp held n 51 (([c0,c1,c2,c3].drop 1).take (prog.cellsOf 51))=xs[1]? from hf 1 _ rfl);rw [show prog.cellsOf 51=1 from by kernel_rfl] at this;exact this
  have f2:DataW.trod enc prog W 0 sp held n 3 [c2]=xs[2]? :=by
   have:=(show DataW.trod enc prog W 0 sp held n 3 (([c0,c1,c2,c3].drop 2).take (prog.cellsOf 3))=xs[2]? from hf 2 _ rfl);rw [show prog.cellsOf 3=1 from by kernel_rfl] at this;exact this
  have f3:DataW.trod enc prog W 0 sp held n 52 [c3]=xs[3]? :=by
   have:=(show DataW.trod enc prog W 0 sp held n 52 (([c0,c1,c2,c3].drop 3).take (prog.cellsOf 52))=xs[3]? from hf 3 _ rfl);rw [show prog.cellsOf 52=1 from by kernel_rfl] at this;exact this
  rw [zgD (by omega)] at f0 f1 f2 f3;obtain ⟨gb,e0,_⟩:=DataW.trod_bool underlying4 f0;obtain ⟨n2,e2,_,w2⟩:=DataW.trod_int underlying3 f2;obtain ⟨n3,e3,_,w3⟩:=DataW.trod_int underlying52 f3;obtain ⟨sl,hsl,hsn⟩:=zpQ f1 fun m hm=>hw m (by
   unfold DataW.weights;rw [underlying90];exact DataW.weights_mem_each (j:=1) (t:=51) (d:=xs[1].1) rfl (by rw [List.getElem?_map,zgD (by omega)];rfl) m hm)
  simp only [List.cons.injEq,and_true] at e0 e2 e3;subst e0 e2 e3;have b2:=bounds_i64 w2;have b3:=bounds_u32 w3;exact ⟨⟨gb,c1,sl,n2,n3⟩,rfl,hsl,hsn,⟨by show _≤n2;omega,by show n2<_;omega⟩,⟨by show 0≤n3;omega,by show n3<_;omega⟩⟩
theorem Tryz.zfO {e:TypeId}: ∀ {l:List (DataW H)} {d:DataW H},d∈l→ ∀n∈d.weights prog e,n∈DataW.weightsAll prog e l
 | x::r,d,h,n,hn=>by
  unfold DataW.weightsAll;rcases List.mem_cons.1 h with rfl|h
  ·exact List.mem_append_left _ hn
  ·exact List.mem_append_right _ (zfO h n hn)
set_option maxRecDepth 100000 in
theorem Tryz.tns_open {v:Value} {x:DataW H×List MemPlace} (h:DataW.trod enc prog W 0 sp held fuel 88 [v]=some x) (hw: ∀n∈x.1.weights prog 88,n≤reachBytes):
  ∃ l,TnsV W v l:=by
 rcases DataW.trod_slice underlying88 h with ⟨e,_⟩|⟨a,len,cap,elems,rest,n,rfl,e,rfl,_,hlc,hcap,hel,hc,_⟩
 ·simp only [List.cons.injEq,and_true] at e;subst e;exact ⟨[],⟨⟨none,0,rfl,.inl rfl⟩,fun x hx=>(by cases hx),by decide⟩⟩
 ·simp only [List.cons.injEq,and_true] at e;subst e;have hb:prog.bytesOf 90=48:=by kernel_rfl
  have hc9:prog.cellsOf 90=4:=by kernel_rfl
  have hws: ∀m,(m=(elems.length+rest.length)*48∨m∈DataW.weightsAll prog 90 (elems.map (·.1)))→m≤reachBytes:=fun m hm=>hw m (by
   unfold DataW.weights;rw [underlying88];simp only [List.length_map,hb,List.mem_cons,List.mem_append];rcases hm with hm|hm
   ·exact .inl hm
   ·exact .inr (.inl hm))
  have hsz:=hws _ (.inl rfl);unfold reachBytes at hsz;rw [hc9] at hc;obtain ⟨l,hll,hl⟩:=zqO (p:=fun i (s:Tn)=>W.cells? 0 (a.add (i*4)) 4=some s.cells∧s.ok W) len fun i hi=>by
   have:=hc i hi;rw [zgD (by omega)] at this;obtain ⟨cs,h1,h2⟩:=Option.bind_eq_some_iff.1 this;obtain ⟨s,rfl,hs⟩:=zuL h2 fun m hm=>hws m (.inr (zfO (List.mem_map.2 ⟨_,List.getElem_mem _,rfl⟩) m hm));exact ⟨s,h1,hs⟩
  subst hll;refine ⟨l,⟨⟨some a,cap,rfl,?_⟩,fun s hs=> ?_,by omega⟩⟩
  ·by_cases h0:l= []
   ·exact .inl h0
   ·right;obtain ⟨ab,ao,aq⟩:=a;have hp:0<l.length:=List.length_pos_iff.2 h0;have hs:aq=none:=cell_spot ((World.cells?_some (hl 0 hp).1).2.2 0 (by decide));subst hs;refine ⟨ab,ao,rfl,fun i hi j y hy=> ?_⟩;have hj:j<4:=by
     have:=List.getElem?_eq_some_iff.1 hy;simpa [Tn.cells] using this.1
    have:=(World.cells?_some (hl i hi).1).2.2 j hj;rw [hy,addr_add,addr_add] at this;rw [show ao+4*i+j=ao+i*4+j by omega];exact this
  ·obtain ⟨i,hi,rfl⟩:=List.mem_iff_getElem.1 hs;exact (hl i hi).2
end
set_option maxRecDepth 100000 in
theorem Tryz.zhj {t:Array Value} (h:t.size=322) {v0 v2 v4 v8 v9 v10 v12 v15 v18 v19 v20 v21 v22:Value} (h0:t.getD 0 undef=v0) (h2:t.getD 2 undef=v2) (h4:t.getD 4 undef=v4) (h8:t.getD 8 undef=v8) (h9:t.getD 9 undef=v9) (h10:t.getD 10 undef=v10) (h12:t.getD 12 undef=v12) (h15:t.getD 15 undef=v15) (h18:t.getD 18 undef=v18) (h19:t.getD 19 undef=v19) (h20:t.getD 20 undef=v20) (h21:t.getD 21 undef=v21) (h22:t.getD 22 undef=v22):
  ∃ j:Nat→Value,t= #[v0,j 1,v2,j 3,v4,j 5,j 6,j 7,v8,v9,v10,j 11,v12,j 13,j 14,v15,j 16,j 17,v18,v19,v20,v21,v22,j 23,j 24,j 25,j 26,j 27,j 28,j 29,j 30,j 31,j 32,j 33,j 34,j 35,j 36,j 37,j 38,j 39,j 40,j 41,j 42,j 43,j 44,j 45,j 46,j 47,j 48,j 49,j 50,j 51,j 52,j 53,j 54,j 55,j 56,j 57,j 58,j 59,j 60,j 61,j 62,j 63,j 64,j 65,j 66,j 67,j 68,j 69,j 70,j 71,j 72,j 73,j 74,j 75,j 76,j 77,j 78,j 79,j 80,j 81,j 82,j 83,j 84,j 85,j 86,j 87,j 88,j 89,j 90,j 91,j 92,j 93,j 94,j 95,j 96,j 97,j 98,j 99,j 100,j 101,j 102,j 103,j 104,j 105,j 106,j 107,j 108,j 109,j 110,j 111,j 112,j 113,j 114,j 115,j 116,j 117,j 118,j 119,j 120,j 121,j 122,j 123,j 124,j 125,j 126,j 127,j 128,j 129,j 130,j 131,j 132,j 133,j 134,j 135,j 136,j 137,j 138,j 139,j 140,j 141,j 142,j 143,j 144,j 145,j 146,j 147,j 148,j 149,j 150,j 151,j 152,j 153,j 154,j 155,j 156,j 157,j 158,j 159,j 160,j 161,j 162,j 163,j 164,j 165,j 166,j 167,j 168,j 169,j 170,j 171,j 172,j 173,j 174,j 175,j 176,j 177,j 178,j 179,j 180,j 181,j 182,j 183,j 184,j 185,j 186,j 187,j 188,j 189,j 190,j 191,j 192,j 193,j 194,j 195,j 196,j 197,j 198,j 199,j 200,j 201,j 202,j 203,j 204,j 205,j 206,j 207,j 208,j 209,j 210,j 211,j 212,j 213,j 214,j 215,j 216,j 217,j 218,j 219,j 220,j 221,j 222,j 223,j 224,j 225,j 226,j 227,j 228,j 229,j 230,j 231,j 232,j 233,j 234,j 235,j 236,j 237,j 238,j 239,j 240,j 241,j 242,j 243,j 244,j 245,j 246,j 247,j 248,j 249,j 250,j 251,j 252,j 253,j 254,j 255,j 256,j 257,j 258,j 259,j 260,j 261,j 262,j 263,j 264,j 265,j 266,j 267,j 268,j 269,j 270,j 271,j 272,j 273,j 274,j 275,j 276,j 277,j 278,j 279,j 280,j 281,j 282,j 283,j 284,j 285,j 286,j 287,j 288,j 289,j 290,j 291,j 292,j 293,j 294,j 295,j 296,j 297,j 298,j 299,j 300,j 301,j 302,j 303,j 304,j 305,j 306,j 307,j 308,j 309,j 310,j 311,j 312,j 313,j 314,j 315,j 316,j 317,j 318,j 319,j 320,j 321]:=by
 subst h0 h2 h4 h8 h9 h10 h12 h15 h18 h19 h20 h21 h22;obtain ⟨l⟩:=t;exact ⟨fun i=>(⟨l⟩:Array Value).getD i undef,zrb l h⟩
end Go.Proofs
namespace Go.Proofs
open Go.Dw Go.RowKit Go.Maps Go.Sort Go.Deep
theorem Tryz.zbD (a b:List DO):zak (a++b)=zak a++zak b:=List.flatMap_append
theorem Tryz.ziZ (L:List DO) (k:Nat) (hk:k≤L.length):(zak L).take (k*3)=zak (L.take k):=by
 conv=>lhs;rw [←List.take_append_drop k L,zbD]
 rw [List.take_append_of_le_length (by rw [zbC,List.length_take];omega),List.take_of_length_le (by rw [zbC,List.length_take];omega)]
theorem Tryz.zi0 (L:List DO) (k:Nat) (hk:k≤L.length):(zak L).drop (k*3)=zak (L.drop k):=by
 conv=>lhs;rw [←List.take_append_drop k L,zbD]
 have hl:(zak (L.take k)).length=k*3:=by rw [zbC,List.length_take];omega
 rw [←hl,List.drop_left]
theorem Tryz.zkk (L:List DO): ∀u∈zak L,u.oneCell'=true:=fun u hu=>by
 obtain ⟨e,_,he⟩:=List.mem_flatMap.1 hu;simp only [DO.cells,List.mem_cons,List.not_mem_nil,or_false] at he;rcases he with rfl|rfl|rfl<;>rfl
section
variable {A A':Nat→Prop} {w w':World} {S P L Bs B N b2:Nat} {r:Tryz.Rg} {s s':Tryz.DS} {g g':Nat→Int} {lv lv':Value}
end
end Go.Proofs
namespace Go.Proofs
open Go.Dw Go.RowKit Go.Maps Go.Sort Go.Deep
theorem Tryz.zoG (w:World) (t:TypeId) (sz:Nat):((w.alloc (Obj.cells #[] t)).drew).ownsRow w.heap.size t sz (.slice (some ⟨w.heap.size,0,none⟩) 0 0) 0 []:=
 ⟨by simp,.inr ⟨_,0,_,rfl,Nat.le_refl _,heap_alloc_new w _,Nat.le_refl _,Nat.zero_le _,by simp,by simp⟩⟩
theorem Tryz.zmf {w:World} {G:Nat} {cs:List Value} (h:w.rangeAt G 0 cs) {k c:Nat} (hc:cs.length≤c*3): ∀j u,(cs.drop (k*3))[j]? =some u→w.cell? ((if c=k then (⟨G,0,none⟩:Addr) else ⟨G,k*3,none⟩).add j)=some u:=fun j u hu=>by
 by_cases hk:c=k
 ·subst hk;rw [List.drop_eq_nil_of_le hc] at hu;cases hu
 ·rw [if_neg hk];rw [Dw.addr_add];rw [List.getElem?_drop] at hu;have:=h _ u hu
  rwa [Nat.zero_add] at this
section
variable {A A' K:Nat→Prop} {w w':World} {S P L Bs B I N b2:Nat} {r:Tryz.Rg} {s s':Tryz.DS} {g g':Nat→Int} {lv lv':Value}
end
structure Tryz.Ids where
 X7:Nat
 S:Nat
 P:Nat
 L:Nat
 Bs:Nat
 B:Nat
 M:Nat
 S2:Nat
 P2:Nat
 L2:Nat
 Bs2:Nat
 B2:Nat
 b2:Nat
section
variable {n0:Nat} {Z Z':Nat→Prop} {w w':World} {d:Tryz.Ids} {r:Tryz.Rg} {s1 s1':Tryz.DS} {g1 g1':Nat→Int} {s2 s2':Tryz.DS} {g2 g2':Nat→Int}
end
end Go.Proofs
namespace Go.Proofs
open Go.Dw Go.RowKit Go.Maps Go.Sort Go.Deep Go.ChangeShapes Go.WideShapes
structure Tryz.Dc where
 k:Int
 tk:Int
 sv:Value
 sl:List Sg
 n:Int
 v:Int
 gd:Bool
section
variable {H:Type} {enc:TypeId×Value→H} {W:World} {sp:Nat→Bool} {held:Bool} {fuel:Nat}
end
end Go.Proofs
namespace Go.Proofs
open Go.Dw Go.RowKit Go.Maps Go.Sort Go.Deep
structure Tryz.EqI (a b:Int):Prop where
 eq:a=b
section
variable {W0:World} {n:Nat} {d:Tryz.Ids} {r:Tryz.Rg} {x19:Nat} {c:Tryz.Dc} {w w':World} {s1 s1':Tryz.DS} {g1 g1':Nat→Int} {s2 s2':Tryz.DS} {g2 g2':Nat→Int} {p1 p2 p1' p2':List Value}
theorem Tryz.OwnR.keepD {t:TypeId} {sz n:Nat} {b2:Nat} {v:Value} {cs:List Value} (h:OwnR t sz w b2 v n cs) (hb:Below w.heap.size w w'):OwnR t sz w' b2 v n cs:=OwnR.kept h fun b e=>hb.block b (OwnR.lt h b e).2
end
end Go.Proofs
namespace Go.Proofs
open Go.Dw Go.RowKit Go.Maps Go.Sort Go.Deep
section
variable {A:Nat→Prop} {w w':World} {S P L Bs B N b2:Nat} {r:Tryz.Rg} {s s':Tryz.SS} {g g':Nat→Int} {lv:Value}
end
end Go.Proofs
namespace Go.Proofs
open Go.Dw Go.RowKit Go.Maps Go.Sort Go.Deep
section
variable {A:Nat→Prop} {w w5:World} {S P L Bs B N b2:Nat} {r:Tryz.Rg} {s s':Tryz.SS} {g g':Nat→Int} {lv sv' x0 x1 x2:Value}
end
end Go.Proofs
namespace Go.Proofs
open Go.Dw Go.RowKit Go.Maps Go.Sort Go.Deep
set_option maxRecDepth 100000 in
theorem Tryz.zox (i l:Int) (hi:0≤i∧i<4294967296) (hl:0≤l∧l<4294967296) (w:World):Calls prog 22 #[.agg #[.int .u32 i,.int .u32 l]] w fun e w'=>e= .returned (.int .u64 (i+l*4294967296))∧Below w.heap.size w w':=by
 have w1:IntKind.wrap .u64 i=i:=zai hi.1 (by omega);have w2:IntKind.wrap .u64 l=l:=zai hl.1 (by omega);have w3:IntKind.wrap .u64 (l*4294967296)=l*4294967296:=zai (by omega) (by omega);have w4:IntKind.wrap .u64 (i+l*4294967296)=i+l*4294967296:=zai (by omega) (by omega);have hb:=(Below.refl w.heap.size w).alloc (Nat.le_refl _) (.cells #[.int .u32 i,.int .u32 l] 67);go_enter func22,ntmps22;go_wp2_with fail;go_ret;exact ⟨rfl,hb⟩
def Tryz.SO.row (e:SO):DO:=⟨e.head,e.tk,e.ids.length⟩
def Tryz.outM (L:List SO):List DO:=L.map SO.row
theorem Tryz.zbY (L:List SO):(outM L).length=L.length:=List.length_map ..
theorem Tryz.zgn (a b:List SO):outM (a++b)=outM a++outM b:=List.map_append
structure Tryz.Hs where
 X4:Nat
 S:Nat
 P:Nat
 L:Nat
 Bs:Nat
 B:Nat
 M:Nat
 X10:Nat
structure Tryz.Hs.ok (d:Hs) (n0:Nat):Prop where
 ex: ∃n1 n2,n0≤d.X4∧d.X4<n1∧(n1≤d.S∧n1≤d.P∧n1≤d.L∧n1≤d.Bs∧n1≤d.B∧n1≤d.M)∧(d.S<n2∧d.P<n2∧d.L<n2∧d.Bs<n2∧d.B<n2∧d.M<n2)∧n2≤d.X10
def Tryz.hsA (d:Hs) (ov:Value) (b:Nat):Prop:=sdK d.S d.M d.B b∨ov.ownBlock=some b
def Tryz.zfP (r:Rg):List Value:= [.bool false,.int .i64 r.n,.int .u64 r.d,.int .u64 r.v,.int .u64 r.c]
structure Tryz.HsW (W0:World) (ev tb:Bool) (d:Hs) (r:Rg) (w:World) (s:SD) (g:Nat→Int) (ov:Value) (M:List SO):Prop where
 dr:SDW (hsA d ov) w d.S d.P d.L d.Bs d.B d.M 60000 r s g
 x4:Cl w d.X4 [.bool ev,.bool tb,.bool false]
 x10:Cl w d.X10 (zfP r)
 row: ∃t,OwnR t 3 w (d.X10+1) ov M.length (zak (outM M))
 old:Below W0.heap.size W0 w
 ok:d.ok W0.heap.size
section
variable {W0:World} {ev tb:Bool} {d:Tryz.Hs} {r:Tryz.Rg} {w w':World} {s s':Tryz.SD} {g g':Nat→Int} {ov ov':Value} {M M':List Tryz.SO}
theorem Tryz.HsW.below (h:HsW W0 ev tb d r w s g ov M) (hb:Below w.heap.size w w'):HsW W0 ev tb d r w' s g ov M:=by
 obtain ⟨t,hrow⟩:=h.row;exact ⟨h.dr.below hb,h.x4.below hb h.x4.lt,h.x10.below hb h.x10.lt,⟨t,OwnR.keepD hrow hb⟩,h.old.trans (hb.mono h.old.size),h.ok⟩
theorem Tryz.HsW.kept (h:HsW W0 ev tb d r w s g ov M) (hm:Dw.Mv (sdK d.S d.M d.B) w w'): ∀b,b<w.heap.size→(b<d.S∧b<d.M∧b<d.B)∨d.X10≤b→w'.heap[b]? =w.heap[b]? :=fun b hb hh=>by
 obtain ⟨n1,n2,q1,q2,⟨q3,q4,q5,q6,q7,q8⟩,⟨q9,q10,q11,q12,q13,q14⟩,q15⟩:=h.ok.ex;exact hm.block b hb (by rintro (e|e|e)<;>omega)
theorem Tryz.HsW.turn (h:HsW W0 ev tb d r w s g ov M) (hd:SDW (hsA d ov) w' d.S d.P d.L d.Bs d.B d.M 60000 r s' g') (hm:Dw.Mv (sdK d.S d.M d.B) w w'):HsW W0 ev tb d r w' s' g' ov M:=by
 have hk:=h.kept hm;obtain ⟨n1,n2,q1,q2,⟨q3,q4,q5,q6,q7,q8⟩,⟨q9,q10,q11,q12,q13,q14⟩,q15⟩:=h.ok.ex;obtain ⟨t,hrow⟩:=h.row;refine ⟨hd,h.x4.kept (hk _ h.x4.lt (.inl ⟨by omega,by omega,by omega⟩)),h.x10.kept (hk _ h.x10.lt (.inr (Nat.le_refl _))),⟨t,OwnR.kept hrow fun b e=> ?_⟩,⟨hm.os.trans h.old.os,hm.tape.trans h.old.tape,hm.output.trans h.old.output,Nat.le_trans h.old.size hm.size,fun b hb=>(hk b (Nat.lt_of_lt_of_le hb h.old.size) (.inl ⟨by omega,by omega,by omega⟩)).trans (h.old.block b hb)⟩,h.ok⟩;have:=OwnR.lt hrow b e;exact hk b this.2 (.inr (by omega))
theorem Tryz.HsW.x10l (h:HsW W0 ev tb d r w s g ov M):W0.heap.size≤d.X4∧d.X4<d.X10:=by
 obtain ⟨n1,n2,q1,q2,⟨q3,q4,q5,q6,q7,q8⟩,⟨q9,q10,q11,q12,q13,q14⟩,q15⟩:=h.ok.ex;exact ⟨q1,by omega⟩
theorem Tryz.HsW.setO (h:HsW W0 ev tb d r w s g ov M) (hm:Dw.Mv (fun b=>ov.ownBlock=some b) w w') {t:TypeId} (hr:OwnR t 3 w' (d.X10+1) ov' M'.length (zak (outM M'))) (hv: ∀b,ov'.ownBlock=some b→ov.ownBlock=some b∨w.heap.size≤b):HsW W0 ev tb d r w' s g ov' M':=by
 obtain ⟨e1,e2⟩:=h.x10l;obtain ⟨n1,n2,q1,q2,⟨q3,q4,q5,q6,q7,q8⟩,⟨q9,q10,q11,q12,q13,q14⟩,q15⟩:=h.ok.ex;obtain ⟨t0,hrow⟩:=h.row;have hl:=fun b e=>OwnR.lt hrow b e;have hn: ∀b,b≤d.X10→ ¬ov.ownBlock=some b:=fun b hb e=>by have:=(hl b e).1;omega
 have hdr:SDW (hsA d ov') w' d.S d.P d.L d.Bs d.B d.M 60000 r s g:=by
  refine ⟨h.dr.f.keepA (fun b hb q=> ?_) (.inl (.inl rfl)) (.inl (.inr (.inl rfl))) (.inl (.inr (.inr rfl))) (fun b q=> ?_) (fun b hb q=>hm.block b hb fun e=> ?_) hm.size,h.dr.pb⟩
  ·rcases q with q|q
   ·exact .inl q
   ·rcases hv b q with e|e
    ·exact .inr e
    ·omega
  ·rcases q with q|q
   ·exact Nat.lt_of_lt_of_le (h.dr.f.lt b (.inl q)) hm.size
   ·exact (OwnR.lt hr b q).2
  ·have hb1:=(hl b e).1;rcases q with q|q|q|q|q|q|q
   ·exact q (.inr e)
   all_goals omega
 exact ⟨hdr,h.x4.kept (hm.block _ h.x4.lt (hn _ (by omega))),h.x10.kept (hm.block _ h.x10.lt (hn _ (Nat.le_refl _))),⟨t,hr⟩,
  ⟨hm.os.trans h.old.os,hm.tape.trans h.old.tape,hm.output.trans h.old.output,Nat.le_trans h.old.size hm.size,fun b hb=>(hm.block b (Nat.lt_of_lt_of_le hb h.old.size) (hn _ (by omega))).trans (h.old.block b hb)⟩,h.ok⟩
theorem Tryz.HsW.outR {G cov:Nat} (h:HsW W0 ev tb d r w s g (.slice (some ⟨G,0,none⟩) M.length cov) M):w.rangeAt G 0 (zak (outM M))∧M.length≤cov∧d.X10<G∧G<w.heap.size:=by
 obtain ⟨t,hO⟩:=h.row;have hl:=OwnR.lt hO G rfl;refine ⟨?_,?_,by omega,hl.2⟩
 ·obtain ⟨sa',c',e,hr⟩:=OwnR.row hO;cases e;rcases hr with q|⟨G2,e2,_,q⟩
  ·rw [q];intro j v hv;cases hv
  ·cases e2;exact q
 ·rcases hO.2 with ⟨e,_⟩|⟨g,cap,cur,e,_,_,hh,_⟩
  ·cases e
  ·cases e;exact hh
end
structure Tryz.Hs0 (n:Nat) (d:Hs) (r:Rg) (av ov:Value) (us tk own:Int) (j:Nat) (tm:Array Value):Prop where
 sz:tm.size=322
 t0:tm.getD 0 undef= .int .i64 n
 t2:tm.getD 2 undef=av
 t4:tm.getD 4 undef= .pointer (some ⟨d.X4,0,none⟩)
 t8:tm.getD 8 undef= .pointer (some ⟨d.P,0,none⟩)
 t9:tm.getD 9 undef= .pointer (some ⟨d.S,0,none⟩)
 t10:tm.getD 10 undef= .pointer (some ⟨d.X10,0,none⟩)
 t12:tm.getD 12 undef= .int .u64 (r.v+2)
 t15:tm.getD 15 undef= .int .u64 (r.c+2)
 t18:tm.getD 18 undef=ov
 t19:tm.getD 19 undef= .int .u16 us
 t20:tm.getD 20 undef= .int .i64 tk
 t21:tm.getD 21 undef= .int .i64 own
 t22:tm.getD 22 undef= .int .i64 j
structure Tryz.HsS (s:SD) (tb:Bool) (tk:Int) (j:Nat):Prop where
 ph:s.ph=0
 br:s.br=false
 tb:s.tb=tb
 di:SDI s
 tks: ∀e∈s.L,e.tk<tk
 tk0:0≤tk∧tk≤j
 av:s.av=tk%65536
structure Tryz.HsI (W0:World) (n:Nat) (ev tb:Bool) (d:Hs) (r:Rg) (av:Value) (j:Nat) (a:Act) (w:World):Prop where
 df:a.defers= []
 ex: ∃(s:SD) (g:Nat→Int) (ov:Value) (tk:Int),Hs0 n d r av ov s.sn tk s.F.length j a.tmps∧HsW W0 ev tb d r w s g ov s.L∧HsS s tb tk j
def Tryz.zoa (W0:World) (n:Nat) (ev tb:Bool) (d:Hs) (r:Rg) (av:Value) (j:Nat):Exit→Act→World→Prop:=fun ex a' w'=>match ex with
 | .normal=>HsI W0 n ev tb d r av (j+1) a' w'
 | _=>False
theorem Tryz.HsS.up {s:SD} {tb:Bool} {tk:Int} {j:Nat} (h:HsS s tb tk j):HsS s tb tk (j+1):=⟨h.ph,h.br,h.tb,h.di,h.tks,⟨h.tk0.1,by have:=h.tk0.2;omega⟩,h.av⟩
theorem Tryz.zt6:(prog.info? 95).map (fun i=>(i.zero,i.size,i.bytes))=some (some (.agg #[.int .i64 0,.int .i64 0,.int .i64 0]),3,24):=by kernel_rfl
end Go.Proofs
namespace Go.Proofs
open Go.Dw Go.RowKit Go.Maps Go.Sort Go.Deep
set_option maxRecDepth 100000 in
theorem Tryz.zvG {W0 w:World} {n:Nat} {ev tb:Bool} {d:Hs} {r:Rg} {aa:Option Addr} {ca:Nat} {acts:List Tn} {ov:Value} {tk:Int} {j:Nat} {s:SD} {g:Nat→Int} {tm:Array Value} (hf:Hs0 n d r (.slice aa acts.length ca) ov s.sn tk s.F.length j tm) (hw:HsW W0 ev tb d r w s g ov s.L) (hs:HsS s tb tk j) (hA:TnsV W0 (.slice aa acts.length ca) acts) (hj:j<acts.length) (h60:acts.length≤60) (hbk:acts[j].bk=true) (hrk:SgOk r) (hrn:EqI r.n n):
    (zbf prog [0,0,1,0,1,1,1,1,1,1,1,1,1,1,1,4]).wp prog (zoa W0 n ev tb d r (.slice aa acts.length ca) j) ⟨tm,[]⟩ w:=by
  obtain ⟨jf,hjf⟩:=zhj (t:=tm) hf.sz hf.t0 hf.t2 hf.t4 hf.t8 hf.t9 hf.t10 hf.t12 hf.t15 hf.t18 hf.t19 hf.t20 hf.t21 hf.t22;rw [hjf];clear hjf hf;obtain ⟨R,o,hra,hrow⟩: ∃R o,aa=some ⟨R,o,none⟩∧ ∀(i:Nat) (hi:i<acts.length),W0.rangeAt R (o+4*i) acts[i].cells:=by
    obtain ⟨aa',c',e,h⟩:=hA.val;cases e;rcases h with q|⟨R,o,q1,q2⟩
    · rw [q] at hj;simp at hj
    · exact ⟨R,o,q1,q2⟩
  have hco:=hA.ok acts[j] (List.getElem_mem hj);have hcw:=hrow j hj;have hRl:R<W0.heap.size:=World.block_lt_of_cell? W0 _ (hcw 0 _ rfl);have hcr:=zae hcw (hw.old.block R hRl);obtain ⟨c,hc⟩: ∃c,c=acts[j]:=⟨_,rfl⟩;rw [←hc] at hco hcr hbk;rw [Nat.mul_comm 4 j] at hcr;obtain ⟨sa,cs,hsv,hsok,hsr⟩:=hco.sv;have a0:=hcr 0 _ rfl;have a1:=hcr 1 _ rfl;have a2:=hcr 2 _ rfl;have a3:=hcr 3 _ rfl;rw [hsv] at a1;rw [hbk] at a0;simp only [Nat.add_zero] at a0;have hcv:=hco.v;have hj':(j:Int)<acts.length:=by omega
  have ej:=zmu j (by omega);clear hc hcr hcw hrow hA hsok hsr hco hsv hbk;subst hra;obtain ⟨t12,hO⟩:=hw.row;rw [←zbY s.L] at hO;obtain ⟨sov,cov,hove,hOr⟩:=OwnR.row hO;rw [zbY] at hove;subst hove;have hbA:=(Below.refl w.heap.size w).alloc (Nat.le_refl _) (Obj.cells #[.bool true,.slice sa c.sl.length cs,.int .i64 c.n,.int .u32 c.v] 90);by_cases hL0:s.L.length=0
  · have hL0':(s.L.length:Int)=0:=by omega
    have hwA:=hw.below hbA;clear hOr hO;refine zaK (c':=(zad 0 (zad 0 (zad 1 (zad 0 (zad 1 (zad 1 (zad 1 (zad 1 (zad 1 (zad 1 (zad 1 (zad 1 (zad 1 (zad 1 (zad 1 (match (f4).body with|some c=>c|none=> .skip))))))))))))))))) (by kernel_rfl) ?_
    dsimp only [f4,zad]
    go_wp2_with fail;exact ⟨rfl,s,g,.slice sov s.L.length cov,tk,⟨rfl,rfl,rfl,rfl,rfl,rfl,rfl,rfl,rfl,by show Value.slice sov 0 cov= .slice sov s.L.length cov;rw [hL0],rfl,rfl,rfl,rfl⟩,hwA,hs.up⟩
  · obtain ⟨G,rfl,_,hG⟩: ∃G,sov=some ⟨G,0,none⟩∧(Value.slice sov s.L.length cov).ownBlock=some G∧w.rangeAt G 0 (zak (outM s.L)):=by
      rcases hOr with q|q
      · have:=congrArg List.length q;rw [zbC,zbY] at this;have:s.L.length*3=0:=this;omega
      · exact q
    have hL1: ¬(s.L.length:Int)=0:=by omega
    have hbn:=hrk.ok.bnd;have hn16:=hrk.n16;have hall:=hw.dr.pb.all;rw [List.length_append] at hall;have hLl:s.L.length≤16:=by
      have h1:(s.L.map SO.head).length≤(s.L.flatMap (·.ids)).length:=(zc6 hw.dr.pb.ne).length_le;rw [List.length_map] at h1;omega
    obtain ⟨k,hk,hkl⟩: ∃k:Nat,c.n%(s.L.length:Int)=k∧k<s.L.length:=by
      have h0:0≤c.n%(s.L.length:Int):=Int.emod_nonneg _ (by omega);have h1:c.n%(s.L.length:Int)<s.L.length:=Int.emod_lt_of_pos _ (by omega);exact ⟨(c.n%(s.L.length:Int)).toNat,by omega,by omega⟩
    have hkl':(k:Int)<s.L.length:=by omega
    have hmem:=List.getElem_mem hkl;obtain ⟨e,he⟩: ∃e,e=s.L[k]:=⟨_,rfl⟩;obtain ⟨o0,o1,o2⟩:=zgZ (outM s.L) k (by rw [zbY];exact hkl);have hek:(outM s.L)[k]'(by rw [zbY];exact hkl)=e.row:=by rw [he];simp [outM]
    rw [hek] at o0 o1 o2;replace o0:(zak (outM s.L))[k*3]? =some (.int .i64 e.head):=o0;replace o1:(zak (outM s.L))[k*3+1]? =some (.int .i64 e.tk):=o1;replace o2:(zak (outM s.L))[k*3+2]? =some (.int .i64 e.ids.length):=o2;rw [←he] at hmem;have hhd:=hw.dr.pb.head_in hmem;have hGl:G<w.heap.size:=(OwnR.lt hO G rfl).2;have hGd:d.X10<G:=(OwnR.lt hO G rfl).1;have g0:=hG _ _ o0;have g1:=hG _ _ o1;have g2:=hG _ _ o2;rw [Nat.zero_add] at g0 g1 g2;have hpk:=fun w'=>zni c.n s.L.length (by omega) w';rw [hk] at hpk;have hsn:=hw.dr.pb.sn;have hsnm:0≤s.sn%(n:Int)∧s.sn%(n:Int)<r.n:=by
      rw [←hrn.eq];exact ⟨Int.emod_nonneg _ (by omega),Int.emod_lt_of_pos _ (by omega)⟩
    have e1:IntKind.wrap .i64 s.sn=s.sn:=zaS (by omega) (by omega);have e2:s.sn.tmod n=s.sn%n:=Int.tmod_eq_emod_of_nonneg hsn.1;have e3:IntKind.wrap .i64 (s.sn%n)=s.sn%n:=zaS (by omega) (by omega);have hn0: ¬(n:Int)=0:=by have:=hrn.eq;omega
    have hn0': ¬n=0:=by omega
    have hn0b:((n:Int)==0)=false:=by simpa using hn0'
    have hn0c:(n==0)=false:=by simpa using hn0'
    rw [←e2] at e3;have hwh:=fun w'=>zst r hrk.ok (s.sn%n) hsnm w';rw [←e2] at hwh;obtain ⟨a,ha,ha2⟩: ∃a:Nat,r.c+4+8*s.sn.tmod n=a∧a+8≤60000:=by
      rw [e2];have:=hrk.c;have:=hrn.eq;have:=hrk.ok.c0;exact ⟨(r.c+4+8*(s.sn%n)).toNat,by omega,by omega⟩
    rw [ha] at hwh;obtain ⟨ci,hci,hci2⟩: ∃ci:Nat,r.c+2=ci∧ci+2≤60000:=⟨(r.c+2).toNat,by have:=hrk.ok.c0;omega,by have:=hrk.c;have:=hrk.ok.c0;omega⟩;have e4:IntKind.wrap .u16 (s.sn+1)=(s.sn+1)%65536:=zer _;have e5:IntKind.wrap .u32 e.head=e.head:=by unfold IntKind.wrap;simp [IntKind.signed,IntKind.bits];omega
    have e6:IntKind.wrap .u64 ((s.sn+1)%65536)=(s.sn+1)%65536:=wrap_u64 _ (by omega) (by omega);have huw:=fun w'=>zox e.head c.v ⟨hhd.1,by omega⟩ hcv w';have hids:s.F.length+e.ids.length≤16:=by
      have h1:=(hw.dr.pb.ids hmem).2.2.2;omega
    have e7:IntKind.wrap .i64 ((s.F.length:Int)+e.ids.length)=(s.F.length:Int)+e.ids.length:=zaS (by omega) (by omega);obtain ⟨u1,u2,u3⟩:=zlm (g:=g) (V:=c.v) (id:=e.head) (r:=r) (sn:=s.sn) hrk.ok.c0 (by omega) hsn hcv ⟨hhd.1,by omega⟩ s rfl;rw [hrn.eq,←e2,ha,hci,Int.toNat_natCast,Int.toNat_natCast] at u1 u2 u3;obtain ⟨W8,hW8⟩: ∃W8,W8=e.head+c.v*4294967296:=⟨_,rfl⟩;rw [show e.head+4294967296*c.v=W8 by omega] at u1 u2 u3;rw [←hW8] at huw;obtain ⟨g1',hg1'⟩: ∃g1':Nat→Int,g1'=putW g a 8 W8:=⟨_,rfl⟩;rw [←hg1'] at u1 u2 u3;obtain ⟨g2',hg2'⟩: ∃g2':Nat→Int,g2'=putW g1' ci 2 ((s.sn+1)%65536):=⟨_,rfl⟩;rw [←hg2'] at u1 u2 u3;have hnd:=hw.dr.pb.heads;have hea:r.c+4+8*(s.sn%r.n)=a:=by rw [hrn.eq,←e2,ha]
    have hget:zbb s.L (zaf g2' (r.c+4+8*(s.sn%r.n)).toNat 8%4294967296)=some e:=by
      rw [hea,Int.toNat_natCast,u2];exact zgE hnd hmem
    obtain ⟨hr0,hfin⟩:=zou (r:=r) (g:=g2') hs.ph hs.br ⟨by omega,by omega⟩ hget;rw [hea,Int.toNat_natCast,u3] at hfin;have hdel:zbQ s.L e.head=s.L.take k++s.L.drop (k+1):=zmV hkl (by rw [he]) fun q hq hqe=>by
      have:=(List.pairwise_iff_getElem.1 hnd) q k (by simpa using (by omega:q<s.L.length)) (by simpa using hkl) hq;simp only [List.getElem_map] at this;exact this (by rw [hqe,he])
    have hDI1:=hs.di.recl;obtain ⟨s2,hs2⟩: ∃s2:SD,s2= { s with op:=2,nn:=false,tok:=e.tk,wr:=c.v,kk:=false,F:=e.ids++s.F,L:=zbQ s.L e.head,sn:=(s.sn+1)%65536,ph:=0,dn:=true }:=⟨_,rfl⟩;have hfin2:zdL r 20 0 (za9 s).2 g2'=(3,s2,g2'):=by rw [hs2];exact hfin
    have hS2o:s2.out= .agg #[.int .i64 2,.bool false,.int .i64 e.tk,.int .u32 c.v,.bool false]:=by
      rw [hs2];unfold SD.out;rw [if_pos ⟨rfl,rfl⟩]
    have hS2h:s2.has=true:=by rw [hs2];rfl
    have hS2w:(s2.F.length:Int)=(s.F.length:Int)+e.ids.length:=by
      rw [hs2];show (((e.ids++s.F).length:Nat):Int)=_;rw [List.length_append];omega
    have hS2L:s2.L=s.L.take k++s.L.drop (k+1):=by rw [hs2];exact hdel
    have hS2n:s2.sn=(s.sn+1)%65536:=by rw [hs2]
    have hS2s:HsS s2 tb tk (j+1):=by
      rw [hs2];exact ⟨rfl,hs.br,hs.tb,⟨fun q=>absurd rfl q⟩,fun x hx=>hs.tks x ((List.eraseP_sublist (p:=fun (e':SO)=>e'.head==e.head) (l:=s.L)).subset hx),⟨hs.tk0.1,by have:=hs.tk0.2;omega⟩,hs.av⟩
    have hK:HidP ((za9 s).1=0∧zdL r 20 0 (za9 s).2 g2'=(3,s2,g2')∧s2.out= .agg #[.int .i64 2,.bool false,.int .i64 e.tk,.int .u32 c.v,.bool false]∧s2.has=true∧(s2.F.length:Int)=(s.F.length:Int)+e.ids.length∧s2.L=s.L.take k++s.L.drop (k+1)∧s2.sn=(s.sn+1)%65536∧HsS s2 tb tk (j+1)):=⟨hr0,hfin2,hS2o,hS2h,hS2w,hS2L,hS2n,hS2s⟩;replace hg1':HidP _:=⟨hg1'⟩;replace hg2':HidP _:=⟨hg2'⟩;replace hW8:HidP _:=⟨hW8⟩;replace ha:HidP _:=⟨ha⟩;replace hci:HidP _:=⟨hci⟩;replace e2:HidP _:=⟨e2⟩;replace hall:HidP _:=⟨hall⟩;clear hs2 hfin hdel hr0 hfin2 hS2o hS2h hS2w hS2L hS2n hS2s u1 u2 u3 hek he hget hnd hea hk;have hO3:=HidP.mk (And.intro o0 (And.intro o1 o2));clear o0 o1 o2;have hwA:=hw.below hbA;have kT:=Cl.new w #[.bool true,.slice sa c.sl.length cs,.int .i64 c.n,.int .u32 c.v] 90;have hGA:=(hwA.outR).1;have x10:=hwA.x10;unfold zfP at x10;rw [hrn.eq] at x10;unfold Rg.val at hwh;rw [hrn.eq] at hwh;obtain ⟨l1,l2⟩:=hw.x10l;have lo:=hw.old.size;have x0:=x10.cell 0 _ rfl;have x1:=x10.cell 1 _ rfl;have x2:=x10.cell 2 _ rfl;have x3:=x10.cell 3 _ rfl;have x4:=x10.cell 4 _ rfl;have x10d:=x10.kept (w':=(w.alloc (Obj.cells #[.bool true,.slice sa c.sl.length cs,.int .i64 c.n,.int .u32 c.v] 90)).drew) rfl;have y0:=x10d.cell 0 _ rfl;have y1:=x10d.cell 1 _ rfl;have y2:=x10d.cell 2 _ rfl;have y3:=x10d.cell 3 _ rfl;have y4:=x10d.cell 4 _ rfl;have hP:=HidP.mk (And.intro hcv (And.intro hmem (And.intro hhd (And.intro hG (And.intro hsn (And.intro hsnm (And.intro hids (And.intro hbn (And.intro hrk (And.intro hrn (And.intro hLl (And.intro hn16 (And.intro hRl (And.intro hGl (And.intro hGd (And.intro l1 (And.intro l2 (And.intro lo hGA))))))))))))))))));clear hcv hmem hhd hG hsn hsnm hids hbn hrk hrn hLl hn16 hRl hGl hGd l1 l2 lo hGA hL0 hj h60;refine zaK (c':=(zad 0 (zad 0 (zad 1 (zad 0 (zad 1 (zad 1 (zad 1 (zad 1 (zad 1 (zad 1 (zad 1 (zad 1 (zad 1 (zad 1 (zad 1 (match (f4).body with|some c=>c|none=> .skip))))))))))))))))) (by kernel_rfl) ?_
    dsimp only [f4,zad]
    go_wp2_with (first
      | (go_at_call 7;refine (hpk _).mono ?_;rintro en w3 ⟨rfl,hw3⟩;have hw3:=hw3.symm;subst hw3)
      | go_in)
    go_region_held3 (fun w'=>w'.cell? ⟨d.X10,0,none⟩=some (.bool false)∧w'.cell? ⟨d.X10,1,none⟩=some (.int .i64 n)∧w'.cell? ⟨d.X10,2,none⟩=some (.int .u64 r.d)∧w'.cell? ⟨d.X10,3,none⟩=some (.int .u64 r.v)∧w'.cell? ⟨d.X10,4,none⟩=some (.int .u64 r.c)) (go_keep)
      ((first
        | (go_at_call 21;refine (hwh _).mono ?_;rintro en w3 ⟨rfl,hb3⟩;have x103:=x10d.below hb3 x10d.lt;have z0:=x103.cell 0 _ rfl;have z1:=x103.cell 1 _ rfl;have z2:=x103.cell 2 _ rfl;have z3:=x103.cell 3 _ rfl;have z4:=x103.cell 4 _ rfl)))
    go_wp2_with fail;obtain ⟨hcv,hmem,hhd,hG,hsn,hsnm,hids,hbn,hrk,hrn,hLl,hn16,hRl,hGl,hGd,l1,l2,lo,hGA⟩:=hP.out;obtain ⟨o0,o1,o2⟩:=hO3.out;have hbd:=(Below.refl (w.alloc (Obj.cells #[.bool true,.slice sa c.sl.length cs,.int .i64 c.n,.int .u32 c.v] 90)).heap.size (w.alloc (Obj.cells #[.bool true,.slice sa c.sl.length cs,.int .i64 c.n,.int .u32 c.v] 90))).drew;have hw3:=(hwA.below hbd).below hb3;have kT3:=(kT.kept (w':=(w.alloc (Obj.cells #[.bool true,.slice sa c.sl.length cs,.int .i64 c.n,.int .u32 c.v] 90)).drew) rfl).below hb3 kT.lt;have hG3:=(hw3.outR).1;have p0:=hG3 _ _ o0;rw [Nat.zero_add] at p0;have hst1:=fun {w':World} (q:HsW W0 ev tb d r w' s g (.slice (some ⟨G,0,none⟩) s.L.length cov) s.L)=>(by
      have q2:=ziI d.P d.L d.Bs d.B 60000 a 8 W8 g w' q.dr.f.mem (by decide) (by decide) ha2;exact q2.mono fun en w2 hh=>⟨hh.1,q.turn ⟨q.dr.f.memB (zg1 hh.2.2) (hg1'.out▸hh.2.1),q.dr.pb⟩ ((zg1 hh.2.2).mono fun b q=> .inr (.inr q)),(zg1 hh.2.2).mono fun b q=> .inr (.inr q)⟩:Calls prog 19 #[.pointer (some ⟨d.P,0,none⟩),.int .u64 a,.int .i64 8,.int .u64 W8] w' fun en w2=>en= .returned (.int .i64 0)∧HsW W0 ev tb d r w2 s g1' (.slice (some ⟨G,0,none⟩) s.L.length cov) s.L∧Dw.Mv (sdK d.S d.M d.B) w' w2)
    have hst2:=fun {w':World} (q:HsW W0 ev tb d r w' s g1' (.slice (some ⟨G,0,none⟩) s.L.length cov) s.L)=>(by
      have q2:=ziI d.P d.L d.Bs d.B 60000 ci 2 ((s.sn+1)%65536) g1' w' q.dr.f.mem (by decide) (by decide) hci2;rw [←hci.out] at q2;exact q2.mono fun en w2 hh=>⟨hh.1,q.turn ⟨q.dr.f.memB (zg1 hh.2.2) (hg2'.out▸hh.2.1),q.dr.pb⟩ ((zg1 hh.2.2).mono fun b q=> .inr (.inr q)),(zg1 hh.2.2).mono fun b q=> .inr (.inr q)⟩:Calls prog 19 #[.pointer (some ⟨d.P,0,none⟩),.int .u64 (r.c+2),.int .i64 2,.int .u64 ((s.sn+1)%65536)] w' fun en w2=>en= .returned (.int .i64 0)∧HsW W0 ev tb d r w2 s g2' (.slice (some ⟨G,0,none⟩) s.L.length cov) s.L∧Dw.Mv (sdK d.S d.M d.B) w' w2)
    have kT3d:=kT3.kept (w':=w3.drew) rfl;have hw3d:=hw3.below (Below.refl w3.heap.size w3).drew;have p0d:=hw3d.outR.1 _ _ o0;rw [Nat.zero_add] at p0d;have pT:=kT3.cell 3 _ rfl;have pTd:=kT3d.cell 3 _ rfl;have l10:d.X10≤w.heap.size:=by have:=hwA.x10.lt;omega
    clear hcv hmem hhd hG hsn hsnm hids hbn hrk hrn hLl hn16 hRl l1 l2 lo hGA o0 o1 o2 x0 x1 x2 x3 x4 y0 y1 y2 y3 y4 x10 x10d hG3 hwh hpk a0 a1 a2 a3 hbA
    try clear z0 z1 z2 z3 z4 x103
    go_region_held3 (fun w'=>w'.cell? ⟨G,k*3,none⟩=some (.int .i64 e.head)∧w'.cell? ⟨w.heap.size,3,none⟩=some (.int .u32 c.v)) (go_keep)
      ((first
        | (go_at_call 22;refine (huw _).mono ?_;rintro en w5 ⟨rfl,hb5⟩;have hw5:=hw3d.below hb5;have kT5:=kT3d.below hb5 kT3d.lt;have p05:=hw5.outR.1 _ _ hO3.out.1;rw [Nat.zero_add] at p05;have pT5:=kT5.cell 3 _ rfl)
        | (go_at_call 19;refine (hst1 hw5).mono ?_;rintro en w6 ⟨rfl,hw6,hm6⟩;have kT6:=kT5.kept (hw5.kept hm6 _ kT5.lt (.inr l10));have p06:=hw6.outR.1 _ _ hO3.out.1;rw [Nat.zero_add] at p06;have pT6:=kT6.cell 3 _ rfl)))
    go_wp2_with fail;obtain ⟨hr0,hfin2,hS2o,hS2h,hS2w,hS2L,hS2n,hS2s⟩:=hK.out;have hrec:=fun {w':World} (q:HsW W0 ev tb d r w' s g2' (.slice (some ⟨G,0,none⟩) s.L.length cov) s.L)=>(by
      have q1:=zhW q.dr;rw [hr0] at q1;exact q1.mono fun en w2 hh=>⟨hh.1,q.turn hh.2.1 (zfj hh.2.2),zfj hh.2.2⟩:Calls prog 16 #[.pointer (some ⟨d.S,0,none⟩)] w' fun en w2=>en= .returned (.int .i64 0)∧HsW W0 ev tb d r w2 (za9 s).2 g2' (.slice (some ⟨G,0,none⟩) s.L.length cov) s.L∧Dw.Mv (sdK d.S d.M d.B) w' w2)
    have hfns:=fun {w':World} (q:HsW W0 ev tb d r w' (za9 s).2 g2' (.slice (some ⟨G,0,none⟩) s.L.length cov) s.L)=>((zhl q.dr hDI1 (by decide) hfin2).mono fun en w2 hh=>⟨hh.1,q.turn hh.2.1 hh.2.2,hh.2.2⟩:Calls prog 38 #[.pointer (some ⟨d.S,0,none⟩)] w' fun en w2=>en= .returned (.int .i64 3)∧HsW W0 ev tb d r w2 s2 g2' (.slice (some ⟨G,0,none⟩) s.L.length cov) s.L∧Dw.Mv (sdK d.S d.M d.B) w' w2);have hdn:=fun {w':World} (q:HsW W0 ev tb d r w' s2 g2' (.slice (some ⟨G,0,none⟩) s.L.length cov) s.L)=>(by
      have q1:=zmc q.dr;rw [hS2o,hS2h] at q1;exact q1:Calls prog 25 #[.pointer (some ⟨d.S,0,none⟩)] w' fun en w2=>en= .returned (.tuple #[.agg #[.int .i64 2,.bool false,.int .i64 e.tk,.int .u32 c.v,.bool false],.bool true])∧Below w'.heap.size w' w2)
    have hsp:=fun {w':World} (q:HsW W0 ev tb d r w' s2 g2' (.slice (some ⟨G,0,none⟩) s.L.length cov) s.L)=>(by
      have q1:=ziO q.dr;rw [hS2w] at q1;exact q1:Calls prog 30 #[.pointer (some ⟨d.S,0,none⟩)] w' fun en w2=>en= .returned (.int .i64 ((s.F.length:Int)+e.ids.length))∧w2=w')
    clear hr0 hfin2 hS2o hS2h hS2w hS2L hS2n hS2s hst1 p0 p0d pT pTd p05 pT5 hw3 hw3d hw5 kT3 kT3d kT5 hm6 hDI1 hwA kT huw;go_wp2_with (first
      | (go_at_call 19;refine (hst2 hw6).mono ?_;rintro en w7 ⟨rfl,hw7,hm7⟩;have kT7:=kT6.kept (hw6.kept hm7 _ kT6.lt (.inr l10)))
      | (go_at_call 16;refine (hrec hw7).mono ?_;rintro en w10 ⟨rfl,hw10,hm10⟩;have kT10:=kT7.kept (hw7.kept hm10 _ kT7.lt (.inr l10)))
      | (go_at_call 38;refine (hfns hw10).mono ?_;rintro en w11 ⟨rfl,hw11,hm11⟩;have kT11:=kT10.kept (hw10.kept hm11 _ kT10.lt (.inr l10)))
      | (go_at_call 25;refine (hdn hw11).mono ?_;rintro en w12 ⟨rfl,hb12⟩;have hbD:=hb12.alloc hb12.size (Obj.cells #[.int .i64 2,.bool false,.int .i64 e.tk,.int .u32 c.v,.bool false] 71);have hwD:=hw11.below hbD;have kTD:=kT11.below hbD kT11.lt;have kN:=Cl.new w12 #[.int .i64 2,.bool false,.int .i64 e.tk,.int .u32 c.v,.bool false] 71;have m3:=kTD.cell 3 _ rfl;have q1:=hwD.outR.1 _ _ hO3.out.2.1;have q2:=hwD.outR.1 _ _ hO3.out.2.2;rw [Nat.zero_add] at q1 q2)
      | go_in)
    clear hrec hfns hdn kT7 kT10 kT11 hw6 hw7 hw10 hw11 hm7 hm10 hm11 p06 pT6;have kTDd:=kTD.kept (w':=(w12.alloc (Obj.cells #[.int .i64 2,.bool false,.int .i64 e.tk,.int .u32 c.v,.bool false] 71)).drew) rfl;have kNd:=kN.kept (w':=(w12.alloc (Obj.cells #[.int .i64 2,.bool false,.int .i64 e.tk,.int .u32 c.v,.bool false] 71)).drew) rfl;have hwDd:=hwD.below (Below.refl _ _).drew;have hsp':=hsp hwDd;have n3:=kTDd.cell 3 _ rfl;have r1:=hwDd.outR.1 _ _ hO3.out.2.1;rw [Nat.zero_add] at r1;have v0:=kNd.cell 0 _ rfl;have v1:=kNd.cell 1 _ rfl;have v2:=kNd.cell 2 _ rfl;have v3:=kNd.cell 3 _ rfl;have v4:=kNd.cell 4 _ rfl;have u0:=kN.cell 0 _ rfl;have u1:=kN.cell 1 _ rfl;have u2:=kN.cell 2 _ rfl;have u3:=kN.cell 3 _ rfl;have u4:=kN.cell 4 _ rfl;go_region_held3 (fun w'=>w'.cell? ⟨w12.heap.size,0,none⟩=some (.int .i64 2)∧w'.cell? ⟨w12.heap.size,1,none⟩=some (.bool false)∧w'.cell? ⟨w12.heap.size,2,none⟩=some (.int .i64 e.tk)∧w'.cell? ⟨w12.heap.size,3,none⟩=some (.int .u32 c.v)∧w'.cell? ⟨w12.heap.size,4,none⟩=some (.bool false)∧w'.cell? ⟨w.heap.size,3,none⟩=some (.int .u32 c.v)∧w'.cell? ⟨G,k*3+1,none⟩=some (.int .i64 e.tk)) (go_keep)
      ((first
        | (go_at_call 30;refine hsp'.mono ?_;rintro en w13 ⟨rfl,hw13⟩;have hw13:=hw13.symm;subst hw13)))
    go_wp2_with fail;obtain ⟨hcv,hmem,hhd,hG,hsn,hsnm,hids,hbn,hrk,hrn,hLl,hn16,hRl,hGl,hGd,l1,l2,lo,hGA⟩:=hP.out;clear hsp hsp' kTD kN kTDd kNd n3 r1 v0 v1 v2 v3 v4 u0 u1 u2 u3 u4 q1 q2 m3 hst2 kT6 hwD hcv hmem hhd hG hsn hsnm hids hbn hrk hrn hn16 hRl l1 l2 lo hGA hP hO3 hb12 hbD;generalize (w12.alloc (Obj.cells #[.int .i64 2,.bool false,.int .i64 e.tk,.int .u32 c.v,.bool false] 71)).drew=wc at*;have hwD:=hwDd;clear hwDd;obtain ⟨hG13,hcap,hGd2,hGl2⟩:=hwD.outR;have hinfo:=zt6;obtain ⟨i0,hi0⟩: ∃i0,prog.info? 95=some i0:=by
      cases hi:prog.info? 95 with
      | none=>rw [hi] at hinfo;cases hinfo
      | some i=>exact ⟨i,rfl⟩
    rw [hi0] at hinfo;simp only [Option.map_some,Option.some.injEq,Prod.mk.injEq] at hinfo;obtain ⟨j1,j2,j3⟩:=hinfo;have hU:prog.underlying 93=some (.slice 95):=by kernel_rfl
    have hoe:=zoG wc 95 3;have hGs:G<((wc.alloc (Obj.cells #[] 95)).drew).heap.size:=by simp;omega
    have hGa:((wc.alloc (Obj.cells #[] 95)).drew).rangeAt G 0 (zak (outM s.L)):=zae hG13 (heap_alloc_old wc _ (h:=hGl2));have hone:=zkk (outM s.L);have hlen:(zak (outM s.L)).length=s.L.length*3:=by rw [zbC,zbY]
    have hn1:((zak (outM s.L)).take (k*3)).length=k*3:=by rw [List.length_take,hlen];omega
    have hn2:((zak (outM s.L)).drop ((k+1)*3)).length=(s.L.length-(k+1))*3:=by rw [List.length_drop,hlen];omega
    have c1:(0:Int)≤(k:Int):=by omega
    have c2:(k:Int)≤(cov:Int):=by omega
    have c3:(k:Int)+1≤(s.L.length:Int):=by omega
    have c4:(s.L.length:Int)≤(cov:Int):=by omega
    have c5:(0:Int)≤(k:Int)+1:=by omega
    have c6:=zmu k (by omega);have c7:(k:Int)+1≤(cov:Int):=by omega
    clear hG13 e7;go_region_law (first
      | (refine zeK (P0:=prog) (by rfl) _ _ _ (by rfl) wc.heap.size 95 95 i0 _ 3 24 hU hi0 j1 j2 j3 rfl (by decide) (.slice (some ⟨wc.heap.size,0,none⟩) 0 0) 0 [] (by rfl) hoe (some ⟨G,0,none⟩) ⟨G,0,none⟩ rfl k cov ((zak (outM s.L)).take (k*3)) (by rfl) hn1
           (zo3 hGa (k*3)) (fun u hu=>hone u (List.mem_of_mem_take hu)) (by unfold maxLen;omega) (by omega) (by simp) ?_
         intro v1' wa t1 hown1 hgrow1 hat1;have hGb:=zlC hGa hgrow1 hGs (fun e=>by simp [Value.ownBlock] at e;omega))
      | (refine zeK (P0:=prog) (by rfl) _ _ _ (by rfl) wc.heap.size 95 t1 i0 _ 3 24 hU hi0 j1 j2 j3 rfl (by decide) v1' (0+k) ([]++(zak (outM s.L)).take (k*3)) (by rfl) hown1 (if cov=k+1 then some ⟨G,0,none⟩ else some ⟨G,(k+1)*3,none⟩) (if cov=k+1 then ⟨G,0,none⟩ else ⟨G,(k+1)*3,none⟩) (by split<;>rfl) (s.L.length-(k+1)) (cov-(k+1)) ((zak (outM s.L)).drop ((k+1)*3)) (by rfl) hn2
           (zmf hGb (by rw [hlen];omega)) (fun u hu=>hone u (List.mem_of_mem_drop hu)) (by unfold maxLen;omega) (by omega) (by have:=hgrow1.size;simp at this;omega) ?_
         intro v2' wb t2 hown2 hgrow2 hat2))
    all_goals (go_wp2_with fail)
    all_goals
      have hcs: []++(zak (outM s.L)).take (k*3)++(zak (outM s.L)).drop ((k+1)*3)=zak (outM (s.L.take k++s.L.drop (k+1))):=by
        rw [List.nil_append,ziZ _ _ (by rw [zbY];omega),zi0 _ _ (by rw [zbY];omega),zgn,zbD];unfold outM;rw [List.map_take,List.map_drop]
      have hcl:0+k+(s.L.length-(k+1))=(s.L.take k++s.L.drop (k+1)).length:=by rw [List.length_append,List.length_take,List.length_drop];omega
      rw [hcs,hcl] at hown2;have q1:Below wc.heap.size wc ((wc.alloc (Obj.cells #[] 95)).drew):=⟨rfl,rfl,rfl,by simp,fun b hb=>heap_alloc_old wc _ (h:=hb)⟩;have q2:Below wc.heap.size ((wc.alloc (Obj.cells #[] 95)).drew) wa:=⟨hgrow1.os,hgrow1.tape,hgrow1.output,hgrow1.size,fun b hb=>hgrow1.block b (by simp;omega) (fun e=>by simp [Value.ownBlock] at e;omega)⟩;have hs1:=hgrow1.size;simp at hs1;have q3:Below wc.heap.size wa wb:=⟨hgrow2.os,hgrow2.tape,hgrow2.output,hgrow2.size,fun b hb=>hgrow2.block b (by omega) (fun e=>by
        rcases hat1 with h|h
        · rw [h] at e;simp [Value.ownBlock] at e;omega
        · rw [h] at e;simp at e;omega)⟩
      have hX:=hwD.x10.lt;have hF:=hwD.setO (M':=s.L.take k++s.L.drop (k+1)) (zaa ((q1.trans q2).trans q3)) (OwnR.mono hown2 (by omega)) (fun b e=> .inr (OwnR.lt hown2 b e).1);obtain ⟨hr0,hfin2,hS2o,hS2h,hS2w,hS2L,hS2n,hS2s⟩:=hK.out;rw [←hS2L] at hF;exact ⟨rfl,s2,_,v2',tk,⟨rfl,rfl,rfl,rfl,rfl,rfl,rfl,rfl,rfl,rfl,congrArg (Value.int .u16) hS2n.symm,rfl,congrArg (Value.int .i64) hS2w.symm,rfl⟩,hF,hS2s⟩
section
variable {A A':Nat→Prop} {w w':World} {S P L Bs B N b2:Nat} {r:Tryz.Rg} {s s':Tryz.DS} {g g':Nat→Int} {lv lv':Value}
end
end Go.Proofs
namespace Go.Proofs
open Go.Dw Go.RowKit Go.Maps Go.Sort Go.Deep
section
variable {A A':Nat→Prop} {w w':World} {S P L Bs B N b2:Nat} {r:Tryz.Rg} {s s':Tryz.DS} {g g':Nat→Int} {lv lv':Value}
end
end Go.Proofs
namespace Go.Proofs
open Go.Dw Go.RowKit Go.Maps Go.Sort Go.Deep
section
variable {A A':Nat→Prop} {w w':World} {S P L Bs B N b2:Nat} {r:Tryz.Rg} {s s':Tryz.DS} {g g':Nat→Int} {lv lv':Value}
end
end Go.Proofs
namespace Go.Proofs
open Go.Dw Go.RowKit Go.Maps Go.Sort Go.Deep
section
variable {A A':Nat→Prop} {w w':World} {S P L Bs B N b2:Nat} {r:Tryz.Rg} {s s':Tryz.DS} {g g':Nat→Int} {lv lv':Value}
end
end Go.Proofs
namespace Go.Proofs
open Go.Dw Go.RowKit Go.Maps Go.Sort Go.Deep
section
variable {A A':Nat→Prop} {w w':World} {S P L Bs B N b2:Nat} {r:Tryz.Rg} {s s':Tryz.DS} {g g':Nat→Int} {lv lv':Value}
end
end Go.Proofs
namespace Go.Proofs
open Go.Dw Go.RowKit Go.Maps Go.Sort Go.Deep
section
variable {A A':Nat→Prop} {w w':World} {S P L Bs B N b2:Nat} {r:Tryz.Rg} {s s':Tryz.DS} {g g':Nat→Int} {lv lv':Value}
end
end Go.Proofs
namespace Go.Proofs
open Go.Dw Go.RowKit Go.Maps Go.Sort Go.Deep Go.Shelf
section
variable {fns fns':List Nat} {nw nw':Prop} {A A':Nat→Prop} {w w':World} {S P L Bs B I N:Nat} {r:Tryz.Rg} {s s':Tryz.DS} {g g':Nat→Int}
end
end Go.Proofs
namespace Go.Proofs
open Go.Dw Go.RowKit Go.Maps Go.Sort Go.Deep
section
variable {fns fns':List Nat} {nw nw':Prop} {A A':Nat→Prop} {w w':World} {S P L Bs B I N:Nat} {r:Tryz.Rg} {s s':Tryz.DS} {g g':Nat→Int}
end
end Go.Proofs
namespace Go.Proofs
open Go.Dw Go.RowKit Go.Maps Go.Sort Go.Deep
section
variable {fns fns':List Nat} {nw nw':Prop} {A A':Nat→Prop} {w w':World} {S P L Bs B I N:Nat} {r:Tryz.Rg} {s s':Tryz.DS} {g g':Nat→Int}
end
end Go.Proofs
namespace Go.Proofs
open Go.Dw Go.RowKit Go.Maps Go.Sort Go.Deep
section
variable {fns fns':List Nat} {nw nw':Prop} {A A':Nat→Prop} {w w':World} {S P L Bs B I N:Nat} {r:Tryz.Rg} {s s':Tryz.DS} {g g':Nat→Int}
end
end Go.Proofs
namespace Go.Proofs
open Go.Dw Go.RowKit Go.Maps Go.Sort Go.Deep
section
variable {fns fns':List Nat} {nw nw':Prop} {A A':Nat→Prop} {w w':World} {S P L Bs B I N:Nat} {r:Tryz.Rg} {s s':Tryz.DS} {g g':Nat→Int}
end
end Go.Proofs
namespace Go.Proofs
open Go.Dw Go.RowKit Go.Maps Go.Sort Go.Deep
theorem Tryz.zoH (w:World) (t:TypeId) (sz:Nat):(w.alloc (Obj.cells #[] t)).ownsRow w.heap.size t sz (.slice (some ⟨w.heap.size,0,none⟩) 0 0) 0 []:=
 ⟨by simp,.inr ⟨_,0,_,rfl,Nat.le_refl _,heap_alloc_last w _,Nat.le_refl _,Nat.zero_le _,by simp,by simp⟩⟩
set_option maxRecDepth 100000 in
theorem Tryz.zkD {A:Nat→Prop} {w:World} {v:Value} {l:List Sg} (h:SegV A w v l) (hl:l.length≤1000000):
    Calls prog 14 #[v] w fun e w'=> ∃u,e= .returned u∧OwnSeg w' w.heap.size u l∧Below w.heap.size w w':=by
  obtain ⟨sa,c,rfl,hok,hr⟩:=h;obtain ⟨i0,hi0,hz0,hz1,hzb⟩:=info_parts zl1;have hseg1:=zfS l;have hoe:=zoH w 136 3;have hb0:=(Below.refl w.heap.size w).alloc (Nat.le_refl _) (.cells #[] 136);cases sa with
  | none=>
    have h0:l= []:=by
      rcases hr with h|⟨R,o,h,_⟩
      · exact h
      · cases h
    subst h0;go_enter func14,ntmps14;go_wp2_with fail;go_ret;exact ⟨_,rfl,hoe,hb0⟩
  | some ad=>
    have hnews: ∀j u,(zam l)[j]? =some u→(w.alloc (.cells #[] 136)).cell? (ad.add j)=some u:=fun j u hj=>by
      rcases hr with h|⟨R,o,h,_,hr⟩
      · subst h;cases hj
      · cases h;have hlt:R<w.heap.size:=World.block_lt_of_cell? w _ (hr j u hj);rw [Dw.addr_add];exact (World.cell?_of_block (a:=⟨R,o+j,none⟩) (Below.heap_alloc w _ R hlt)).trans (hr j u hj)
    have hlen:=zbH l;go_enter func14,ntmps14;go_wp2_with (first
      | (at_builtin;go_loud (refine wpList_append_own_at _ rfl _ _ 51 rfl w.heap.size 136 i0 _ 3 16 (by kernel_rfl) hi0 hz0 hz1 hzb rfl (by decide) (.slice (some ⟨w.heap.size,0,none⟩) 0 0) 0 [] rfl hoe ad l.length c (zam l) rfl (by omega) hnews hseg1 (by unfold maxLen;omega) (by omega) (by simp) ?_);intro u wa h2 h3 h4 h5;go_frame)
      | go_in)
    go_ret;have hbA:Below w.heap.size w wa:=⟨h3.os,h3.tape,h3.output,Nat.le_trans hb0.size h3.size,fun b hb=>(h3.block b (by simp;omega) (fun e=>by simp [Value.ownBlock] at e;omega)).trans (hb0.block b hb)⟩;exact ⟨_,rfl,by unfold OwnSeg;simpa using h2,hbA⟩
section
variable {A:Nat→Prop} {w:World} {S P L Bs B I N b2:Nat} {r:Tryz.Rg} {s:Tryz.DS} {g:Nat→Int} {lv:Value}
end
section
variable {n0:Nat} {Z Z':Nat→Prop} {w0 w w':World} {d:Tryz.Ids} {r:Tryz.Rg} {s1 s1':Tryz.DS} {g1 g1':Nat→Int} {s2 s2':Tryz.DS} {g2 g2':Nat→Int}
end
end Go.Proofs
namespace Go.Proofs
open Go.Dw Go.RowKit Go.Maps Go.Sort Go.Deep
theorem Tryz.zgL: ∀(l:List Sg) (pw:Bool) (q:Int),zaE pw q l=0∨zaE pw q l=2
 | [], pw,q=>by unfold zaE;split<;>simp
 | x::r,pw,q=>by
  unfold zaE;split
  ·exact .inr rfl
  ·exact zgL r _ _
theorem Tryz.zpR {N:Nat} {l:List Sg}:zbs N l≠7:=by
 have h:zaO l≠7:=by
  unfold zaO;split
  ·decide
  ·rcases zgL l false 0 with e|e<;>rw [e]<;>decide
 unfold zbs;split
 ·split<;>decide
 ·exact h
section
variable {A:Nat→Prop} {w w':World} {S P L Bs B M N:Nat} {r:Tryz.Rg} {s s':Tryz.SD} {g g':Nat→Int}
set_option maxRecDepth 100000 in
theorem Tryz.zxq {W0 w:World} {n:Nat} {ev tb:Bool} {d:Hs} {r:Rg} {aa:Option Addr} {ca:Nat} {acts:List Tn} {ov:Value} {tk:Int} {j:Nat} {s:SD} {g:Nat→Int} {tm:Array Value} (hf:Hs0 n d r (.slice aa acts.length ca) ov s.sn tk s.F.length j tm) (hw:HsW W0 ev tb d r w s g ov s.L) (hs:HsS s tb tk j) (hA:TnsV W0 (.slice aa acts.length ca) acts) (hj:j<acts.length) (h60:acts.length≤60) (hbk:acts[j].bk=false) (hsl100:acts[j].sl.length≤100) (hno:(zbG 60000 s tk acts[j].sl).1≠0):
    (zbf prog [0,0,1,0,1,1,1,1,1,1,1,1,1,1,1,4]).wp prog (zoa W0 n ev tb d r (.slice aa acts.length ca) j) ⟨tm,[]⟩ w:=by
  obtain ⟨jf,hjf⟩:=zhj (t:=tm) hf.sz hf.t0 hf.t2 hf.t4 hf.t8 hf.t9 hf.t10 hf.t12 hf.t15 hf.t18 hf.t19 hf.t20 hf.t21 hf.t22;rw [hjf];clear hjf hf;obtain ⟨R,o,hra,hrow⟩: ∃R o,aa=some ⟨R,o,none⟩∧ ∀(i:Nat) (hi:i<acts.length),W0.rangeAt R (o+4*i) acts[i].cells:=by
    obtain ⟨aa',c',e,h⟩:=hA.val;cases e;rcases h with q|⟨R,o,q1,q2⟩
    · rw [q] at hj;simp at hj
    · exact ⟨R,o,q1,q2⟩
  have hco:=hA.ok acts[j] (List.getElem_mem hj);have hcw:=hrow j hj;have hRl:R<W0.heap.size:=World.block_lt_of_cell? W0 _ (hcw 0 _ rfl);have hcr:=zae hcw (hw.old.block R hRl);obtain ⟨c,hc⟩: ∃c,c=acts[j]:=⟨_,rfl⟩;rw [←hc] at hco hcr hbk hsl100 hno;rw [Nat.mul_comm 4 j] at hcr;obtain ⟨sa,cs,hsv,hsok,hsr⟩:=hco.sv;have hv0: ∀ {w'},Below W0.heap.size W0 w'→SegV (fun b=>W0.heap.size≤b) w' (.slice sa c.sl.length cs) c.sl:=fun {w'} hb=>SegV.setK (A:=fun _=>False) (w:=W0) ⟨sa,cs,rfl,hsok,hsr⟩ (fun b hb' q=>absurd q (by omega)) (fun b hb' _=>hb.block b hb');have a0:=hcr 0 _ rfl;have a1:=hcr 1 _ rfl;have a2:=hcr 2 _ rfl;have a3:=hcr 3 _ rfl;rw [hsv] at a1;rw [hbk] at a0;simp only [Nat.add_zero] at a0;have hj':(j:Int)<acts.length:=by omega
  have ej:=zmu j (by omega);clear hc hcr hcw hrow hA hsr hco hsv hbk;subst hra;have hbA:=(Below.refl w.heap.size w).alloc (Nat.le_refl _) (Obj.cells #[.bool false,.slice sa c.sl.length cs,.int .i64 c.n,.int .u32 c.v] 90);have hwA:=hw.below hbA;have kT:=Cl.new w #[.bool false,.slice sa c.sl.length cs,.int .i64 c.n,.int .u32 c.v] 90;have pT:=kT.cell 1 _ rfl;have l10:d.X10≤w.heap.size:=by have:=hw.x10.lt;omega
  have hks:=zkD (hv0 hwA.old) (by omega);have hsame:=zuR hno;have hof:=fun {w1:World} {u:Value} (hb1:Below (w.alloc (Obj.cells #[.bool false,.slice sa c.sl.length cs,.int .i64 c.n,.int .u32 c.v] 90)).heap.size (w.alloc (Obj.cells #[.bool false,.slice sa c.sl.length cs,.int .i64 c.n,.int .u32 c.v] 90)) w1) (hu:OwnSeg w1 (w.alloc (Obj.cells #[.bool false,.slice sa c.sl.length cs,.int .i64 c.n,.int .u32 c.v] 90)).heap.size u c.sl)=>(by
    have q:=hwA.below hb1;have hlt:=hwA.dr.f.lt;exact (zvr q.dr (OwnSeg.segV hu hsok (A:=hsA d ov) (fun b q1 q=>by have:=hlt b q;omega)) (by omega) hno).mono fun en w2 hh=>⟨hh.1,q.below hh.2,zaa hh.2⟩:Calls prog 13 #[.pointer (some ⟨d.S,0,none⟩),.int .i64 tk,u] w1 fun en w2=>en= .returned (.int .i64 (zbG 60000 s tk c.sl).1)∧HsW W0 ev tb d r w2 s g ov s.L∧Dw.Mv (sdK d.S d.M d.B) w1 w2)
  have hfull:(zbG 60000 s tk c.sl).1=7→s.F.length<s.need c.sl:=zpM zpR;generalize (zbG 60000 s tk c.sl).1=er at hof hno hfull;have hsp:=fun {w':World} (q:HsW W0 ev tb d r w' s g ov s.L)=>ziO q.dr;have hbz:=fun {w':World} (q:HsW W0 ev tb d r w' s g ov s.L)=>(by
    have q1:=zeC q.dr;rw [hs.ph] at q1;exact q1:Calls prog 32 #[.pointer (some ⟨d.S,0,none⟩)] w' fun en w2=>en= .returned (.bool false)∧w2=w')
  have hneed:s.need c.sl=if tb=true∧1<c.sl.length then 1 else c.sl.length:=by
    unfold SD.need SD.tab;rw [hs.tb];simp
  clear hsame hwA;cases tb with
  | false=>
    rw [if_neg (by simp)] at hneed;by_cases h7:er=7
    · have hle:=hfull h7;rw [hneed] at hle;have hle': ¬(c.sl.length:Int)≤(s.F.length:Int):=by omega
      subst h7;clear hfull hneed hle hno;refine zaK (c':=(zad 0 (zad 0 (zad 1 (zad 0 (zad 1 (zad 1 (zad 1 (zad 1 (zad 1 (zad 1 (zad 1 (zad 1 (zad 1 (zad 1 (zad 1 (match (f4).body with|some c=>c|none=> .skip))))))))))))))))) (by kernel_rfl) ?_
      dsimp only [f4,zad]
      go_wp2_with (first
        | (go_at_call 14;refine hks.mono ?_;rintro en w1 ⟨u,rfl,hu,hb1⟩)
        | (go_at_call 13;refine (hof hb1 hu).mono ?_;rintro en w2 ⟨rfl,hw2,hm2⟩;have kT2:=(kT.below hb1 kT.lt).kept ((hw.below (hbA.trans (hb1.mono hbA.size))).kept hm2 _ (kT.below hb1 kT.lt).lt (.inr l10));have p2:=kT2.cell 1 _ rfl;have p4:=hw2.x4.cell 1 _ rfl)
        | (go_at_call 30;refine (hsp hw2).mono ?_;rintro en w3 ⟨rfl,hw3⟩;have hw3:=hw3.symm;subst hw3)
        | (go_at_call 32;refine (hbz hw2).mono ?_;rintro en w4 ⟨rfl,hw4⟩;have hw4:=hw4.symm;subst hw4)
        | go_in)
      exact ⟨rfl,s,g,ov,tk,⟨rfl,rfl,rfl,rfl,rfl,rfl,rfl,rfl,rfl,rfl,rfl,rfl,rfl,rfl⟩,hw2,hs.up⟩
    · clear hfull hneed;refine zaK (c':=(zad 0 (zad 0 (zad 1 (zad 0 (zad 1 (zad 1 (zad 1 (zad 1 (zad 1 (zad 1 (zad 1 (zad 1 (zad 1 (zad 1 (zad 1 (match (f4).body with|some c=>c|none=> .skip))))))))))))))))) (by kernel_rfl) ?_
      dsimp only [f4,zad]
      go_wp2_with (first
        | (go_at_call 14;refine hks.mono ?_;rintro en w1 ⟨u,rfl,hu,hb1⟩)
        | (go_at_call 13;refine (hof hb1 hu).mono ?_;rintro en w2 ⟨rfl,hw2,hm2⟩;have kT2:=(kT.below hb1 kT.lt).kept ((hw.below (hbA.trans (hb1.mono hbA.size))).kept hm2 _ (kT.below hb1 kT.lt).lt (.inr l10));have p2:=kT2.cell 1 _ rfl;have p4:=hw2.x4.cell 1 _ rfl)
        | (go_at_call 30;refine (hsp hw2).mono ?_;rintro en w3 ⟨rfl,hw3⟩;have hw3:=hw3.symm;subst hw3)
        | (go_at_call 32;refine (hbz hw2).mono ?_;rintro en w4 ⟨rfl,hw4⟩;have hw4:=hw4.symm;subst hw4)
        | go_in)
      exact ⟨rfl,s,g,ov,tk,⟨rfl,rfl,rfl,rfl,rfl,rfl,rfl,rfl,rfl,rfl,rfl,rfl,rfl,rfl⟩,hw2,hs.up⟩
  | true=>
    by_cases h1:1<c.sl.length
    · rw [if_pos ⟨rfl,h1⟩] at hneed;have h1':(c.sl.length:Int)>1:=by omega
      by_cases h7:er=7
      · have hle:=hfull h7;rw [hneed] at hle;have hle': ¬(1:Int)≤(s.F.length:Int):=by omega
        subst h7;clear hfull hneed hle hno;refine zaK (c':=(zad 0 (zad 0 (zad 1 (zad 0 (zad 1 (zad 1 (zad 1 (zad 1 (zad 1 (zad 1 (zad 1 (zad 1 (zad 1 (zad 1 (zad 1 (match (f4).body with|some c=>c|none=> .skip))))))))))))))))) (by kernel_rfl) ?_
        dsimp only [f4,zad]
        go_wp2_with (first
          | (go_at_call 14;refine hks.mono ?_;rintro en w1 ⟨u,rfl,hu,hb1⟩)
          | (go_at_call 13;refine (hof hb1 hu).mono ?_;rintro en w2 ⟨rfl,hw2,hm2⟩;have kT2:=(kT.below hb1 kT.lt).kept ((hw.below (hbA.trans (hb1.mono hbA.size))).kept hm2 _ (kT.below hb1 kT.lt).lt (.inr l10));have p2:=kT2.cell 1 _ rfl;have p4:=hw2.x4.cell 1 _ rfl)
          | (go_at_call 30;refine (hsp hw2).mono ?_;rintro en w3 ⟨rfl,hw3⟩;have hw3:=hw3.symm;subst hw3)
          | (go_at_call 32;refine (hbz hw2).mono ?_;rintro en w4 ⟨rfl,hw4⟩;have hw4:=hw4.symm;subst hw4)
          | go_in)
        exact ⟨rfl,s,g,ov,tk,⟨rfl,rfl,rfl,rfl,rfl,rfl,rfl,rfl,rfl,rfl,rfl,rfl,rfl,rfl⟩,hw2,hs.up⟩
      · clear hfull hneed;refine zaK (c':=(zad 0 (zad 0 (zad 1 (zad 0 (zad 1 (zad 1 (zad 1 (zad 1 (zad 1 (zad 1 (zad 1 (zad 1 (zad 1 (zad 1 (zad 1 (match (f4).body with|some c=>c|none=> .skip))))))))))))))))) (by kernel_rfl) ?_
        dsimp only [f4,zad]
        go_wp2_with (first
          | (go_at_call 14;refine hks.mono ?_;rintro en w1 ⟨u,rfl,hu,hb1⟩)
          | (go_at_call 13;refine (hof hb1 hu).mono ?_;rintro en w2 ⟨rfl,hw2,hm2⟩;have kT2:=(kT.below hb1 kT.lt).kept ((hw.below (hbA.trans (hb1.mono hbA.size))).kept hm2 _ (kT.below hb1 kT.lt).lt (.inr l10));have p2:=kT2.cell 1 _ rfl;have p4:=hw2.x4.cell 1 _ rfl)
          | (go_at_call 30;refine (hsp hw2).mono ?_;rintro en w3 ⟨rfl,hw3⟩;have hw3:=hw3.symm;subst hw3)
          | (go_at_call 32;refine (hbz hw2).mono ?_;rintro en w4 ⟨rfl,hw4⟩;have hw4:=hw4.symm;subst hw4)
          | go_in)
        exact ⟨rfl,s,g,ov,tk,⟨rfl,rfl,rfl,rfl,rfl,rfl,rfl,rfl,rfl,rfl,rfl,rfl,rfl,rfl⟩,hw2,hs.up⟩
    · rw [if_neg (fun q=>h1 q.2)] at hneed;have h1': ¬(c.sl.length:Int)>1:=by omega
      by_cases h7:er=7
      · have hle:=hfull h7;rw [hneed] at hle;have hle': ¬(c.sl.length:Int)≤(s.F.length:Int):=by omega
        subst h7;clear hfull hneed hle hno;refine zaK (c':=(zad 0 (zad 0 (zad 1 (zad 0 (zad 1 (zad 1 (zad 1 (zad 1 (zad 1 (zad 1 (zad 1 (zad 1 (zad 1 (zad 1 (zad 1 (match (f4).body with|some c=>c|none=> .skip))))))))))))))))) (by kernel_rfl) ?_
        dsimp only [f4,zad]
        go_wp2_with (first
          | (go_at_call 14;refine hks.mono ?_;rintro en w1 ⟨u,rfl,hu,hb1⟩)
          | (go_at_call 13;refine (hof hb1 hu).mono ?_;rintro en w2 ⟨rfl,hw2,hm2⟩;have kT2:=(kT.below hb1 kT.lt).kept ((hw.below (hbA.trans (hb1.mono hbA.size))).kept hm2 _ (kT.below hb1 kT.lt).lt (.inr l10));have p2:=kT2.cell 1 _ rfl;have p4:=hw2.x4.cell 1 _ rfl)
          | (go_at_call 30;refine (hsp hw2).mono ?_;rintro en w3 ⟨rfl,hw3⟩;have hw3:=hw3.symm;subst hw3)
          | (go_at_call 32;refine (hbz hw2).mono ?_;rintro en w4 ⟨rfl,hw4⟩;have hw4:=hw4.symm;subst hw4)
          | go_in)
        exact ⟨rfl,s,g,ov,tk,⟨rfl,rfl,rfl,rfl,rfl,rfl,rfl,rfl,rfl,rfl,rfl,rfl,rfl,rfl⟩,hw2,hs.up⟩
      · clear hfull hneed;refine zaK (c':=(zad 0 (zad 0 (zad 1 (zad 0 (zad 1 (zad 1 (zad 1 (zad 1 (zad 1 (zad 1 (zad 1 (zad 1 (zad 1 (zad 1 (zad 1 (match (f4).body with|some c=>c|none=> .skip))))))))))))))))) (by kernel_rfl) ?_
        dsimp only [f4,zad]
        go_wp2_with (first
          | (go_at_call 14;refine hks.mono ?_;rintro en w1 ⟨u,rfl,hu,hb1⟩)
          | (go_at_call 13;refine (hof hb1 hu).mono ?_;rintro en w2 ⟨rfl,hw2,hm2⟩;have kT2:=(kT.below hb1 kT.lt).kept ((hw.below (hbA.trans (hb1.mono hbA.size))).kept hm2 _ (kT.below hb1 kT.lt).lt (.inr l10));have p2:=kT2.cell 1 _ rfl;have p4:=hw2.x4.cell 1 _ rfl)
          | (go_at_call 30;refine (hsp hw2).mono ?_;rintro en w3 ⟨rfl,hw3⟩;have hw3:=hw3.symm;subst hw3)
          | (go_at_call 32;refine (hbz hw2).mono ?_;rintro en w4 ⟨rfl,hw4⟩;have hw4:=hw4.symm;subst hw4)
          | go_in)
        exact ⟨rfl,s,g,ov,tk,⟨rfl,rfl,rfl,rfl,rfl,rfl,rfl,rfl,rfl,rfl,rfl,rfl,rfl,rfl⟩,hw2,hs.up⟩
end
end Go.Proofs
namespace Go.Proofs
open Go.Dw
def Tryz.zj2:List Ent:= []
def Tryz.zm6:List Sh:= [.ro [.int .u64 (.lit 0),.int .u64 (.lit 60000)]]
def Tryz.zj3:List AV:= [.sl 1 0 1 (.known 1)]
def Tryz.zsI:List (SB×Bool):= []
def Tryz.zp7:List Leaf:= [
 ⟨.tup [.ptr 4 0,.int .i64 (.lit 0)],[(3,[.int .u64 (.lit 0),.int .u64 (.lit 60000)]),(4,[.sl 3 0 1 (.upto 0),.sl 7 0 1 (.upto 0)]),(5,(List.replicate 60000 (.int .u8 (.lit 0)))),(7,[.sl 5 0 60000 (.known 60000)])],[],0,[3,4,5,7]⟩]
def Tryz.zva:List (List (SB×Bool)×Nat):= [
 ([], 0)]
theorem Tryz.zsH:(ev prog (zaY zj2) 100000 (.call 10 zj3 (zaV 0 zm6) (zbh zp7 0))).ways zsI=some zva:=by kernel_rfl
theorem Tryz.zvb:(zaB zm6&&zap zj2&&AV.smallL zj3&&zan zp7)=true:=by kernel_rfl
open Go.RowKit
theorem Tryz.zjA {ρ:Val} {lc:Nat→Dw.Loc}: ∀n:Nat,AV.valL ρ lc (List.replicate n (.int .u8 (.lit 0)))=List.replicate n (.int .u8 0)
 | 0=>rfl
 | n+1=>by
  rw [List.replicate_succ,List.replicate_succ,←zjA n];rfl
set_option maxRecDepth 10000 in
theorem Tryz.zp8 {w:World} {R:Nat} (c0:w.cell? ⟨R,0,none⟩=some (.int .u64 0)) (c1:w.cell? ⟨R,1,none⟩=some (.int .u64 60000)):
  Calls prog 10 #[.slice (some ⟨R,0,none⟩) 1 1] w fun e w'=> ∃P L Bs B,e= .returned (.tuple #[.pointer (some ⟨P,0,none⟩),.int .i64 0])∧RMm w' P L Bs B 60000 (fun _=>0)∧Below w.heap.size w w'∧w.heap.size≤P∧w.heap.size≤L∧w.heap.size≤Bs∧w.heap.size≤B:=by
 obtain ⟨ρ,hρ⟩: ∃ρ:Val,ρ=vof [] [] []:=⟨_,rfl⟩;have hj1:jOf [(R,0)] 1=some ⟨R,0,0,none⟩:=rfl;have r2:w.rangeAt R 0 [.int .u64 0,.int .u64 60000]:=fun j v hv=>by
  match j,hv with
  | 0,hv=>cases hv;exact c0
  | 1,hv=>cases hv;exact c1
 refine Calls.mono (zaT (ρ:=ρ) (K:=fun _=>False) (g:=Gho.none) (bl:= [(R,0)]) (vals:= [.slice (some ⟨R,0,none⟩) 1 1]) mixed zsH zvb (fun b h=>h.elim)
  ⟨zdd r2 (by simp) (zao (zax rfl) (zao (zax rfl) RL.nil)) (fun h=>h),trivial⟩ ⟨fun hh=>(by cases hh),trivial⟩ zaJ trivial (zao ⟨⟨R,0,0,none⟩,hj1,by simp [zw9],rfl⟩ RL.nil) (zau.2 trivial)) fun e w' hh=> ?_
 obtain ⟨_,j,he⟩:=zbL hh;have hb:=zar he (fun _ h=>h);have hr:=he.ret;simp only [AV.val,AV.valL,zat] at hr;have n4:=he.names 4 (by simp [AV.names,AV.namesL]);obtain ⟨f4,o4⟩:=he.fresh 4 (by simp) _ n4;have rw4:=he.rows.2.1 _ n4;have n3:=he.rnames.2.1 _ n4 3 (by simp [AV.names,AV.namesL]);have n7:=he.rnames.2.1 _ n4 7 (by simp [AV.names,AV.namesL]);obtain ⟨f3,o3⟩:=he.fresh 3 (by simp) _ n3;obtain ⟨f7,o7⟩:=he.fresh 7 (by simp) _ n7;have n5:=he.rnames.2.2.2.1 _ n7 5 (by simp [AV.names,AV.namesL]);obtain ⟨f5,o5⟩:=he.fresh 5 (by simp) _ n5;have w3:=(he.rows.1 _ n3).2 f3 o3;have w4:=rw4.2 f4 o4;have w7:=(he.rows.2.2.2.1 _ n7).2 f7 o7;have w5:=(he.rows.2.2.1 _ n5).2 f5 o5;simp only [AV.val,AV.valL,zat,o3,o5,o7] at w3 w4 w7;rw [show (5,List.replicate 60000 (AV.int IntKind.u8 (SE.lit 0))).2=List.replicate 60000 (AV.int IntKind.u8 (SE.lit 0)) from rfl,zjA] at w5;rw [o4] at hr;have z: ∀ {n m:Nat} (hn: ∃r∈ [(3,[AV.int IntKind.u64 (SE.lit 0),AV.int IntKind.u64 (SE.lit 60000)]),(4,[AV.sl 3 0 1 (CapI.upto 0),AV.sl 7 0 1 (CapI.upto 0)]),(5,List.replicate 60000 (AV.int IntKind.u8 (SE.lit 0))),(7,[AV.sl 5 0 60000 (CapI.known 60000)])],r.1=n) (hm: ∃r∈ [(3,[AV.int IntKind.u64 (SE.lit 0),AV.int IntKind.u64 (SE.lit 60000)]),(4,[AV.sl 3 0 1 (CapI.upto 0),AV.sl 7 0 1 (CapI.upto 0)]),(5,List.replicate 60000 (AV.int IntKind.u8 (SE.lit 0))),(7,[AV.sl 5 0 60000 (CapI.known 60000)])],r.1=m),n≠m→j n=some (lcOf j n)→j m=some (lcOf j m)→w.heap.size≤(lcOf j n).blk→(lcOf j n).blk≠(lcOf j m).blk:=fun hn hm hne h1 h2 h3 e=>by
  obtain ⟨r,hr,rfl⟩:=hn;obtain ⟨r',hr',rfl⟩:=hm;exact he.apart r hr r' hr' hne _ _ h1 h2 e (.inl h3)
 have g3:w.heap.size≤(lcOf j 3).blk:=f3.elim id False.elim;have g4:w.heap.size≤(lcOf j 4).blk:=f4.elim id False.elim;have g5:w.heap.size≤(lcOf j 5).blk:=f5.elim id False.elim;have g7:w.heap.size≤(lcOf j 7).blk:=f7.elim id False.elim;have q45:=z ⟨_,.tail _ (.head _),rfl⟩ ⟨_,.tail _ (.tail _ (.head _)),rfl⟩ (show (4:Nat)≠5 by decide) n4 n5 g4;have q35:=z ⟨_,.head _,rfl⟩ ⟨_,.tail _ (.tail _ (.head _)),rfl⟩ (show (3:Nat)≠5 by decide) n3 n5 g3;have q75:=z ⟨_,.tail _ (.tail _ (.tail _ (.head _))),rfl⟩ ⟨_,.tail _ (.tail _ (.head _)),rfl⟩ (show (7:Nat)≠5 by decide) n7 n5 g7;refine ⟨(lcOf j 4).blk,(lcOf j 3).blk,(lcOf j 7).blk,(lcOf j 5).blk,hr,⟨⟨_,zbU w4 (i:=0) rfl⟩,⟨_,zbU w4 (i:=1) rfl⟩,zbU w3 (i:=0) rfl,zbU w3 (i:=1) rfl,zbU w7 (i:=0) rfl,fun i hi=> ?_,fun i hi=> ?_,fun i=>⟨Int.le_refl _,by decide⟩,q45,q35,q75,zkj w5⟩,hb,g4,g3,g7,g5⟩
 ·exact zbU w5 (i:=i) (by rw [List.getElem?_replicate];simp [hi])
 ·obtain ⟨arr,t,e1,_⟩:=w5;simp [World.frozen?,e1]
open Go.Maps Go.Sort Go.Deep
set_option maxRecDepth 100000 in
theorem Tryz.zoz {g:Nat→Int} (hg: ∀j,0≤g j∧g j<256) (a X o c:Nat) (w:World) (h:w.rangeAt X o (row g a 16)):
    Calls prog 171 #[.slice (some ⟨X,o,none⟩) 16 c] w fun e w'=>e= .returned (.tuple #[descVal g a,.int .i64 0])∧Below w.heap.size w w':=by
  have hX:X<w.heap.size:=World.block_lt_of_cell? w _ (h 0 (.int .u8 (g (a+0))) (by unfold row;rw [List.getElem?_map,List.getElem?_range (by omega)];rfl));have hk: ∀w1,Below w.heap.size w w1→w1.rangeAt X o (row g a 16):=fun w1 hb=>zae h (hb.block X hX);have q0:=fun w1 hb=>zgk hg a X o c 0 8 w1 (hk w1 hb) (by omega) (by omega);have q1:=fun w1 hb=>zgk hg a X o c 8 4 w1 (hk w1 hb) (by omega) (by omega);have q2:=fun w1 hb=>zgk hg a X o c 12 2 w1 (hk w1 hb) (by omega) (by omega);have q3:=fun w1 hb=>zgk hg a X o c 14 2 w1 (hk w1 hb) (by omega) (by omega);have b1:=zav g hg (a+8) 4;have b2:=zav g hg (a+12) 2;have b3:=zav g hg (a+14) 2;have p4:(256:Int)^4=4294967296:=by decide
  have p2:(256:Int)^2=65536:=by decide
  have e1:IntKind.wrap .u32 (zaf g (a+8) 4)=zaf g (a+8) 4:=ztJ (by omega) (by omega);have e2:IntKind.wrap .u16 (zaf g (a+12) 2)=zaf g (a+12) 2:=zjB (by omega) (by omega);have e3:IntKind.wrap .u16 (zaf g (a+14) 2)=zaf g (a+14) 2:=zjB (by omega) (by omega);simp only [Nat.add_zero,Int.cast_ofNat_Int,Int.natCast_zero] at q0 q1 q2 q3;unfold descVal;generalize zaf g a 8=W0 at q0 ⊢;generalize zaf g (a+8) 4=W1 at q1 e1 ⊢;generalize zaf g (a+12) 2=W2 at q2 e2 ⊢;generalize zaf g (a+14) 2=W3 at q3 e3 ⊢;clear b1 b2 b3 p4 p2;have hA:=(Below.refl w.heap.size w).alloc (Nat.le_refl _);go_enter func171,ntmps171;go_wp2_with (first
    | (go_at_call_has 183 (Value.int IntKind.i64 0);refine (q0 _ (hA _)).mono ?_;rintro e w' ⟨rfl,hw⟩;have hw:=hw.symm;subst hw)
    | (go_at_call_has 183 (Value.int IntKind.i64 4);refine (q1 _ (hA _)).mono ?_;rintro e w' ⟨rfl,hw⟩;have hw:=hw.symm;subst hw)
    | (go_at_call_has 183 (Value.int IntKind.i64 12);refine (q2 _ (hA _)).mono ?_;rintro e w' ⟨rfl,hw⟩;have hw:=hw.symm;subst hw)
    | (go_at_call_has 183 (Value.int IntKind.i64 14);refine (q3 _ (hA _)).mono ?_;rintro e w' ⟨rfl,hw⟩;have hw:=hw.symm;subst hw)
    | go_in)
  refine bodyPost_ret (zaL rfl _ _ w.heap.size [.int .u64 W0,.int .u32 W1,.int .u16 W2,.int .u16 W3] _ rfl (fun j v hv=>by rw [Nat.zero_add];exact (Cl.new w _ _).cell j v hv) underlying175 rfl (by kernel_rfl)) rfl ?_;exact ⟨rfl,hA _⟩
section
variable {w0 w w':World} {X b2 P L Bs B N:Nat} {g:Nat→Int} {v0 v:Value} {l:List Tryz.Sg} {n n' e:Int}
theorem Tryz.RdW.count (h:RdW w0 w X b2 P L Bs B N g v0 v l n e) (hc:Cl w' X [.pointer (some ⟨P,0,none⟩),v,.int .i64 n',.int .i64 e]) (hm:Dw.Mv (· =X) w w'):RdW w0 w' X b2 P L Bs B N g v0 v l n' e:=
 ⟨hc,h.own.kept fun b hh=>hm.block b (h.own.lt b hh).2.1 fun q=>by have:=(h.own.lt b hh).1;have:=h.lo.1;have q:b=X:=q;omega,h.rm.mvX hm h.nx,h.lo,h.nx,h.b2,h.mv.trans (hm.mono fun b q=> .inl q),h.ob⟩
theorem Tryz.RdW.other (h:RdW w0 w X b2 P L Bs B N g v0 v l n e) {K:Nat→Prop} (hm:Dw.Mv K w w') (hK: ∀b,K b→w0.heap.size≤b∧v.ownBlock≠some b):RdW w0 w' X b2 P L Bs B N g v0 v l n e:=by
 obtain ⟨l1,l2,l3,l4,l5⟩:=h.lo;have hb2:=h.b2;have hn: ∀b,b<b2→ ¬K b:=fun b hb q=>by have:=(hK b q).1;omega
 refine ⟨h.cl.kept (hm.block X h.cl.lt (hn X l1)),h.own.kept fun b hh=>hm.block b (h.own.lt b hh).2.1 fun q=>(hK b q).2 hh,h.rm.kept (fun k hk hq=>hm.block k hk (hn k (by rcases hq with q|q|q|q<;>omega))) hm.size,h.lo,h.nx,h.b2,⟨hm.os.trans h.mv.os,hm.tape.trans h.mv.tape,hm.output.trans h.mv.output,Nat.le_trans h.mv.size hm.size,fun b hb hq=>(hm.block b (Nat.lt_of_lt_of_le hb h.mv.size) fun q=>by have:=(hK b q).1;omega).trans (h.mv.block b hb hq)⟩,h.ob⟩
end
end Go.Proofs
namespace Go.Proofs
open Go.Dw Go.RowKit Go.Maps Go.Sort Go.Deep
theorem Tryz.zwN {w:World} {b2 a:Nat} {g:Nat→Int} {v:Value} (h:w.ownsRow b2 5 1 v 16 (row g a 16)): ∃G c,v= .slice (some ⟨G,0,none⟩) 16 c∧b2≤G∧w.rangeAt G 0 (row g a 16):=by
 have h':OwnR 5 1 w b2 v 16 (row g a 16):=h;obtain ⟨sa,c,rfl,hr⟩:=OwnR.row h';rcases hr with hr|⟨G,rfl,ho,hr⟩
 ·have:=congrArg List.length hr;rw [zfl] at this;simp at this
 ·exact ⟨G,c,rfl,(OwnR.lt h' G ho).1,hr⟩
section
variable {w0 w w':World} {X b2 P L Bs B N:Nat} {g:Nat→Int} {v0 v:Value} {l:List Tryz.Sg} {n n' e:Int}
theorem Tryz.RdW.box4 (h:RdW w0 w X b2 P L Bs B N g v0 v l n e) {T:Nat} (hT:w0.heap.size≤T) (hv:v.ownBlock≠some T) (x0 x1 x2 x3:Value):RdW w0 ((((w.setCell ⟨T,0,none⟩ x0).setCell ⟨T,1,none⟩ x1).setCell ⟨T,2,none⟩ x2).setCell ⟨T,3,none⟩ x3) X b2 P L Bs B N g v0 v l n e:=
 h.other (K:=(· =T)) (zaH (zaH (zaH (zaH (Dw.Mv.refl (· =T) w) T 0 x0 rfl) T 1 x1 rfl) T 2 x2 rfl) T 3 x3 rfl) fun b q=>by
  have q:b=T:=q;subst q;exact ⟨hT,hv⟩
set_option maxRecDepth 100000 in
theorem Tryz.zsM {a:Nat} (h:RdW w0 w X b2 P L Bs B N g v0 v l n e) (hN:N≤1048576) (hin:a+16≤N) (hn:0≤n∧n<4611686018427387904):
    Calls prog 128 #[.pointer (some ⟨X,0,none⟩),.int .u64 a] w fun en w'=>en= .returned (.tuple #[descVal g a,.bool true])∧RdW w0 w' X b2 P L Bs B N g v0 v l (n+1) e∧Dw.Mv (· =X) w w':=by
  have hbx:=(Below.refl w.heap.size w).alloc (Nat.le_refl _) (Obj.cells #[.int .u64 0,.int .u32 0,.int .u16 0,.int .u16 0] 175);have k4:=Cl.new w #[.int .u64 0,.int .u32 0,.int .u16 0,.int .u16 0] 175;have h1:=h.below hbx;have c0:=h1.cl.cell 0 _ rfl;have hrd:=zsD P L Bs B N a 16 g _ h1.rm hN (by decide) hin;have hbyte:=h.rm.byte;have hrp:=fun X' c' w' (hq:w'.rangeAt X' 0 (row g a 16))=>zoz hbyte a X' 0 c' w' hq;unfold descVal at hrp ⊢;generalize zaf g a 8=A1 at hrp ⊢;generalize zaf g (a+8) 4=L1 at hrp ⊢;generalize zaf g (a+12) 2=F1 at hrp ⊢;generalize zaf g (a+14) 2=N1 at hrp ⊢;have e1:IntKind.wrap .i64 (n+1)=n+1:=zaS (by omega) (by omega);have hT0:w0.heap.size≤w.heap.size:=h.mv.size;have hvT:v.ownBlock≠some w.heap.size:=fun q=>by have:=(h.own.lt _ q).2.1;omega
  have hXl:=h.cl.lt;have hXT:X≠w.heap.size:=by omega
  go_enter func128,ntmps128;go_wp2_with (first
    | (go_at_call 170;refine hrd.mono ?_;rintro en w1 ⟨vb,rfl,hrow,hb1⟩;obtain ⟨G,cp,rfl,hG,hr16⟩:=zwN hrow;have h2:=h1.below hb1;have k2:=k4.below hb1 k4.lt;have c2:=h2.cl.cell 2 _ rfl;have f2:=h2.cl.free 2;have h3:=h2.count (h2.cl.set 2 (.int .i64 (n+1)) (by simp)) (zaH (Dw.Mv.refl _ _) X 2 (.int .i64 (n+1)) rfl);have k3:=k2.kept (Below.heap_setCell _ ⟨X,2,none⟩ (.int .i64 (n+1)) w.heap.size (fun q=>hXT q.symm));have hGX:G≠X:=(by simp at hG;omega);have hr3:=zae hr16 (Below.heap_setCell _ ⟨X,2,none⟩ (.int .i64 (n+1)) G hGX))
    | (go_at_call 171;refine (hrp _ _ _ hr3).mono ?_;rintro en w2 ⟨rfl,hb2⟩;have h4:=(h3.below hb2).below ((Below.refl _ w2).alloc (Nat.le_refl _) (Obj.cells #[.int .u64 A1,.int .u32 L1,.int .u16 F1,.int .u16 N1] 175));have k6:=(k3.below hb2 k3.lt).alloc (Obj.cells #[.int .u64 A1,.int .u32 L1,.int .u16 F1,.int .u16 N1] 175);have j8:=Cl.new w2 #[.int .u64 A1,.int .u32 L1,.int .u16 F1,.int .u16 N1] 175;have b0:=k6.cell 0 _ rfl;have b1:=k6.cell 1 _ rfl;have b2':=k6.cell 2 _ rfl;have b3:=k6.cell 3 _ rfl;have g0:=k6.free 0;have g1:=k6.free 1;have g2:=k6.free 2;have g3:=k6.free 3)
    | go_in)
  have hmv:Dw.Mv (· =X) w (w2.alloc (Obj.cells #[.int .u64 A1,.int .u32 L1,.int .u16 F1,.int .u16 N1] 175)):=((zaH ((zaa (K:=(· =X)) hbx).trans (zaa hb1)) X 2 (.int .i64 (n+1)) rfl).trans (zaa hb2)).trans (zaa ((Below.refl _ w2).alloc (Nat.le_refl _) _));have sf:=(((k6.set 0 (.int .u64 A1) (by simp)).set 1 (.int .u32 L1) (by simp)).set 2 (.int .u16 F1) (by simp)).set 3 (.int .u16 N1) (by simp);have h5:=h4.box4 hT0 hvT (.int .u64 A1) (.int .u32 L1) (.int .u16 F1) (.int .u16 N1);refine bodyPost_ret (zaL rfl _ _ w.heap.size [.int .u64 A1,.int .u32 L1,.int .u16 F1,.int .u16 N1] _ rfl (fun j y hy=>by rw [Nat.zero_add];exact sf.cell j y hy) underlying175 rfl (by kernel_rfl)) rfl ?_;exact ⟨rfl,h5,zaA (zaA (zaA (zaA hmv w.heap.size 0 (.int .u64 A1) (.inr (Nat.le_refl _))) w.heap.size 1 (.int .u32 L1) (.inr (Nat.le_refl _))) w.heap.size 2 (.int .u16 F1) (.inr (Nat.le_refl _))) w.heap.size 3 (.int .u16 N1) (.inr (Nat.le_refl _))⟩
set_option maxRecDepth 100000 in
theorem Tryz.zqe {A:Int} (h:RdW w0 w X b2 P L Bs B N g v0 v l n 0) (hN:N≤1048576) (ha:0≤A∧A<18446744073709551616) (hout: ¬A+16≤N):
    Calls prog 128 #[.pointer (some ⟨X,0,none⟩),.int .u64 A] w fun en w'=>en= .returned (.tuple #[.agg #[.int .u64 0,.int .u32 0,.int .u16 0,.int .u16 0],.bool false])∧RdW w0 w' X b2 P L Bs B N g v0 v l n 5∧Dw.Mv (· =X) w w':=by
  have hbx:=(Below.refl w.heap.size w).alloc (Nat.le_refl _) (Obj.cells #[.int .u64 0,.int .u32 0,.int .u16 0,.int .u16 0] 175);have k4:=Cl.new w #[.int .u64 0,.int .u32 0,.int .u16 0,.int .u16 0] 175;have h1:=h.below hbx;have c0:=h1.cl.cell 0 _ rfl;have hrd:=zp4 P L Bs B N A 16 g _ h1.rm hN (by decide) (by decide) ha.1 ha.2 hout;have hT0:w0.heap.size≤w.heap.size:=h.mv.size;have hvT:v.ownBlock≠some w.heap.size:=fun q=>by have:=(h.own.lt _ q).2.1;omega
  have hXl:=h.cl.lt;have hXT:w.heap.size≠X:=by omega
  go_enter func128,ntmps128;go_wp2_with (first
    | (go_at_call 170;refine hrd.mono ?_;rintro en w1 ⟨rfl,hb1⟩;have h2:=h1.below hb1)
    | (go_at_call 127;refine (zeR X (.pointer (some ⟨P,0,none⟩)) v n 0 5 _ h2.cl).mono ?_;rintro en w2 ⟨rfl,hc2,hm2⟩;have h3:=h2.stopped hc2 hm2;have k3:=(k4.below hb1 k4.lt).kept (hm2.block w.heap.size (Nat.lt_of_lt_of_le k4.lt hb1.size) hXT);have b0:=k3.cell 0 _ rfl;have b1:=k3.cell 1 _ rfl;have b2':=k3.cell 2 _ rfl;have b3:=k3.cell 3 _ rfl;have g0:=k3.free 0;have g1:=k3.free 1;have g2:=k3.free 2;have g3:=k3.free 3)
    | go_in)
  have hmv:Dw.Mv (· =X) w w2:=((zaa hbx).trans (zaa hb1)).trans hm2;have sf:=(((k3.set 0 (.int .u64 0) (by simp)).set 1 (.int .u32 0) (by simp)).set 2 (.int .u16 0) (by simp)).set 3 (.int .u16 0) (by simp);have h5:=h3.box4 hT0 hvT (.int .u64 0) (.int .u32 0) (.int .u16 0) (.int .u16 0);refine bodyPost_ret (zaL rfl _ _ w.heap.size [.int .u64 0,.int .u32 0,.int .u16 0,.int .u16 0] _ rfl (fun j y hy=>by rw [Nat.zero_add];exact sf.cell j y hy) underlying175 rfl (by kernel_rfl)) rfl ?_;exact ⟨rfl,h5,zaA (zaA (zaA (zaA hmv w.heap.size 0 (.int .u64 0) (.inr (Nat.le_refl _))) w.heap.size 1 (.int .u32 0) (.inr (Nat.le_refl _))) w.heap.size 2 (.int .u16 0) (.inr (Nat.le_refl _))) w.heap.size 3 (.int .u16 0) (.inr (Nat.le_refl _))⟩
end
end Go.Proofs
namespace Go.Proofs
open Go.Dw Go.RowKit Go.Maps Go.Sort Go.Deep
def Tryz.tabR (inner table:Bool) (T:Int→Int→WS→WS):Int→Int→Int→WS→WS:=fun A Ln F s=>
 if inner=true∨table=false∨ ¬F%2=0 then { s with e:=4 } else T A Ln s
def Tryz.lenV:Value→Nat
 | .slice _ n _=>n
 | _=>0
set_option maxRecDepth 100000 in
theorem Tryz.zh5 {w0 w:World} {X b2 P L Bs B N:Nat} {g:Nat→Int} {v0 v:Value} {s:WS} (h:RdW w0 w X b2 P L Bs B N g v0 v s.segs s.n 0) (hs0:s.e=0) (hN:N≤1048576) {A c k:Int} {inner table:Bool} (ha:0≤A∧A<18446744073709551616) (hc:0≤c∧c≤32768) (hk:0≤k∧k<65536) (hsn:0≤s.n∧s.n+c≤90000) (hsl:s.segs.length+c.toNat≤90000) {T:Int→Int→WS→WS}
    (hT:inner=false→ ∀(w1:World) (v1:Value) (s1:WS) (A1 L1:Int),RdW w0 w1 X b2 P L Bs B N g v0 v1 s1.segs s1.n 0→s1.e=0→0≤A1∧A1<18446744073709551616→0≤L1∧L1<4294967296→0≤s1.n∧s1.n≤s.n+c+1→s1.segs.length≤s.segs.length+c.toNat→Calls prog 129 #[.pointer (some ⟨X,0,none⟩),.int .u64 A1,.int .u32 L1] w1 fun en w'=>en= .returned (.tuple #[])∧ ∃v',RdW w0 w' X b2 P L Bs B N g v0 v' (T A1 L1 s1).segs (T A1 L1 s1).n (T A1 L1 s1).e):
    Calls prog 87 #[.pointer (some ⟨X,0,none⟩),.int .u64 A,.int .i64 c,.int .i64 k,.bool inner,.bool table] w fun en w'=>en= .returned (.tuple #[])∧ ∃(v':Value) (R:WS),R=za0 N g (tabR inner table T) (c.toNat+1) A c k [] s∧RdW w0 w' X b2 P L Bs B N g v0 v' R.segs R.n R.e:=by
  obtain ⟨i0,hi0,j1,j2,j3⟩:=info_parts zq2;have hlo:=h.lo.1;have hb2:=h.b2;have hwsz:=h.mv.size;go_enter func87,ntmps87;go_wp2_with fail;go_loopw [12,13] (fun sv kv wr=> ∃(k':Int) (seen:List Int) (s':WS) (v':Value) (f:Nat),kv= .int .i64 k'∧(0≤k'∧k'<65536)∧f+seen.length=c.toNat+1∧seen.Nodup∧(∀y∈seen,0≤y∧y<c)∧RdW w0 wr X b2 P L Bs B N g v0 v' s'.segs s'.n 0∧s'.e=0∧s'.segs.length≤s.segs.length+seen.length∧(0≤s'.n∧s'.n≤s.n+seen.length)∧OwnR 3 1 wr w.heap.size sv seen.length (zac seen.reverse)∧(∀b,sv.ownBlock=some b→v'.ownBlock≠some b)∧((fun _:Unit=>za0 N g (tabR inner table T) (c.toNat+1) A c k [] s)=fun _=>za0 N g (tabR inner table T) f A c k' seen s')∧w.heap.size≤wr.heap.size) (fun sv _ _=>c.toNat+1-lenV sv)
  case atStart=>exact ⟨k,[],s,v,c.toNat+1,rfl,hk,rfl,List.nodup_nil,fun y hy=>(by cases hy),h,hs0,Nat.le_refl _,⟨hsn.1,by simp⟩,OwnR.nil _ _ _ _,fun b e=>(by cases e),rfl,Nat.le_refl _⟩
  case round=>
    obtain ⟨k',seen,s',v',f,rfl,hk',hf,hnd,hsr,hR,he0,hl',hn',hown,hap,hQ,hwr0⟩:=hrel;have hlen:=zsi hnd hsr;obtain ⟨sa,cs,rfl,hrow⟩:=OwnR.row hown;obtain ⟨f',rfl⟩: ∃f',f=f'+1:=⟨f-1,by omega⟩;have hg:=hR.rm.byte;have hrl:seen.reverse.length=seen.length:=List.length_reverse;have hcl:(zac seen.reverse).length=seen.length:=by simp [zac]
    have hstop:=fun w1 (hR1:RdW w0 w1 X b2 P L Bs B N g v0 v' s'.segs s'.n 0)=>zeR X (.pointer (some ⟨P,0,none⟩)) v' s'.n 0 4 w1 hR1.cl;have hsplit:za0 N g (tabR inner table T) (f'+1) A c k' seen s'=if k'∈seen∨c≤k' then { s' with e:=4 }
      else if¬(A+16*k')%18446744073709551616+16≤N then { s' with e:=5 }
      else if zaf g (((A+16*k')%18446744073709551616).toNat+12) 2/4%2=1 then
        tabR inner table T (zaf g ((A+16*k')%18446744073709551616).toNat 8) (zaf g (((A+16*k')%18446744073709551616).toNat+8) 4) (zaf g (((A+16*k')%18446744073709551616).toNat+12) 2) { s' with n:=s'.n+1 }
      else if zaf g (((A+16*k')%18446744073709551616).toNat+12) 2%2=0 then ⟨s'.segs++ [zhJ g ((A+16*k')%18446744073709551616).toNat],s'.n+1,s'.e⟩
      else za0 N g (tabR inner table T) f' A c (zaf g (((A+16*k')%18446744073709551616).toNat+14) 2) (k'::seen) ⟨s'.segs++ [zhJ g ((A+16*k')%18446744073709551616).toNat],s'.n+1,s'.e⟩:=rfl
    have hbad:k'∈seen∨c≤k'→ ∀w1,Cl w1 X [.pointer (some ⟨P,0,none⟩),v',.int .i64 s'.n,.int .i64 (stE 0 4)]→ ∀w2,RdW w0 w2 X b2 P L Bs B N g v0 v' s'.segs s'.n 0→Dw.Mv (· =X) w2 w1→ ∃(v':Value) (R:WS),R=za0 N g (tabR inner table T) (c.toNat+1) A c k [] s∧RdW w0 w1 X b2 P L Bs B N g v0 v' R.segs R.n R.e:=fun hq w1 hc1 w2 hR2 hm2=>
      ⟨v',{ s' with e:=4 },by rw [congrFun hQ (),hsplit,if_pos hq],hR2.stopped hc1 hm2⟩
    go_wp2_with fail;go_loopw [14] (fun iv wr2=>wr2=wr∧ ∃i:Nat,i≤seen.length∧iv= .int .i64 i∧ ∀(j:Nat) (hj:j<seen.reverse.length),j<i→seen.reverse[j]≠k') (fun iv _=>seen.length-(RowKit.intOf iv).toNat)
    case atStart=>exact ⟨rfl,0,Nat.zero_le _,rfl,fun j _ hj=>absurd hj (by omega)⟩
    case round=>
      obtain ⟨rfl,i,hi,rfl,hall⟩:=hrel;by_cases hil:i<seen.length
      · have hil':(i:Int)<seen.length:=by omega
        rcases hrow with hr|⟨G,rfl,hGo,hr⟩
        · have:=congrArg List.length hr;rw [hcl] at this;simp only [List.length_nil] at this;omega
        have hir:i<seen.reverse.length:=by omega
        have e1:=hr i (.int .i64 seen.reverse[i]) (by unfold zac;rw [List.getElem?_map,List.getElem?_eq_getElem hir];rfl);rw [Nat.zero_add] at e1;have hmem:seen.reverse[i]∈seen:=List.mem_reverse.1 (List.getElem_mem hir);generalize hy:seen.reverse[i]=y at e1 hmem;by_cases hyk:y=k'
        · subst hyk;have hb:=hbad (.inl hmem);clear hbad hQ hsplit;go_wp2_with (first
            | (go_at_call 127;refine (hstop _ hR).mono ?_;rintro en w1 ⟨rfl,hc1,hm1⟩)
            | go_in)
          refine bodyPost_ret (results_none rfl _ _ _) rfl ?_;exact ⟨rfl,hb _ hc1 _ hR hm1⟩
        · have hyk2:(y==k')=false:=by simpa using hyk
          clear hbad hQ hsplit;go_wp2_with fail;refine ⟨⟨trivial,i+1,by omega,by push_cast;rfl,fun j hj hlt=> ?_⟩,by simp only [RowKit.intOf];omega⟩;by_cases hji:j=i
          · subst hji;rw [hy];exact hyk
          · exact hall j hj (by omega)
      · have hil': ¬(i:Int)<seen.length:=by omega
        have hnm:k'∉seen:=fun hm=>by
          obtain ⟨j,hj,e⟩:=List.getElem_of_mem (List.mem_reverse.2 hm);exact hall j hj (by omega) e
        have hk0: ¬k'<0:=by omega
        clear hall;by_cases hck:c≤k'
        · have hb:=hbad (.inr hck);clear hbad hQ hsplit;go_wp2_with (first
            | (go_at_call 127;refine (hstop _ hR).mono ?_;rintro en w1 ⟨rfl,hc1,hm1⟩)
            | go_in)
          refine bodyPost_ret (results_none rfl _ _ _) rfl ?_;exact ⟨rfl,hb _ hc1 _ hR hm1⟩
        · rw [if_neg (fun q=>q.elim hnm hck)] at hsplit;clear hbad hstop;have hck':k'<c:=by omega
          have w1':IntKind.wrap .u64 k'=k':=zai (by omega) (by omega);have w2':IntKind.wrap .u64 (16*k')=16*k':=zai (by omega) (by omega);obtain ⟨a,ha'⟩: ∃a:Nat,(A+16*k')%18446744073709551616=a:=⟨((A+16*k')%18446744073709551616).toNat,by omega⟩;have w3':IntKind.wrap .u64 (A+16*k')=(a:Int):=by rw [zdF,ha']
          have haB:(a:Int)<18446744073709551616:=by omega
          rw [ha'] at hsplit;simp only [Int.toNat_natCast] at hsplit;clear ha' hck;have hbA:=(Below.refl wr.heap.size wr).alloc (Nat.le_refl _) (Obj.cells #[.int .i64 k'] 3);have hownA:OwnR 3 1 (wr.alloc (Obj.cells #[.int .i64 k'] 3)) w.heap.size (.slice sa seen.length cs) seen.length (zac seen.reverse):=OwnR.kept hown fun b e=>hbA.block b (OwnR.lt hown b e).2;have hRA:=hR.below hbA;have hnews: ∀j u,([.int .i64 k']:List Value)[j]? =some u→(wr.alloc (Obj.cells #[.int .i64 k'] 3)).cell? ((⟨wr.heap.size,0,none⟩:Addr).add j)=some u:=fun j u hu=>by
            rw [Dw.addr_add];exact (Cl.new wr #[.int .i64 k'] 3).cell (0+j) u (by rw [Nat.zero_add];exact hu)
          have hone: ∀u∈([.int .i64 k']:List Value),u.oneCell'=true:=fun u hu=>by rw [List.mem_singleton] at hu;subst hu;rfl
          have hRl:=hR.own.lt;have hol:=fun b e=>OwnR.lt hown b e;have after: ∀(sv2:Value) (wa:World),wa.ownsRow w.heap.size 3 1 sv2 (seen.length+1) (zac seen.reverse++ [.int .i64 k'])→(wr.alloc (Obj.cells #[.int .i64 k'] 3)).grownBy wa (Value.slice sa seen.length cs).ownBlock→(sv2.ownBlock=(Value.slice sa seen.length cs).ownBlock∨sv2.ownBlock=some (wr.alloc (Obj.cells #[.int .i64 k'] 3)).heap.size)→RdW w0 wa X b2 P L Bs B N g v0 v' s'.segs s'.n 0∧OwnR 3 1 wa w.heap.size sv2 (k'::seen).length (zac (k'::seen).reverse)∧ ∀b,sv2.ownBlock=some b→v'.ownBlock≠some b:=fun sv2 wa g1 g3 g4=>by
            refine ⟨hRA.other (K:=fun b=>(Value.slice sa seen.length cs).ownBlock=some b) ⟨g3.os,g3.tape,g3.output,g3.size,fun b hb hn=>g3.block b hb fun e=>hn e.symm⟩ fun b e=>⟨by have:=(hol b e).1;omega,hap b e⟩,?_,fun b e q=> ?_⟩
            · have e1:zac (k'::seen).reverse=zac seen.reverse++ [.int .i64 k']:=by simp [zac]
              rw [e1];exact g1
            · rcases g4 with g4|g4
              · exact hap b (g4▸e) q
              · rw [g4] at e;have:=(hRl b q).2.1;simp at e;omega
          clear hown hrow;have hwr:=hR.mv.size;by_cases hin:a+16≤N
          · have hin':(a:Int)+16≤N:=by omega
            rw [if_neg (by omega)] at hsplit;have hdsc:=fun w1 (h1:RdW w0 w1 X b2 P L Bs B N g v0 v' s'.segs s'.n 0)=>zsM (a:=a) h1 hN hin ⟨hn'.1,by omega⟩;clear haB;have bF:=zav g hg (a+12) 2;have bA:=zav g hg a 8;have bL:=zav g hg (a+8) 4;have bN:=zav g hg (a+14) 2;rw [show (256:Int)^2=65536 from by decide] at bF bN;rw [show (256:Int)^8=18446744073709551616 from by decide] at bA;rw [show (256:Int)^4=4294967296 from by decide] at bL;have hseg:zhJ g a=⟨zaf g a 8,zaf g (a+8) 4,zaf g (a+12) 2/2%2*2 !=0⟩:=rfl;rw [hseg] at hsplit;clear hseg;unfold descVal at hdsc;generalize zaf g a 8=A1 at hdsc hsplit bA;generalize zaf g (a+8) 4=L1 at hdsc hsplit bL;generalize zaf g (a+12) 2=F1 at hdsc hsplit bF;generalize zaf g (a+14) 2=N1 at hdsc hsplit bN;have hb4:bits .and .u16 F1 4=F1/4%2*4:=by have:=zmo F1 2 (by decide) bF.1 bF.2;simpa using this
            have hb1:bits .and .u16 F1 1=F1%2:=by have:=zmo F1 0 (by decide) bF.1 bF.2;simpa using this
            have wN:IntKind.wrap .i64 N1=N1:=zaS (by omega) (by omega);have hQ2:(fun _:Unit=>za0 N g (tabR inner table T) (c.toNat+1) A c k [] s)=fun _=>_:=hQ.trans (funext fun _=>hsplit);clear hQ hsplit;by_cases hF:F1/4%2=1
            · rw [hF] at hb4;have hb4':bits .and .u16 F1 4=4:=by rw [hb4];rfl
              clear hb4;simp only [hF,if_true] at hQ2;by_cases hin2:inner=true∨table=false∨ ¬F1%2=0
              · have hQ3:(fun _:Unit=>za0 N g (tabR inner table T) (c.toNat+1) A c k [] s)=fun _=> { s' with n:=s'.n+1,e:=4 }:=hQ2.trans (funext fun _=>by unfold tabR;rw [if_pos hin2]);have hin3:inner=true∨(inner=false∧table=false)∨(inner=false∧table=true∧F1%2=1):=by
                  cases inner<;>cases table<;>simp at hin2 ⊢ <;>omega
                clear hQ2 hin2 hT;rcases hin3 with rfl|⟨rfl,rfl⟩|⟨rfl,rfl,hf1⟩
                all_goals
                  try rw [hf1] at hb1
                  go_wp2_with (first
                    | (at_builtin;go_loud (refine wpList_append_own_at _ rfl _ _ 75 rfl w.heap.size 3 i0 _ 1 8 (by kernel_rfl) hi0 j1 j2 j3 rfl (by decide) (.slice sa seen.length cs) seen.length (zac seen.reverse) rfl hownA ⟨wr.heap.size,0,none⟩ 1 1 [.int .i64 k'] rfl rfl hnews hone (by unfold maxLen;omega) (by omega) (by simp;omega) ?_);intro sv2 wa g1 g3 _ g4;obtain ⟨hRa,hO2,hap2⟩:=after sv2 wa g1 g3 g4;go_frame)
                    | (go_at_call 128;refine (hdsc _ hRa).mono ?_;rintro en w1 ⟨rfl,h1,hm1⟩;have hR2:=h1.below ((Below.refl _ w1).alloc (Nat.le_refl _) (Obj.cells #[.int .u64 A1,.int .u32 L1,.int .u16 F1,.int .u16 N1] 175)))
                    | (go_at_call 127;refine (zeR X (.pointer (some ⟨P,0,none⟩)) v' (s'.n+1) 0 4 _ hR2.cl).mono ?_;rintro en w4 ⟨rfl,hc4,hm4⟩)
                    | go_in)
                  refine bodyPost_ret (results_none rfl _ _ _) rfl ?_;exact ⟨rfl,v',_,(congrFun hQ3 ()).symm,hR2.stopped hc4 hm4⟩
              · have hin3:inner=false∧table=true∧F1%2=0:=by
                  cases inner<;>cases table<;>simp at hin2 ⊢ <;>omega
                obtain ⟨rfl,rfl,hf1⟩:=hin3;have hQ3:(fun _:Unit=>za0 N g (tabR false true T) (c.toNat+1) A c k [] s)=fun _=>T A1 L1 { s' with n:=s'.n+1 }:=hQ2.trans (funext fun _=>by unfold tabR;rw [if_neg hin2]);have hT2:=fun w4 v4 h4=>hT rfl w4 v4 { s' with n:=s'.n+1 } A1 L1 h4 he0 bA bL ⟨by show 0≤s'.n+1;omega,by show s'.n+1≤s.n+c+1;omega⟩ (by show s'.segs.length≤s.segs.length+c.toNat;omega);rw [hf1] at hb1;clear hQ2 hin2 hT;go_wp2_with (first
                  | (at_builtin;go_loud (refine wpList_append_own_at _ rfl _ _ 75 rfl w.heap.size 3 i0 _ 1 8 (by kernel_rfl) hi0 j1 j2 j3 rfl (by decide) (.slice sa seen.length cs) seen.length (zac seen.reverse) rfl hownA ⟨wr.heap.size,0,none⟩ 1 1 [.int .i64 k'] rfl rfl hnews hone (by unfold maxLen;omega) (by omega) (by simp;omega) ?_);intro sv2 wa g1 g3 _ g4;obtain ⟨hRa,hO2,hap2⟩:=after sv2 wa g1 g3 g4;go_frame)
                  | (go_at_call 128;refine (hdsc _ hRa).mono ?_;rintro en w1 ⟨rfl,h1,hm1⟩;have hR2:=h1.below ((Below.refl _ w1).alloc (Nat.le_refl _) (Obj.cells #[.int .u64 A1,.int .u32 L1,.int .u16 F1,.int .u16 N1] 175)))
                  | (go_at_call 129;refine (hT2 _ _ hR2).mono ?_;rintro en w4 ⟨rfl,v4,h4⟩)
                  | go_in)
                refine bodyPost_ret (results_none rfl _ _ _) rfl ?_;exact ⟨rfl,v4,_,(congrFun hQ3 ()).symm,h4⟩
            · have hF0:F1/4%2=0:=by omega
              rw [hF0] at hb4;have hb4':bits .and .u16 F1 4=0:=by rw [hb4];rfl
              clear hb4;simp only [hF,if_false] at hQ2;by_cases hf1:F1%2=0
              · simp only [hf1,if_true] at hQ2;rw [hf1] at hb1;clear hT;go_wp2_with (first
                  | (at_builtin;go_loud (refine wpList_append_own_at _ rfl _ _ 75 rfl w.heap.size 3 i0 _ 1 8 (by kernel_rfl) hi0 j1 j2 j3 rfl (by decide) (.slice sa seen.length cs) seen.length (zac seen.reverse) rfl hownA ⟨wr.heap.size,0,none⟩ 1 1 [.int .i64 k'] rfl rfl hnews hone (by unfold maxLen;omega) (by omega) (by simp;omega) ?_);intro sv2 wa g1 g3 _ g4;obtain ⟨hRa,hO2,hap2⟩:=after sv2 wa g1 g3 g4;go_frame)
                  | (go_at_call 128;refine (hdsc _ hRa).mono ?_;rintro en w1 ⟨rfl,h1,hm1⟩;have hR2:=h1.below ((Below.refl _ w1).alloc (Nat.le_refl _) (Obj.cells #[.int .u64 A1,.int .u32 L1,.int .u16 F1,.int .u16 N1] 175)))
                  | (go_at_call 130;refine (zp3 X b2 (.pointer (some ⟨P,0,none⟩)) v' (s'.n+1) 0 A1 L1 F1 s'.segs _ hR2.cl hR2.own hR2.size hR2.lo.1 (by omega) bF).mono ?_;rintro en w4 ⟨rfl,v4,hc4,ho4,hm4,hv4⟩;have hR4:=hR2.segd hc4 ho4 hm4 hv4;have hX1:=h1.cl.lt;have hv1:=h1.own.lt;have kb4:=(Cl.new w1 #[.int .u64 A1,.int .u32 L1,.int .u16 F1,.int .u16 N1] 175).kept (hm4.block w1.heap.size (by simp) (fun q=>q.elim (fun q=>by omega) (fun q=>by have:=(hv1 _ q).2.1;omega)));have y2:=kb4.cell 2 _ rfl;have y3:=kb4.cell 3 _ rfl)
                  | go_in)
                refine bodyPost_ret (results_none rfl _ _ _) rfl ?_;exact ⟨rfl,v4,_,(congrFun hQ2 ()).symm,by rw [he0];exact hR4⟩
              · have hf2:F1%2=1:=by omega
                simp only [hf1,if_false] at hQ2;rw [hf2] at hb1;clear hT;go_wp2_with (first
                  | (at_builtin;go_loud (refine wpList_append_own_at _ rfl _ _ 75 rfl w.heap.size 3 i0 _ 1 8 (by kernel_rfl) hi0 j1 j2 j3 rfl (by decide) (.slice sa seen.length cs) seen.length (zac seen.reverse) rfl hownA ⟨wr.heap.size,0,none⟩ 1 1 [.int .i64 k'] rfl rfl hnews hone (by unfold maxLen;omega) (by omega) (by simp;omega) ?_);intro sv2 wa g1 g3 _ g4;obtain ⟨hRa,hO2,hap2⟩:=after sv2 wa g1 g3 g4;go_frame)
                  | (go_at_call 128;refine (hdsc _ hRa).mono ?_;rintro en w1 ⟨rfl,h1,hm1⟩;have hR2:=h1.below ((Below.refl _ w1).alloc (Nat.le_refl _) (Obj.cells #[.int .u64 A1,.int .u32 L1,.int .u16 F1,.int .u16 N1] 175)))
                  | (go_at_call 130;refine (zp3 X b2 (.pointer (some ⟨P,0,none⟩)) v' (s'.n+1) 0 A1 L1 F1 s'.segs _ hR2.cl hR2.own hR2.size hR2.lo.1 (by omega) bF).mono ?_;rintro en w4 ⟨rfl,v4,hc4,ho4,hm4,hv4⟩;have hR4:=hR2.segd hc4 ho4 hm4 hv4;have hX1:=h1.cl.lt;have hv1:=h1.own.lt;have kb4:=(Cl.new w1 #[.int .u64 A1,.int .u32 L1,.int .u16 F1,.int .u16 N1] 175).kept (hm4.block w1.heap.size (by simp) (fun q=>q.elim (fun q=>by omega) (fun q=>by have:=(hv1 _ q).2.1;omega)));have y2:=kb4.cell 2 _ rfl;have y3:=kb4.cell 3 _ rfl)
                  | go_in)
                have hsz1:=hm1.size;have hsz4:=hm4.size;have hO1:=OwnR.kept hO2 (w':=w1) fun b e=>hm1.block b (OwnR.lt hO2 b e).2 fun q=>by have:=(OwnR.lt hO2 b e).1;have q:b=X:=q;omega
                have hO1a:=OwnR.kept hO1 (w':=w1.alloc (Obj.cells #[.int .u64 A1,.int .u32 L1,.int .u16 F1,.int .u16 N1] 175)) fun b e=>((Below.refl _ w1).alloc (Nat.le_refl _) _).block b (OwnR.lt hO1 b e).2;have hO4:=OwnR.kept hO1a (w':=w4) fun b e=>hm4.block b (OwnR.lt hO1a b e).2 fun q=>by
                  rcases q with q|q
                  · have:=(OwnR.lt hO2 b e).1;omega
                  · exact hap2 b e q
                refine ⟨⟨N1,k'::seen,⟨s'.segs++ [⟨A1,L1,F1/2%2*2 !=0⟩],s'.n+1,s'.e⟩,v4,f',rfl,bN,by simp only [List.length_cons];omega,List.nodup_cons.2 ⟨hnm,hnd⟩,fun y hy=> ?_,hR4,he0,by simp only [List.length_append,List.length_cons,List.length_nil];omega,⟨by show 0≤s'.n+1;omega,by show s'.n+1≤_;simp only [List.length_cons];omega⟩,hO4,fun b e q=> ?_,hQ2,?_⟩,?_⟩
                · rcases List.mem_cons.1 hy with rfl|hy
                  · exact ⟨hk'.1,hck'⟩
                  · exact hsr y hy
                · rcases hv4 b q with q|q
                  · exact hap2 b e q
                  · have:=(OwnR.lt hO1 b e).2;simp at q;omega
                · simp at hsz4;have:=(g3).size;simp at this;omega
                · obtain ⟨sa2,cs2,rfl,_⟩:=OwnR.row hO2;simp only [lenV,List.length_cons];omega
          · have hin': ¬(a:Int)+16≤N:=by omega
            rw [if_pos (by omega)] at hsplit;have hdsc:=fun w1 (h1:RdW w0 w1 X b2 P L Bs B N g v0 v' s'.segs s'.n 0)=>zqe h1 hN (A:=a) ⟨by omega,haB⟩ hin';have hQ2:(fun _:Unit=>za0 N g (tabR inner table T) (c.toNat+1) A c k [] s)=fun _=>_:=hQ.trans (funext fun _=>hsplit);clear hQ hsplit hT haB;go_wp2_with (first
              | (at_builtin;go_loud (refine wpList_append_own_at _ rfl _ _ 75 rfl w.heap.size 3 i0 _ 1 8 (by kernel_rfl) hi0 j1 j2 j3 rfl (by decide) (.slice sa seen.length cs) seen.length (zac seen.reverse) rfl hownA ⟨wr.heap.size,0,none⟩ 1 1 [.int .i64 k'] rfl rfl hnews hone (by unfold maxLen;omega) (by omega) (by simp;omega) ?_);intro sv2 wa g1 g3 _ g4;obtain ⟨hRa,hO2,hap2⟩:=after sv2 wa g1 g3 g4;go_frame)
              | (go_at_call 128;refine (hdsc _ hRa).mono ?_;rintro en w1 ⟨rfl,h1,hm1⟩;have hR2:=h1.below ((Below.refl _ w1).alloc (Nat.le_refl _) (Obj.cells #[.int .u64 0,.int .u32 0,.int .u16 0,.int .u16 0] 175)))
              | go_in)
            refine bodyPost_ret (results_none rfl _ _ _) rfl ?_;exact ⟨rfl,v',_,(congrFun hQ2 ()).symm,hR2⟩
end Go.Proofs
end
