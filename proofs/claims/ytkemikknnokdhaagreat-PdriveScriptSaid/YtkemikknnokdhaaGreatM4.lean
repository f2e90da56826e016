/-
  Proved: laws on the way to 'PdriveScriptProof' (texts VaH VaI VdB VaJ VbA VdC QcA QcB QbV QcC QcD PvH PvG PvI PvJ0 PvJ PvK PvL PvM PvO0 PvO PvP PvQ XdK0 PvQ0 PvR1 QcE VbL VdE VdF0 VdD VaK VaL VaM VaN VaO VaP); no condition.
-/
import Derived.Test.YtkemikknnokdhaaGreatM3
import Derived.Deep.CutRange
import Derived.Deep.RegionLaw
import Derived.Deep.QuietTactic
import Derived.BigQuiet
set_option linter.unusedSimpArgs false
set_option linter.unusedVariables false
set_option maxHeartbeats 4000000
noncomputable section
namespace Go.Proofs
open Go.Dw Go.RowKit Go.Maps Go.Sort Go.Deep
section
variable {fns gW:List Nat} {nw ji:Prop} {A A':Nat→Prop} {w w':World} {S P L Bs B I N:Nat} {r:Tryz.Rg} {s s':Tryz.DS} {g g':Nat→Int}
theorem Tryz.aQ.setRow (h:aQ fns nw A w S P L Bs B I N r s g) (j:Nat) (v:Value) (hj:j<27) (hr: ∀aT aU au aj,(s.row r P I aT aU au aj).set j v=s'.row r P I aT aU au aj) (hc:s'.c=s.c) (hsg:s'.sg=s.sg) (dS:s'.pu=s.pu) (hL:s'.L=s.L):aQ fns nw A (w.setCell ⟨S,j,none⟩ v) S P L Bs B I N r s' g:=by
 have hm:Dw.Mv (· =S) w (w.setCell ⟨S,j,none⟩ v):=zag (ah (yab _ _)) S j v rfl;obtain ⟨aT,aU,au,aj,h1,h2,h3,h4,h5,h6⟩:=h.ptr (w':=w.setCell ⟨S,j,none⟩ v) fun b hb hn=>hm.block b hb fun e=>hn (by have e:b=S:=e;exact e▸h.aS);exact h.Bc (hm.mono fun b e=> .inl e) (h.CG hm) ⟨aT,aU,au,aj,hr aT aU au aj▸h1.set j v hj,h2,h3,fun q=>hc▸h4 q,hsg▸h5,dS▸h6⟩ hL
theorem Tryz.aQ.yT (h:aQ fns nw A w S P L Bs B I N r s g) {yV:Value} (hs:jK A w S yV gW):aQ gW nw A (w.setCell ⟨S,16,none⟩ yV) S P L Bs B I N r s g:=by
 have hm:Dw.Mv (· =S) w (w.setCell ⟨S,16,none⟩ yV):=zag (ah (yab _ _)) S 16 _ rfl;have hk: ∀b,b<w.heap.size→ ¬A b→(w.setCell ⟨S,16,none⟩ yV).heap[b]? =w.heap[b]? :=fun b hb hn=>hm.block b hb fun e=>hn (by have e:b=S:=e;exact e▸h.aS);obtain ⟨aT,aU,au,aj,h1,h2,h3,h4,h5,h6⟩:=h.ptr hk;exact h.Bc (hm.mono fun b e=> .inl e) (h.CG hm) ⟨yV,aU,au,aj,h1.set 16 yV (by show 16<27;decide),hs.aZ (fun _ _ q=>q) hk,h3,h4,h5,h6⟩ rfl
theorem Tryz.jK.new {l:List Nat} {cs:Array Value} (hA: ∀b,A b→b<w.heap.size) (t:TypeId) (hcs:cs.toList=l.map (zye S)):jK A (w.alloc (Obj.cells cs t)) S (.slice (some ⟨w.heap.size,0,none⟩) l.length l.length) l:=
 ⟨_,_,rfl,yaa _,.inr ⟨w.heap.size,0,rfl,fun q=>absurd (hA _ q) (ybe _),fun j v hv=>by rw [yaf];exact (Cl.new w cs t).cell j v (hcs▸hv)⟩⟩
set_option maxRecDepth 100000 in
theorem Tryz.O6 (h:aQ fns nw A w S P L Bs B I N r s g) (hs:0≤s.sx∧s.sx<r.n) {s1:DS} {bY:List Nat} (hc:(iO g s=true∧bY=fo 15∧s1=s)∨(iO g s=false∧s.ev=true∧bY=fo 12∧s1=s)∨(iO g s=false∧s.ev=false∧bY=fns∧s1= { s with nn:=true })):
    Calls prog 79 #[.pointer (some ⟨S,0,none⟩)] w fun e w'=>e= .returned (.tuple #[.agg #[.int .i64 2,.int .i64 1,.int .i64 s.sx],.bool true])∧aQ bY nw A w' S P L Bs B I N r s1 g∧Dw.Mv (· =S) w w':=by
  have hlt:=h.lG;have hbx:=(yab w.heap.size w).alloc (yaa _) (Obj.cells #[.int .i64 0,.int .i64 0,.int .i64 0] 54);have k2:=Cl.new w #[.int .i64 0,.int .i64 0,.int .i64 0] 54;have hX:=h.box (Obj.cells #[.int .i64 0,.int .i64 0,.int .i64 0] 54);have fH:=YJ hX hs;generalize iO g s=is at fH hc;clear hs;rcases hc with ⟨rfl,hfn,hs1⟩|⟨rfl,hev,hfn,hs1⟩|⟨rfl,hev,hfn,hs1⟩<;>subst s1 bY
  · skip
    go_enter func79,ntmps79;go_wp2_with (first
      | (go_at_call 125;refine fH.mono ?_;rintro en w2 ⟨rfl,hb2⟩;have h2:=hX.below hb2;have k3:=k2.below hb2 k2.lt;have bJ:=(yab w2.heap.size w2).alloc (yaa _) (Obj.cells #[.int .i64 2,.int .i64 1,.int .i64 s.sx] 54);have h3:=h2.below bJ;have k4:=k3.below bJ k3.lt;have y2:=Cl.new w2 #[.int .i64 2,.int .i64 1,.int .i64 s.sx] 54;obtain ⟨aT,aU,au,aj,o1,_⟩:=h3.obj;have c7:=o1.cell 6 _ rfl;have c16:=o1.cell 16 _ rfl;have c21:=o1.cell 21 _ rfl;have r16:=o1.free 16;have Hg:=o1.free 21;have hbR:=(yab (w2.alloc (Obj.cells #[.int .i64 2,.int .i64 1,.int .i64 s.sx] 54)).heap.size (w2.alloc (Obj.cells #[.int .i64 2,.int .i64 1,.int .i64 s.sx] 54))).alloc (yaa _) (Obj.cells #[.func (.func 71) #[.pointer (some ⟨S,0,none⟩)] #[],.func (.func 126) #[.pointer (some ⟨S,0,none⟩)] #[]] 155);have hst:=jK.new (S:=S) (w:=w2.alloc (Obj.cells #[.int .i64 2,.int .i64 1,.int .i64 s.sx] 54)) (l:= [71,126]) (cs:= #[.func (.func 71) #[.pointer (some ⟨S,0,none⟩)] #[],.func (.func 126) #[.pointer (some ⟨S,0,none⟩)] #[]]) h3.lt 155 rfl;have o5:=o1.below hbR o1.lt;have e16:=o5.cell 16 _ rfl;have t16:=o5.free 16;have hsz:(w2.alloc (Obj.cells #[.int .i64 2,.int .i64 1,.int .i64 s.sx] 54)).heap.size=w2.heap.size+1:=(by simp);rw [hsz] at hst;have h4:=(h3.below hbR).yT hst;have hl2:=hb2.size;simp only [fw] at hl2;have gX:Dw.Mv (· =S) ((w2.alloc (Obj.cells #[.int .i64 2,.int .i64 1,.int .i64 s.sx] 54)).alloc (Obj.cells #[.func (.func 71) #[.pointer (some ⟨S,0,none⟩)] #[],.func (.func 126) #[.pointer (some ⟨S,0,none⟩)] #[]] 155)) (((w2.alloc (Obj.cells #[.int .i64 2,.int .i64 1,.int .i64 s.sx] 54)).alloc (Obj.cells #[.func (.func 71) #[.pointer (some ⟨S,0,none⟩)] #[],.func (.func 126) #[.pointer (some ⟨S,0,none⟩)] #[]] 155)).setCell ⟨S,16,none⟩ (.slice (some ⟨w2.heap.size+1,0,none⟩) 2 2)):=zag (ah (yab _ _)) S 16 _ rfl;have k5:=(k4.below hbR k4.lt).kept (gX.block _ (k4.below hbR k4.lt).lt (by omega));have y3:=(y2.below hbR y2.lt).kept (gX.block _ (y2.below hbR y2.lt).lt (by omega));have z0:=y3.cell 0 _ rfl;have z1:=y3.cell 1 _ rfl;have z2:=y3.cell 2 _ rfl;have b0:=k5.cell 0 _ rfl;have b1:=k5.cell 1 _ rfl;have b2:=k5.cell 2 _ rfl;have q0:=k5.free 0;have q1:=k5.free 1;have q2:=k5.free 2;have hmv:=(((ah (K:=(· =S)) hbx).trans (ah hb2)).trans (ah bJ)).trans ((ah hbR).trans gX))
      | go_in)
    have kA:=(((k5.set 0 (.int .i64 2) (by simp)).set 1 (.int .i64 1) (by simp)).set 2 (.int .i64 s.sx) (by simp));refine yap (bU rfl _ _ w.heap.size [.int .i64 2,.int .i64 1,.int .i64 s.sx] _ rfl (fun j y hy=>by rw [yaf];exact kA.cell j y hy) underlying54 rfl (by kernel_rfl)) rfl ?_;exact ⟨rfl,h4.fin h.aS h.aI h.aB ⟨by omega,by omega,by omega,by omega,by omega,by omega⟩ (zag (zag (zag (ah (K:=(· =w.heap.size)) (yab _ _)) w.heap.size 0 _ rfl) w.heap.size 1 _ rfl) w.heap.size 2 _ rfl),aD (aD (aD (hmv) w.heap.size 0 _ (.inr (yaa _))) w.heap.size 1 _ (.inr (yaa _))) w.heap.size 2 _ (.inr (yaa _))⟩
  · skip
    go_enter func79,ntmps79;go_wp2_with (first
      | (go_at_call 125;refine fH.mono ?_;rintro en w2 ⟨rfl,hb2⟩;have h2:=hX.below hb2;have k3:=k2.below hb2 k2.lt;have bJ:=(yab w2.heap.size w2).alloc (yaa _) (Obj.cells #[.int .i64 2,.int .i64 1,.int .i64 s.sx] 54);have h3:=h2.below bJ;have k4:=k3.below bJ k3.lt;have y2:=Cl.new w2 #[.int .i64 2,.int .i64 1,.int .i64 s.sx] 54;obtain ⟨aT,aU,au,aj,o1,_⟩:=h3.obj;have c7:=o1.cell 6 _ rfl;have c16:=o1.cell 16 _ rfl;have c21:=o1.cell 21 _ rfl;have r16:=o1.free 16;have Hg:=o1.free 21;have hbR:=(yab (w2.alloc (Obj.cells #[.int .i64 2,.int .i64 1,.int .i64 s.sx] 54)).heap.size (w2.alloc (Obj.cells #[.int .i64 2,.int .i64 1,.int .i64 s.sx] 54))).alloc (yaa _) (Obj.cells #[.func (.func 127) #[.pointer (some ⟨S,0,none⟩)] #[],.func (.func 71) #[.pointer (some ⟨S,0,none⟩)] #[],.func (.func 128) #[.pointer (some ⟨S,0,none⟩)] #[]] 155);have hst:=jK.new (S:=S) (w:=w2.alloc (Obj.cells #[.int .i64 2,.int .i64 1,.int .i64 s.sx] 54)) (l:= [127,71,128]) (cs:= #[.func (.func 127) #[.pointer (some ⟨S,0,none⟩)] #[],.func (.func 71) #[.pointer (some ⟨S,0,none⟩)] #[],.func (.func 128) #[.pointer (some ⟨S,0,none⟩)] #[]]) h3.lt 155 rfl;have o5:=o1.below hbR o1.lt;have e16:=o5.cell 16 _ rfl;have t16:=o5.free 16;have hsz:(w2.alloc (Obj.cells #[.int .i64 2,.int .i64 1,.int .i64 s.sx] 54)).heap.size=w2.heap.size+1:=(by simp);rw [hsz] at hst;have h4:=(h3.below hbR).yT hst;have hl2:=hb2.size;simp only [fw] at hl2;have gX:Dw.Mv (· =S) ((w2.alloc (Obj.cells #[.int .i64 2,.int .i64 1,.int .i64 s.sx] 54)).alloc (Obj.cells #[.func (.func 127) #[.pointer (some ⟨S,0,none⟩)] #[],.func (.func 71) #[.pointer (some ⟨S,0,none⟩)] #[],.func (.func 128) #[.pointer (some ⟨S,0,none⟩)] #[]] 155)) (((w2.alloc (Obj.cells #[.int .i64 2,.int .i64 1,.int .i64 s.sx] 54)).alloc (Obj.cells #[.func (.func 127) #[.pointer (some ⟨S,0,none⟩)] #[],.func (.func 71) #[.pointer (some ⟨S,0,none⟩)] #[],.func (.func 128) #[.pointer (some ⟨S,0,none⟩)] #[]] 155)).setCell ⟨S,16,none⟩ (.slice (some ⟨w2.heap.size+1,0,none⟩) 3 3)):=zag (ah (yab _ _)) S 16 _ rfl;have k5:=(k4.below hbR k4.lt).kept (gX.block _ (k4.below hbR k4.lt).lt (by omega));have y3:=(y2.below hbR y2.lt).kept (gX.block _ (y2.below hbR y2.lt).lt (by omega));have z0:=y3.cell 0 _ rfl;have z1:=y3.cell 1 _ rfl;have z2:=y3.cell 2 _ rfl;have b0:=k5.cell 0 _ rfl;have b1:=k5.cell 1 _ rfl;have b2:=k5.cell 2 _ rfl;have q0:=k5.free 0;have q1:=k5.free 1;have q2:=k5.free 2;have hmv:=(((ah (K:=(· =S)) hbx).trans (ah hb2)).trans (ah bJ)).trans ((ah hbR).trans gX);rw [hev] at c7)
      | go_in)
    have kA:=(((k5.set 0 (.int .i64 2) (by simp)).set 1 (.int .i64 1) (by simp)).set 2 (.int .i64 s.sx) (by simp));refine yap (bU rfl _ _ w.heap.size [.int .i64 2,.int .i64 1,.int .i64 s.sx] _ rfl (fun j y hy=>by rw [yaf];exact kA.cell j y hy) underlying54 rfl (by kernel_rfl)) rfl ?_;exact ⟨rfl,h4.fin h.aS h.aI h.aB ⟨by omega,by omega,by omega,by omega,by omega,by omega⟩ (zag (zag (zag (ah (K:=(· =w.heap.size)) (yab _ _)) w.heap.size 0 _ rfl) w.heap.size 1 _ rfl) w.heap.size 2 _ rfl),aD (aD (aD (hmv) w.heap.size 0 _ (.inr (yaa _))) w.heap.size 1 _ (.inr (yaa _))) w.heap.size 2 _ (.inr (yaa _))⟩
  · skip
    go_enter func79,ntmps79;go_wp2_with (first
      | (go_at_call 125;refine fH.mono ?_;rintro en w2 ⟨rfl,hb2⟩;have h2:=hX.below hb2;have k3:=k2.below hb2 k2.lt;have bJ:=(yab w2.heap.size w2).alloc (yaa _) (Obj.cells #[.int .i64 2,.int .i64 1,.int .i64 s.sx] 54);have h3:=h2.below bJ;have k4:=k3.below bJ k3.lt;have y2:=Cl.new w2 #[.int .i64 2,.int .i64 1,.int .i64 s.sx] 54;obtain ⟨aT,aU,au,aj,o1,_⟩:=h3.obj;have c7:=o1.cell 6 _ rfl;have c16:=o1.cell 16 _ rfl;have c21:=o1.cell 21 _ rfl;have r16:=o1.free 16;have Hg:=o1.free 21;have h4:=h3.setRow (s':= { s with nn:=true }) 21 (.bool true) (by decide) (fun _ _ _ _=>rfl) rfl rfl rfl rfl;have hl2:=hb2.size;simp only [fw] at hl2;have gX:Dw.Mv (· =S) (w2.alloc (Obj.cells #[.int .i64 2,.int .i64 1,.int .i64 s.sx] 54)) ((w2.alloc (Obj.cells #[.int .i64 2,.int .i64 1,.int .i64 s.sx] 54)).setCell ⟨S,21,none⟩ (.bool true)):=zag (ah (yab _ _)) S 21 _ rfl;have k5:=k4.kept (gX.block _ k4.lt (by omega));have y3:=y2.kept (gX.block _ y2.lt (by omega));have z0:=y3.cell 0 _ rfl;have z1:=y3.cell 1 _ rfl;have z2:=y3.cell 2 _ rfl;have b0:=k5.cell 0 _ rfl;have b1:=k5.cell 1 _ rfl;have b2:=k5.cell 2 _ rfl;have q0:=k5.free 0;have q1:=k5.free 1;have q2:=k5.free 2;have hmv:=(((ah (K:=(· =S)) hbx).trans (ah hb2)).trans (ah bJ)).trans gX;rw [hev] at c7)
      | go_in)
    have kA:=(((k5.set 0 (.int .i64 2) (by simp)).set 1 (.int .i64 1) (by simp)).set 2 (.int .i64 s.sx) (by simp));refine yap (bU rfl _ _ w.heap.size [.int .i64 2,.int .i64 1,.int .i64 s.sx] _ rfl (fun j y hy=>by rw [yaf];exact kA.cell j y hy) underlying54 rfl (by kernel_rfl)) rfl ?_;exact ⟨rfl,h4.fin h.aS h.aI h.aB ⟨by omega,by omega,by omega,by omega,by omega,by omega⟩ (zag (zag (zag (ah (K:=(· =w.heap.size)) (yab _ _)) w.heap.size 0 _ rfl) w.heap.size 1 _ rfl) w.heap.size 2 _ rfl),aD (aD (aD (hmv) w.heap.size 0 _ (.inr (yaa _))) w.heap.size 1 _ (.inr (yaa _))) w.heap.size 2 _ (.inr (yaa _))⟩
set_option maxRecDepth 100000 in
theorem Tryz.X0 (h:aQ fns nw A w S P L Bs B I N r s g) (hs:0≤s.sx∧s.sx<r.n) {s1:DS} {bY:List Nat} (hc:(iO g s=true∧bY=fo 15∧s1=s)∨(iO g s=false∧bY=fns∧s1= { s with nn:=true })):
    Calls prog 128 #[.pointer (some ⟨S,0,none⟩)] w fun e w'=>e= .returned (.tuple #[.agg #[.int .i64 2,.int .i64 1,.int .i64 s.sx],.bool true])∧aQ bY nw A w' S P L Bs B I N r s1 g∧Dw.Mv (· =S) w w':=by
  have hlt:=h.lG;have hbx:=(yab w.heap.size w).alloc (yaa _) (Obj.cells #[.int .i64 0,.int .i64 0,.int .i64 0] 54);have k2:=Cl.new w #[.int .i64 0,.int .i64 0,.int .i64 0] 54;have hX:=h.box (Obj.cells #[.int .i64 0,.int .i64 0,.int .i64 0] 54);have fH:=YJ hX hs;generalize iO g s=is at fH hc;clear hs;rcases hc with ⟨rfl,hfn,hs1⟩|⟨rfl,hfn,hs1⟩<;>subst s1 bY
  · skip
    go_enter func128,ntmps128;go_wp2_with (first
      | (go_at_call 125;refine fH.mono ?_;rintro en w2 ⟨rfl,hb2⟩;have h2:=hX.below hb2;have k3:=k2.below hb2 k2.lt;have bJ:=(yab w2.heap.size w2).alloc (yaa _) (Obj.cells #[.int .i64 2,.int .i64 1,.int .i64 s.sx] 54);have h3:=h2.below bJ;have k4:=k3.below bJ k3.lt;have y2:=Cl.new w2 #[.int .i64 2,.int .i64 1,.int .i64 s.sx] 54;obtain ⟨aT,aU,au,aj,o1,_⟩:=h3.obj;have c7:=o1.cell 6 _ rfl;have c16:=o1.cell 16 _ rfl;have c21:=o1.cell 21 _ rfl;have r16:=o1.free 16;have Hg:=o1.free 21;have hbR:=(yab (w2.alloc (Obj.cells #[.int .i64 2,.int .i64 1,.int .i64 s.sx] 54)).heap.size (w2.alloc (Obj.cells #[.int .i64 2,.int .i64 1,.int .i64 s.sx] 54))).alloc (yaa _) (Obj.cells #[.func (.func 71) #[.pointer (some ⟨S,0,none⟩)] #[],.func (.func 126) #[.pointer (some ⟨S,0,none⟩)] #[]] 155);have hst:=jK.new (S:=S) (w:=w2.alloc (Obj.cells #[.int .i64 2,.int .i64 1,.int .i64 s.sx] 54)) (l:= [71,126]) (cs:= #[.func (.func 71) #[.pointer (some ⟨S,0,none⟩)] #[],.func (.func 126) #[.pointer (some ⟨S,0,none⟩)] #[]]) h3.lt 155 rfl;have o5:=o1.below hbR o1.lt;have e16:=o5.cell 16 _ rfl;have t16:=o5.free 16;have hsz:(w2.alloc (Obj.cells #[.int .i64 2,.int .i64 1,.int .i64 s.sx] 54)).heap.size=w2.heap.size+1:=(by simp);rw [hsz] at hst;have h4:=(h3.below hbR).yT hst;have hl2:=hb2.size;simp only [fw] at hl2;have gX:Dw.Mv (· =S) ((w2.alloc (Obj.cells #[.int .i64 2,.int .i64 1,.int .i64 s.sx] 54)).alloc (Obj.cells #[.func (.func 71) #[.pointer (some ⟨S,0,none⟩)] #[],.func (.func 126) #[.pointer (some ⟨S,0,none⟩)] #[]] 155)) (((w2.alloc (Obj.cells #[.int .i64 2,.int .i64 1,.int .i64 s.sx] 54)).alloc (Obj.cells #[.func (.func 71) #[.pointer (some ⟨S,0,none⟩)] #[],.func (.func 126) #[.pointer (some ⟨S,0,none⟩)] #[]] 155)).setCell ⟨S,16,none⟩ (.slice (some ⟨w2.heap.size+1,0,none⟩) 2 2)):=zag (ah (yab _ _)) S 16 _ rfl;have k5:=(k4.below hbR k4.lt).kept (gX.block _ (k4.below hbR k4.lt).lt (by omega));have y3:=(y2.below hbR y2.lt).kept (gX.block _ (y2.below hbR y2.lt).lt (by omega));have z0:=y3.cell 0 _ rfl;have z1:=y3.cell 1 _ rfl;have z2:=y3.cell 2 _ rfl;have b0:=k5.cell 0 _ rfl;have b1:=k5.cell 1 _ rfl;have b2:=k5.cell 2 _ rfl;have q0:=k5.free 0;have q1:=k5.free 1;have q2:=k5.free 2;have hmv:=(((ah (K:=(· =S)) hbx).trans (ah hb2)).trans (ah bJ)).trans ((ah hbR).trans gX))
      | go_in)
    have kA:=(((k5.set 0 (.int .i64 2) (by simp)).set 1 (.int .i64 1) (by simp)).set 2 (.int .i64 s.sx) (by simp));refine yap (bU rfl _ _ w.heap.size [.int .i64 2,.int .i64 1,.int .i64 s.sx] _ rfl (fun j y hy=>by rw [yaf];exact kA.cell j y hy) underlying54 rfl (by kernel_rfl)) rfl ?_;exact ⟨rfl,h4.fin h.aS h.aI h.aB ⟨by omega,by omega,by omega,by omega,by omega,by omega⟩ (zag (zag (zag (ah (K:=(· =w.heap.size)) (yab _ _)) w.heap.size 0 _ rfl) w.heap.size 1 _ rfl) w.heap.size 2 _ rfl),aD (aD (aD (hmv) w.heap.size 0 _ (.inr (yaa _))) w.heap.size 1 _ (.inr (yaa _))) w.heap.size 2 _ (.inr (yaa _))⟩
  · skip
    go_enter func128,ntmps128;go_wp2_with (first
      | (go_at_call 125;refine fH.mono ?_;rintro en w2 ⟨rfl,hb2⟩;have h2:=hX.below hb2;have k3:=k2.below hb2 k2.lt;have bJ:=(yab w2.heap.size w2).alloc (yaa _) (Obj.cells #[.int .i64 2,.int .i64 1,.int .i64 s.sx] 54);have h3:=h2.below bJ;have k4:=k3.below bJ k3.lt;have y2:=Cl.new w2 #[.int .i64 2,.int .i64 1,.int .i64 s.sx] 54;obtain ⟨aT,aU,au,aj,o1,_⟩:=h3.obj;have c7:=o1.cell 6 _ rfl;have c16:=o1.cell 16 _ rfl;have c21:=o1.cell 21 _ rfl;have r16:=o1.free 16;have Hg:=o1.free 21;have h4:=h3.setRow (s':= { s with nn:=true }) 21 (.bool true) (by decide) (fun _ _ _ _=>rfl) rfl rfl rfl rfl;have hl2:=hb2.size;simp only [fw] at hl2;have gX:Dw.Mv (· =S) (w2.alloc (Obj.cells #[.int .i64 2,.int .i64 1,.int .i64 s.sx] 54)) ((w2.alloc (Obj.cells #[.int .i64 2,.int .i64 1,.int .i64 s.sx] 54)).setCell ⟨S,21,none⟩ (.bool true)):=zag (ah (yab _ _)) S 21 _ rfl;have k5:=k4.kept (gX.block _ k4.lt (by omega));have y3:=y2.kept (gX.block _ y2.lt (by omega));have z0:=y3.cell 0 _ rfl;have z1:=y3.cell 1 _ rfl;have z2:=y3.cell 2 _ rfl;have b0:=k5.cell 0 _ rfl;have b1:=k5.cell 1 _ rfl;have b2:=k5.cell 2 _ rfl;have q0:=k5.free 0;have q1:=k5.free 1;have q2:=k5.free 2;have hmv:=(((ah (K:=(· =S)) hbx).trans (ah hb2)).trans (ah bJ)).trans gX)
      | go_in)
    have kA:=(((k5.set 0 (.int .i64 2) (by simp)).set 1 (.int .i64 1) (by simp)).set 2 (.int .i64 s.sx) (by simp));refine yap (bU rfl _ _ w.heap.size [.int .i64 2,.int .i64 1,.int .i64 s.sx] _ rfl (fun j y hy=>by rw [yaf];exact kA.cell j y hy) underlying54 rfl (by kernel_rfl)) rfl ?_;exact ⟨rfl,h4.fin h.aS h.aI h.aB ⟨by omega,by omega,by omega,by omega,by omega,by omega⟩ (zag (zag (zag (ah (K:=(· =w.heap.size)) (yab _ _)) w.heap.size 0 _ rfl) w.heap.size 1 _ rfl) w.heap.size 2 _ rfl),aD (aD (aD (hmv) w.heap.size 0 _ (.inr (yaa _))) w.heap.size 1 _ (.inr (yaa _))) w.heap.size 2 _ (.inr (yaa _))⟩
end
end Go.Proofs
namespace Go.Proofs
open Go.Dw Go.RowKit Go.Maps Go.Sort Go.Deep
theorem Tryz.OW: ∀(l:List Pt) (h:0<l.length) (d:Pt),l[0]=l.headD d
 | _::_,_,_=>rfl
 | [], h,_=>absurd h (by decide)
section
variable {fns gW:List Nat} {nw ji:Prop} {A A':Nat→Prop} {w w':World} {S P L Bs B I N:Nat} {r:Tryz.Rg} {s s':Tryz.DS} {g g':Nat→Int}
set_option maxRecDepth 100000 in
theorem Tryz.zur {x:Int} (h:0≤x∧x<65536) (w:World):Calls prog 118 #[.int .u16 0,.int .u16 x,.bool true] w fun e w'=>e= .returned (.int .u16 x)∧w'=w:=by
 have hx:bits .xor .u16 0 x=x:=by
  obtain ⟨y,rfl⟩:=yaM h.1;have hy:y<2^16:=by omega
  unfold bits;simp only [BitVec.toNat_xor];have ex:(BitVec.ofInt IntKind.u16.bits (y:Int)).toNat=y:=by
   rw [ybt,ybj];exact ya6 hy
  rw [ex,show (BitVec.ofInt IntKind.u16.bits 0).toNat=0 from by decide,Nat.zero_xor];exact tN (by omega) (by omega)
 clear h;go_enter func118,ntmps118;go_wp2_with fail;go_ret;exact ⟨rfl,rfl⟩
set_option maxRecDepth 100000 in
theorem Tryz.zsb (h:aQ fns nw A w S P L Bs B I N r s g) (hp:0<s.pu.length) (hps:s.l9.ok∧0≤s.l9.aG∧s.l9.aG<r.n):
    Calls prog 72 #[.pointer (some ⟨S,0,none⟩)] w fun e w'=>e= .returned (.tuple #[.agg #[.int .i64 3,.int .i64 1,.int .i64 s.l9.aG],.bool true])∧aQ fns nw A w' S P L Bs B I N r s (iK g (4096+16*s.l9.aG+14).toNat 2 s.l9.nx)∧Dw.Mv (· =B) w w':=by
  have hlt:=h.lG;have hb:=h.rg.bnd;have hd:=h.rg.d;have hN:=h.hN;have hF:=h.fit;obtain ⟨p,hpp⟩: ∃p,p=s.l9:=⟨_,rfl⟩;have hcell: ∀ {w1:World} {aj:Value},gV (fun b=>A b∨b=w.heap.size) w1 aj s.pu→ ∃R o c,aj= .slice (some ⟨R,o,none⟩) s.pu.length c∧w1.rangeAt R o p.cells:=fun {w1 aj} q=>by
    obtain ⟨sa,c,e,hr⟩:=q;rcases hr with hr|⟨R,o,e1,_,h2⟩
    · rw [hr] at hp;exact absurd hp (by decide)
    · refine ⟨R,o,c,by rw [e,e1],?_⟩;have:=BH h2 0 hp;rw [ydt,yaF] at this;have e0:s.pu[0]=p:=by rw [hpp];exact OW s.pu hp _
      rwa [e0] at this
  rw [←hpp] at hps ⊢;obtain ⟨hok,hat⟩:=hps;have hnx:=hok.nx;have hbx:=(yab w.heap.size w).alloc (yaa _) (Obj.cells #[.int .i64 0,.int .i64 0,.int .i64 0] 54);have k2:=Cl.new w #[.int .i64 0,.int .i64 0,.int .i64 0] 54;have hX:=h.box (Obj.cells #[.int .i64 0,.int .i64 0,.int .i64 0] 54);obtain ⟨a,ha,ha2⟩: ∃a:Nat,(a:Int)=r.d+16*p.aG+14∧a+2≤N:=⟨(r.d+16*p.aG+14).toNat,by omega,by omega⟩;have e3:IntKind.wrap .u64 (r.d+16*p.aG+14)=(a:Int):=by rw [wrap_u64 _ (by omega) (by omega)];omega
  have ea:(4096+16*p.aG+14).toNat=a:=by omega
  have e4:IntKind.wrap .u64 p.nx=p.nx:=wrap_u64 _ (by omega) (by omega);rw [ea];have hfl:=fun w'=>zur hnx w';have hpl:=fun {w':World} {A':Nat→Prop} (q:aQ fns nw A' w' S P L Bs B I N r s g)=>tq q hat;have hst:=fun w' (hg:GM w' P L Bs B N g)=>uZ P L Bs B N a 2 p.nx g w' hg h.hN (by decide) ha2;obtain ⟨aT,aU,au,aj,h1,_,_,_,_,dS⟩:=hX.obj;obtain ⟨R,o,cp,rfl,hR⟩:=hcell dS;have hp0:(0:Int)<s.pu.length:=by omega
  have c19:=h1.cell 19 _ rfl;have r0:=hR 0 _ rfl;have r1:=hR 1 _ rfl;have r2:=hR 2 _ rfl;have r3:=hR 3 _ rfl;have r4:=hR 4 _ rfl;rw [yaF] at r0;have bJ:=(yab (w.alloc (Obj.cells #[.int .i64 0,.int .i64 0,.int .i64 0] 54)).heap.size (w.alloc (Obj.cells #[.int .i64 0,.int .i64 0,.int .i64 0] 54))).alloc (yaa _) (Obj.cells #[.int .i64 p.aG,.int .u64 p.a,.int .u32 p.ln,.int .u16 p.f,.int .u16 p.nx] 139);have hY:=hX.below bJ;have kY:=k2.below bJ k2.lt;have y2:=Cl.new (w.alloc (Obj.cells #[.int .i64 0,.int .i64 0,.int .i64 0] 54)) #[.int .i64 p.aG,.int .u64 p.a,.int .u32 p.ln,.int .u16 p.f,.int .u16 p.nx] 139;rw [fw] at y2;have oY:=h1.below bJ h1.lt;have hbd:=(yab ((w.alloc (Obj.cells #[.int .i64 0,.int .i64 0,.int .i64 0] 54)).alloc (Obj.cells #[.int .i64 p.aG,.int .u64 p.a,.int .u32 p.ln,.int .u16 p.f,.int .u16 p.nx] 139)).heap.size ((w.alloc (Obj.cells #[.int .i64 0,.int .i64 0,.int .i64 0] 54)).alloc (Obj.cells #[.int .i64 p.aG,.int .u64 p.a,.int .u32 p.ln,.int .u16 p.f,.int .u16 p.nx] 139))).drew;have hYd:=hY.below hbd;have wK:=kY.below hbd kY.lt;have yd:=y2.below hbd y2.lt;have od:=oY.below hbd oY.lt;have d0:=od.cell 0 _ rfl;have w0:=yd.cell 0 _ rfl;have w4:=yd.cell 4 _ rfl;have v0:=oY.cell 0 _ rfl;have u0:=y2.cell 0 _ rfl;have u4:=y2.cell 4 _ rfl;clear hcell hpp hp hok hat hb hd hN hF ha ha2 ea hnx hR dS;go_enter func72,ntmps72;go_wp2_with fail;go_region_held3 (fun w'=>w'.cell? ⟨S,0,none⟩=some (.pointer (some ⟨P,0,none⟩))∧w'.cell? ⟨w.heap.size+1,0,none⟩=some (.int .i64 p.aG)∧w'.cell? ⟨w.heap.size+1,4,none⟩=some (.int .u16 p.nx)) (go_keep)
    ((first
      | (go_at_call 57;refine (hpl hYd).mono ?_;rintro en w3 ⟨rfl,hw3⟩;have hw3:=hw3.symm;subst hw3)
      | (go_at_call 118;refine (hfl _).mono ?_;rintro en w4 ⟨rfl,hw4⟩;have hw4:=hw4.symm;subst hw4)
      | (go_at_call 18;refine (hst _ hYd.mem).mono ?_;rintro en w5 ⟨rfl,hg5,aH⟩;have h5:=hYd.sP (ku aH) hg5;have p5:=od.kept (aH.block S od.lt h.sd.2.2.2);have k5:=wK.kept (aH.block _ wK.lt (by omega));have y5:=yd.kept (aH.block _ yd.lt (by omega));have x0:=p5.cell 0 _ rfl;have x1:=y5.cell 0 _ rfl;have x4:=y5.cell 4 _ rfl)))
  all_goals
    have hmv:=(((ah (K:=(· =B)) hbx).trans (ah bJ)).trans (ah hbd)).trans (ku aH);have b0:=k5.cell 0 _ rfl;have q0:=k5.free 0;have b1:=k5.cell 1 _ rfl;have q1:=k5.free 1;have b2:=k5.cell 2 _ rfl;have q2:=k5.free 2;go_wp2_with fail;have kA:=(((k5.set 0 (.int .i64 3) (by simp)).set 1 (.int .i64 1) (by simp)).set 2 (.int .i64 p.aG) (by simp));refine yap (bU rfl _ _ w.heap.size [.int .i64 3,.int .i64 1,.int .i64 p.aG] _ rfl (fun j y hy=>by rw [yaf];exact kA.cell j y hy) underlying54 rfl (by kernel_rfl)) rfl ?_;exact ⟨rfl,h5.fin h.aS h.aI h.aB ⟨by omega,by omega,by omega,by omega,by omega,by omega⟩ (zag (zag (zag (ah (K:=(· =w.heap.size)) (yab _ _)) w.heap.size 0 _ rfl) w.heap.size 1 _ rfl) w.heap.size 2 _ rfl),aD (aD (aD (hmv) w.heap.size 0 _ (.inr (yaa _))) w.heap.size 1 _ (.inr (yaa _))) w.heap.size 2 _ (.inr (yaa _))⟩
end
end Go.Proofs
namespace Go.Proofs
open Go.Dw Go.RowKit Go.Maps Go.Sort Go.Deep
def Tryz.tL (ev tb:Bool) (r:Rg) (P I:Nat):List Value:=(DS.fresh ev tb r.n).row r P I (.slice none 0 0) (.pointer none) (.slice none 0 0) (.slice none 0 0)
theorem Tryz.zuq {A:Nat→Prop} {w:World} {S P L Bs B I N:Nat} {r:Rg} {ev tb:Bool} {g:Nat→Int} (gZ:gU r) (hS:Cl w S (tL ev tb r P I)) (hI:Cl w I (List.replicate r.n.toNat (.pointer none))) (hg:GM w P L Bs B N g) (Gi:S≠I) (aS:A S) (aI:A I) (aB:A B) (hl: ∀b,A b→b<w.heap.size) (hN:N≤1048576) (hf:40000≤N) (sd:S≠P∧S≠L∧S≠Bs∧S≠B) (md:I≠P∧I≠L∧I≠Bs∧I≠B):DW A w S P L Bs B I N r (DS.fresh ev tb r.n) g:=
 ⟨⟨⟨_,_,_,_,hS,⟨none,0,rfl,yaa _,.inl rfl⟩,rfl,fun q=>absurd q.1 (by show¬1≤0;decide),bC.none,⟨none,0,rfl,.inl rfl⟩⟩,
  ⟨_,hI,List.length_replicate,fun k hk=>⟨fun _=>by simp,fun e he=>(by cases he)⟩⟩,hg,Gi,aS,aI,aB,hl,gZ,hN,hf,sd,md⟩,DB.fresh ev tb gZ.bnd.1⟩
structure Tryz.Q7 (p:Prop):Prop where
 out:p
set_option maxRecDepth 100000 in
theorem Tryz.VS {w:World} {S:Nat} {d i:Int} (h3:w.cell? ⟨S,3,none⟩=some (.int .u64 d)) (hd:0≤d∧d≤1000000) (hi:0≤i∧i≤1000000):
  Calls prog 57 #[.pointer (some ⟨S,0,none⟩),.int .i64 i] w fun e w'=>e= .returned (.int .u64 (d+16*i))∧w'=w:=by
 have w1:IntKind.wrap .u64 i=i:=wrap_u64 _ hi.1 (by omega);have w2:IntKind.wrap .u64 (16*i)=16*i:=wrap_u64 _ (by omega) (by omega);have w3:IntKind.wrap .u64 (d+16*i)=d+16*i:=wrap_u64 _ (by omega) (by omega);go_enter func57,ntmps57;go_wp2_with fail;go_ret;exact ⟨rfl,rfl⟩
theorem Tryz.zvp:(prog.info? 127).map (fun i=>(i.zero,i.size,i.bytes))=some (some (.pointer none),1,8):=by kernel_rfl
theorem Tryz.XP (n:Nat):(madeCells (Value.pointer none).cells (n*1)).toList=List.replicate n (.pointer none):=by
 have hc1:(Value.pointer none).cells= #[.pointer none]:=rfl;apply ycU;intro j;rw [ybp,hc1];by_cases hj:j<n
 ·rw [List.getElem?_replicate,yak hj];simp [madeCells,hj,Nat.mod_one]
 ·rw [yaT (by simpa using hj)];exact ybl (by simp [madeCells];omega)
set_option maxRecDepth 100000 in
theorem Tryz.zua {w:World} {P L Bs B N:Nat} {r:Rg} {ev:Bool} (st:GM w P L Bs B N (fun _=>0)) (hr:gU r) (hN:N≤1048576) (hF:40000≤N):
    Calls prog 11 #[.pointer (some ⟨P,0,none⟩),r.fu,.agg #[.bool ev,.bool false,.bool true],.int .u64 20000] w fun e w'=> ∃S I,e= .returned (.tuple #[.pointer (some ⟨S,0,none⟩),.int .i64 0])∧(w.heap.size≤S∧w.heap.size≤I∧S≠I)∧Cl w' S (tL ev false r P I)∧Cl w' I (List.replicate r.n.toNat (.pointer none))∧GM w' P L Bs B N (fun _=>0)∧Dw.Mv (· =B) w w':=by
  have hn:=hr.bnd;have hd:=hr.d;have hv:=hr.v;have hc:=hr.c;obtain ⟨i0,hi0,hz0,hz1,hzb⟩:=yba zvp;obtain ⟨n,hrn⟩: ∃n:Nat,r.n=n:=⟨r.n.toNat,by omega⟩;have hn2:1≤n∧n≤16:=by omega
  have hps:=Iz 56 (.inl rfl);have hb2:=((yab w.heap.size w).alloc (yaa _) (Obj.cells #[.bool true,.int .i64 r.n,.int .u64 r.d,.int .u64 r.v,.int .u64 r.c] 30)).alloc (by simp) (Obj.cells #[.bool ev,.bool false,.bool true] 23);have kA:=(Cl.new w #[.bool true,.int .i64 r.n,.int .u64 r.d,.int .u64 r.v,.int .u64 r.c] 30).alloc (.cells #[.bool ev,.bool false,.bool true] 23);have kB:=Cl.new2 (w:=w.alloc (Obj.cells #[.bool true,.int .i64 r.n,.int .u64 r.d,.int .u64 r.v,.int .u64 r.c] 30)) (b:=w.heap.size+1) (arr:= #[.bool ev,.bool false,.bool true]) (t:=23) (by simp);have st2:=st.below hb2;have hfit:=XI st2 hr hN hF;have hhas: ∀w',Below w.heap.size w w'→Calls prog 55 #[.pointer (some ⟨P,0,none⟩),.int .u64 20000,.int .u64 ((n:Int)*1024)] w' fun e w2=>e= .returned (.bool true)∧Below w'.heap.size w' w2:=fun w' hb=>by
    have:=Jz P L Bs B N 20000 ((n:Int)*1024) _ w' (st.below hb) hN (by omega) (by omega) (by omega) (by omega)
    rwa [yaH (show 1≤(n:Int)*1024∧20000+(n:Int)*1024≤(N:Int) by omega)] at this
  have hmk:=fun w=>ydq (P:=prog) w 125 127 i0 (.pointer none) underlying125 hi0 hz0 .i64 .i64 n n (by omega) (by omega) (by rw [hz1];omega) (by rw [hzb];omega) (by omega);have hmc:=XP n;simp only [hz1,yaS] at hmk;obtain ⟨C,hC⟩: ∃C,madeCells (Value.pointer none).cells (n*1)=C:=⟨_,rfl⟩;rw [hC] at hmc hmk;clear hC;have rC:IntKind.wrap .u64 (n:Int)=n:=wrap_u64 _ (by omega) (by omega);have rD:IntKind.wrap .u64 ((n:Int)*1024)=(n:Int)*1024:=wrap_u64 _ (by omega) (by omega);unfold Rg.fu at hfit ⊢;rw [hrn] at kA kB hb2 st2 hfit;have hrow: ∀I,tL ev false r P I= [.pointer (some ⟨P,0,none⟩),.bool true,.int .i64 n,.int .u64 r.d,.int .u64 r.v,.int .u64 r.c,.bool ev,.bool false,.bool true,.int .u64 20000,.int .i64 0,.bool true,.int .i64 0,.bool true,.int .i64 n,.slice (some ⟨I,0,none⟩) n n,.slice none 0 0,.pointer none,.slice none 0 0,.slice none 0 0,.int .i64 0,.bool false,.int .i64 0,.int .u32 0,.bool false,.bool false,.bool false]:=fun I=>by
    unfold tL DS.row DS.fresh;simp only [hrn,yaS]
  simp only [hrow];rw [hrn,yaS];have hE:Q7 (r.d=4096∧r.v=4096+16*(n:Int)∧r.c=4100+16*(n:Int)):=⟨hd,by omega,by omega⟩;clear hrow hn hd hv hc hr hrn;go_enter func11,ntmps11;go_wp2_with (first
    | (go_at_call 53;refine (EB P L Bs B N 0 _ _ st2).mono ?_;rintro e w' ⟨rfl,hw⟩;have hw:=hw.symm;subst hw)
    | (go_at_call 54;refine hfit.mono ?_;rintro e w3 ⟨rfl,hb3⟩;have jP:=hb2.trans (hb3.mono hb2.size);have kA3:=kA.below hb3 kA.lt;have kB3:=kB.below hb3 kB.lt;have x0:=kA3.cell 0 _ rfl;have x1:=kA3.cell 1 _ rfl;have x2:=kA3.cell 2 _ rfl;have x3:=kA3.cell 3 _ rfl;have x4:=kA3.cell 4 _ rfl;have y0:=kB3.cell 0 _ rfl;have y1:=kB3.cell 1 _ rfl;have y2:=kB3.cell 2 _ rfl)
    | go_in)
  go_cut [13] from 49 to 61 (fun dv wx=> ∃S I,dv= .pointer (some ⟨S,0,none⟩)∧(w.heap.size≤S∧w.heap.size≤I∧S≠I∧S≠w.heap.size∧I≠w.heap.size)∧Cl wx S [.pointer (some ⟨P,0,none⟩),.bool true,.int .i64 n,.int .u64 r.d,.int .u64 r.v,.int .u64 r.c,.bool ev,.bool false,.bool true,.int .u64 20000,.int .i64 0,.bool true,.int .i64 0,.bool true,.int .i64 n,.slice (some ⟨I,0,none⟩) n n,.slice none 0 0,.pointer none,.slice none 0 0,.slice none 0 0,.int .i64 0,.bool false,.int .i64 0,.int .u32 0,.bool false,.bool false,.bool false]∧Cl wx I (List.replicate n (.pointer none))∧Cl wx w.heap.size [.bool true,.int .i64 n,.int .u64 r.d,.int .u64 r.v,.int .u64 r.c]∧Below w.heap.size w wx)
  case first=>
    go_region_held3 (fun w'=>w'.cell? ⟨w.heap.size,0,none⟩=some (.bool true)∧w'.cell? ⟨w.heap.size,1,none⟩=some (.int .i64 n)∧w'.cell? ⟨w.heap.size,2,none⟩=some (.int .u64 r.d)∧w'.cell? ⟨w.heap.size,3,none⟩=some (.int .u64 r.v)∧w'.cell? ⟨w.heap.size,4,none⟩=some (.int .u64 r.c)∧w'.cell? ⟨w.heap.size+1,0,none⟩=some (.bool ev)∧w'.cell? ⟨w.heap.size+1,1,none⟩=some (.bool false)∧w'.cell? ⟨w.heap.size+1,2,none⟩=some (.bool true)) (go_keep)
      (first
        | (go_at_call 56;have hz:=hb5;refine (hps _).mono ?_;rintro e w6 ⟨rfl,hb6⟩;have t0:w6.cell? ⟨w.heap.size,0,none⟩=some (.bool true):=bq hb6 (by go_keep);have t1:w6.cell? ⟨w.heap.size,1,none⟩=some (.int .i64 n):=bq hb6 (by go_keep);have t2:w6.cell? ⟨w.heap.size,2,none⟩=some (.int .u64 r.d):=bq hb6 (by go_keep);have t3:w6.cell? ⟨w.heap.size,3,none⟩=some (.int .u64 r.v):=bq hb6 (by go_keep);have t4:w6.cell? ⟨w.heap.size,4,none⟩=some (.int .u64 r.c):=bq hb6 (by go_keep);have t5:w6.cell? ⟨w.heap.size+1,0,none⟩=some (.bool ev):=bq hb6 (by go_keep);have t6:w6.cell? ⟨w.heap.size+1,1,none⟩=some (.bool false):=bq hb6 (by go_keep);have t7:w6.cell? ⟨w.heap.size+1,2,none⟩=some (.bool true):=bq hb6 (by go_keep))
        | (go_at_call 56;refine (hps _).mono ?_;rintro e w5 ⟨rfl,hb5⟩;have z0:w5.cell? ⟨w.heap.size,0,none⟩=some (.bool true):=bq hb5 (by go_keep);have z1:w5.cell? ⟨w.heap.size,1,none⟩=some (.int .i64 n):=bq hb5 (by go_keep);have z2:w5.cell? ⟨w.heap.size,2,none⟩=some (.int .u64 r.d):=bq hb5 (by go_keep);have z3:w5.cell? ⟨w.heap.size,3,none⟩=some (.int .u64 r.v):=bq hb5 (by go_keep);have z4:w5.cell? ⟨w.heap.size,4,none⟩=some (.int .u64 r.c):=bq hb5 (by go_keep);have z5:w5.cell? ⟨w.heap.size+1,0,none⟩=some (.bool ev):=bq hb5 (by go_keep);have z6:w5.cell? ⟨w.heap.size+1,1,none⟩=some (.bool false):=bq hb5 (by go_keep);have z7:w5.cell? ⟨w.heap.size+1,2,none⟩=some (.bool true):=bq hb5 (by go_keep)))
    all_goals (go_wp2_with fail)
    all_goals go_meet
    all_goals
      have hD:Below w.heap.size w w3.drew:=jP.drew;have kD:Cl w3.drew w.heap.size [.bool true,.int .i64 n,.int .u64 r.d,.int .u64 r.v,.int .u64 r.c]:=kA3.kept rfl;have hs1:=jP.size;have hd1:w3.drew.heap.size=w3.heap.size:=rfl;have hkA:=kA3.lt
    · have h5:=hD.trans (hb5.mono hD.size);have h6:=h5.trans (hb6.mono h5.size);have k6:=(kD.below hb5 kD.lt).below hb6 (kD.below hb5 kD.lt).lt;have q6:=h6.size;exact ⟨w6.heap.size+1,w6.heap.size,rfl,⟨by omega,by omega,by omega,by have:=k6.lt;omega,by have:=k6.lt;omega⟩,Cl.new2 (by simp),hmc▸(Cl.new w6 C 127).alloc _,(k6.alloc _).alloc _,(h6.alloc h6.size _).alloc (by simp;omega) _⟩
    · have h5:=hD.trans (hb5.mono hD.size);have CK:=h5.alloc h5.size (.cells C 127);have h6:=CK.trans (hb6.mono CK.size);have k5:=(kD.below hb5 kD.lt).alloc (.cells C 127);have k6:=k5.below hb6 k5.lt;have kI:=(hmc▸Cl.new w5 C 127:Cl _ w5.heap.size (List.replicate n (.pointer none)));have yL:=kI.below hb6 kI.lt;have q5:=h5.size;have q6:=hb6.size;have l5:=(kD.below hb5 kD.lt).lt;simp only [fw] at q6;exact ⟨w6.heap.size,w5.heap.size,rfl,⟨by omega,by omega,by omega,by omega,by omega⟩,Cl.new w6 _ _,yL.alloc _,k6.alloc _,h6.alloc h6.size _⟩
    · have hX:=(jP.alloc jP.size (.cells C 127)).drew;have hsx:(w3.alloc (.cells C 127)).drew.heap.size=w3.heap.size+1:=by show (w3.alloc (.cells C 127)).heap.size=_;simp
      have h5:=hX.trans (hb5.mono (by omega));have h6:=h5.trans (hb6.mono h5.size);have Mt:Cl (w3.alloc (.cells C 127)) w3.heap.size (List.replicate n (.pointer none)):=hmc▸Cl.new w3 C 127;have kI:Cl (w3.alloc (.cells C 127)).drew w3.heap.size (List.replicate n (.pointer none)):=Mt.kept rfl;have DL:=kI.below hb5 kI.lt;have yL:=DL.below hb6 DL.lt;have kX:Cl (w3.alloc (.cells C 127)).drew w.heap.size [.bool true,.int .i64 n,.int .u64 r.d,.int .u64 r.v,.int .u64 r.c]:=(kA3.alloc _).kept rfl;have k5:=kX.below hb5 kX.lt;have k6:=k5.below hb6 k5.lt;have q5:=hb5.size;have q6:=hb6.size;exact ⟨w6.heap.size,w3.heap.size,rfl,⟨by omega,by omega,by omega,by omega,by omega⟩,Cl.new w6 _ _,yL.alloc _,k6.alloc _,h6.alloc h6.size _⟩
  case rest=>
    obtain ⟨S,I,rfl,⟨n1,n2,n3,n4,n5⟩,kS,kI,kR,hbx⟩:=hcut;obtain ⟨l,hl⟩: ∃l,l=List.replicate n (Value.pointer none):=⟨_,rfl⟩;rw [←hl] at kI;have hgx:=st.below hbx;have sB:B<w.heap.size:=st.bl;have hmx:=ah (K:=(· =B)) hbx;have r1:=kR.cell 1 _ rfl;obtain ⟨hE1,hE2,qG⟩:=hE.out;clear hmk hmc hps hhas hfit x0 x1 x2 x3 x4 y0 y1 y2;go_wp2_with fail;go_loopw [64] (fun iv wr=> ∃i:Nat,i≤n∧iv= .int .i64 i∧Cl wr S [.pointer (some ⟨P,0,none⟩),.bool true,.int .i64 n,.int .u64 r.d,.int .u64 r.v,.int .u64 r.c,.bool ev,.bool false,.bool true,.int .u64 20000,.int .i64 0,.bool true,.int .i64 0,.bool true,.int .i64 n,.slice (some ⟨I,0,none⟩) n n,.slice none 0 0,.pointer none,.slice none 0 0,.slice none 0 0,.int .i64 0,.bool false,.int .i64 0,.int .u32 0,.bool false,.bool false,.bool false]∧Cl wr I l∧Cl wr w.heap.size [.bool true,.int .i64 n,.int .u64 r.d,.int .u64 r.v,.int .u64 r.c]∧GM wr P L Bs B N (fun _=>0)∧Dw.Mv (· =B) w wr) (fun iv _=>n-(RowKit.intOf iv).toNat)
    case atStart=>exact ⟨0,yar _,rfl,kS,kI,kR,hgx,hmx⟩
    case round=>
      obtain ⟨i,hi,rfl,qS,qI,qR,qg,qm⟩:=hrel;have step: ∀ {wa wb:World} {a k:Nat},Cl wa S [.pointer (some ⟨P,0,none⟩),.bool true,.int .i64 n,.int .u64 r.d,.int .u64 r.v,.int .u64 r.c,.bool ev,.bool false,.bool true,.int .u64 20000,.int .i64 0,.bool true,.int .i64 0,.bool true,.int .i64 n,.slice (some ⟨I,0,none⟩) n n,.slice none 0 0,.pointer none,.slice none 0 0,.slice none 0 0,.int .i64 0,.bool false,.int .i64 0,.int .u32 0,.bool false,.bool false,.bool false]→Cl wa I l→Cl wa w.heap.size [.bool true,.int .i64 n,.int .u64 r.d,.int .u64 r.v,.int .u64 r.c]→Dw.Mv (· =B) w wa→GM wb P L Bs B N (iK (fun _=>0) a k 0)→Mv (· =B) wa wb→Cl wb S [.pointer (some ⟨P,0,none⟩),.bool true,.int .i64 n,.int .u64 r.d,.int .u64 r.v,.int .u64 r.c,.bool ev,.bool false,.bool true,.int .u64 20000,.int .i64 0,.bool true,.int .i64 0,.bool true,.int .i64 n,.slice (some ⟨I,0,none⟩) n n,.slice none 0 0,.pointer none,.slice none 0 0,.slice none 0 0,.int .i64 0,.bool false,.int .i64 0,.int .u32 0,.bool false,.bool false,.bool false]∧Cl wb I l∧Cl wb w.heap.size [.bool true,.int .i64 n,.int .u64 r.d,.int .u64 r.v,.int .u64 r.c]∧GM wb P L Bs B N (fun _=>0)∧Dw.Mv (· =B) w wb:=fun {wa wb a k} q1 q2 q3 q4 q5 q6=>
        ⟨q1.kept (q6.block S q1.lt (by show¬S=B;omega)),q2.kept (q6.block I q2.lt (by show¬I=B;omega)),q3.kept (q6.block _ q3.lt (by show¬w.heap.size=B;omega)),(Jc a k)▸q5,q4.trans (ku q6)⟩
      by_cases hin:i<n
      · have hin':(i:Int)<n:=by omega
        obtain ⟨a,ha,ha2⟩: ∃a:Nat,(a:Int)=r.d+16*(i:Int)+14∧a+2≤N:=⟨(r.d+16*(i:Int)+14).toNat,by omega,by omega⟩;have e3:IntKind.wrap .u64 (r.d+16*(i:Int)+14)=(a:Int):=by rw [wrap_u64 _ (by omega) (by omega)];omega
        have hpl:=VS (qS.cell 3 _ rfl) (i:=i) (by omega) (by omega);have hst:=uZ P L Bs B N a 2 0 _ _ qg hN (by decide) ha2;clear hE hE1 hE2 qG ha ha2 rC rD;go_wp2_with (first
          | (go_at_call 57;refine hpl.mono ?_;rintro e wA ⟨rfl,hw⟩;have hw:=hw.symm;subst hw)
          | (go_at_call 18;refine hst.mono ?_;rintro e wB ⟨rfl,hgB,jS⟩)
          | go_in)
        obtain ⟨p1,p2,p3,p4,p5⟩:=step qS qI qR qm hgB jS;exact ⟨⟨i+1,by omega,by push_cast;rfl,p1,p2,p3,p4,p5⟩,by simp only [RowKit.intOf];omega⟩
      · have hin': ¬(i:Int)<n:=by omega
        obtain ⟨a,ha,ha2⟩: ∃a:Nat,r.v=a∧a+4≤N:=⟨r.v.toNat,by omega,by omega⟩;obtain ⟨b,hb,hb2⟩: ∃b:Nat,r.c=b∧b+4≤N:=⟨r.c.toNat,by omega,by omega⟩;have hst:=uZ P L Bs B N a 4 0 _ _ qg hN (by decide) ha2;have gy:=fun {wB:World} (hg:GM wB P L Bs B N (fun _=>0))=>uZ P L Bs B N b 4 0 _ _ hg hN (by decide) hb2;have c3:wr.cell? ⟨w.heap.size,3,none⟩=some (.int .u64 a):=ha▸qR.cell 3 _ rfl;have c4: ∀ {wB:World},Cl wB w.heap.size [.bool true,.int .i64 n,.int .u64 r.d,.int .u64 r.v,.int .u64 r.c]→wB.cell? ⟨w.heap.size,4,none⟩=some (.int .u64 b):=fun q=>hb▸q.cell 4 _ rfl;clear hE hE1 hE2 qG ha hb ha2 hb2 hn2 rC rD;go_wp2_with (first
          | (go_at_call 18;have hz:=p1;refine (gy p4).mono ?_;rintro e wC ⟨rfl,yx,yC⟩;obtain ⟨o1,o2,o3,o4,o5⟩:=step p1 p2 p3 p5 yx yC)
          | (go_at_call 18;refine hst.mono ?_;rintro e wB ⟨rfl,hgB,jS⟩;obtain ⟨p1,p2,p3,p4,p5⟩:=step qS qI qR qm hgB jS;have d4:=c4 p3)
          | go_in)
        go_ret2;rw [hl] at o2;exact ⟨S,I,rfl,⟨n1,n2,n3⟩,o1,o2,o4,o5⟩
set_option maxRecDepth 100000 in
theorem Tryz.zt8 {w:World} {P L Bs B N:Nat} {r:Rg} {ev:Bool} (st:GM w P L Bs B N (fun _=>0)) (hr:gU r) (hN:N≤1048576) (hF:40000≤N):
    Calls prog 11 #[.pointer (some ⟨P,0,none⟩),r.fu,.agg #[.bool ev,.bool true,.bool true],.int .u64 20000] w fun e w'=> ∃S I,e= .returned (.tuple #[.pointer (some ⟨S,0,none⟩),.int .i64 0])∧(w.heap.size≤S∧w.heap.size≤I∧S≠I)∧Cl w' S (tL ev true r P I)∧Cl w' I (List.replicate r.n.toNat (.pointer none))∧GM w' P L Bs B N (fun _=>0)∧Dw.Mv (· =B) w w':=by
  have hn:=hr.bnd;have hd:=hr.d;have hv:=hr.v;have hc:=hr.c;obtain ⟨i0,hi0,hz0,hz1,hzb⟩:=yba zvp;obtain ⟨n,hrn⟩: ∃n:Nat,r.n=n:=⟨r.n.toNat,by omega⟩;have hn2:1≤n∧n≤16:=by omega
  have hps:=Iz 56 (.inl rfl);have hb2:=((yab w.heap.size w).alloc (yaa _) (Obj.cells #[.bool true,.int .i64 r.n,.int .u64 r.d,.int .u64 r.v,.int .u64 r.c] 30)).alloc (by simp) (Obj.cells #[.bool ev,.bool true,.bool true] 23);have kA:=(Cl.new w #[.bool true,.int .i64 r.n,.int .u64 r.d,.int .u64 r.v,.int .u64 r.c] 30).alloc (.cells #[.bool ev,.bool true,.bool true] 23);have kB:=Cl.new2 (w:=w.alloc (Obj.cells #[.bool true,.int .i64 r.n,.int .u64 r.d,.int .u64 r.v,.int .u64 r.c] 30)) (b:=w.heap.size+1) (arr:= #[.bool ev,.bool true,.bool true]) (t:=23) (by simp);have st2:=st.below hb2;have hfit:=XI st2 hr hN hF;have hhas: ∀w',Below w.heap.size w w'→Calls prog 55 #[.pointer (some ⟨P,0,none⟩),.int .u64 20000,.int .u64 ((n:Int)*1024)] w' fun e w2=>e= .returned (.bool true)∧Below w'.heap.size w' w2:=fun w' hb=>by
    have:=Jz P L Bs B N 20000 ((n:Int)*1024) _ w' (st.below hb) hN (by omega) (by omega) (by omega) (by omega)
    rwa [yaH (show 1≤(n:Int)*1024∧20000+(n:Int)*1024≤(N:Int) by omega)] at this
  have hmk:=fun w=>ydq (P:=prog) w 125 127 i0 (.pointer none) underlying125 hi0 hz0 .i64 .i64 n n (by omega) (by omega) (by rw [hz1];omega) (by rw [hzb];omega) (by omega);have hmc:=XP n;simp only [hz1,yaS] at hmk;obtain ⟨C,hC⟩: ∃C,madeCells (Value.pointer none).cells (n*1)=C:=⟨_,rfl⟩;rw [hC] at hmc hmk;clear hC;have rC:IntKind.wrap .u64 (n:Int)=n:=wrap_u64 _ (by omega) (by omega);have rD:IntKind.wrap .u64 ((n:Int)*1024)=(n:Int)*1024:=wrap_u64 _ (by omega) (by omega);unfold Rg.fu at hfit ⊢;rw [hrn] at kA kB hb2 st2 hfit;have hrow: ∀I,tL ev true r P I= [.pointer (some ⟨P,0,none⟩),.bool true,.int .i64 n,.int .u64 r.d,.int .u64 r.v,.int .u64 r.c,.bool ev,.bool true,.bool true,.int .u64 20000,.int .i64 0,.bool true,.int .i64 0,.bool true,.int .i64 n,.slice (some ⟨I,0,none⟩) n n,.slice none 0 0,.pointer none,.slice none 0 0,.slice none 0 0,.int .i64 0,.bool false,.int .i64 0,.int .u32 0,.bool false,.bool false,.bool false]:=fun I=>by
    unfold tL DS.row DS.fresh;simp only [hrn,yaS]
  simp only [hrow];rw [hrn,yaS];have hE:Q7 (r.d=4096∧r.v=4096+16*(n:Int)∧r.c=4100+16*(n:Int)):=⟨hd,by omega,by omega⟩;clear hrow hn hd hv hc hr hrn;go_enter func11,ntmps11;go_wp2_with (first
    | (go_at_call 53;refine (EB P L Bs B N 0 _ _ st2).mono ?_;rintro e w' ⟨rfl,hw⟩;have hw:=hw.symm;subst hw)
    | (go_at_call 54;refine hfit.mono ?_;rintro e w3 ⟨rfl,hb3⟩;have jP:=hb2.trans (hb3.mono hb2.size);have kA3:=kA.below hb3 kA.lt;have kB3:=kB.below hb3 kB.lt;have x0:=kA3.cell 0 _ rfl;have x1:=kA3.cell 1 _ rfl;have x2:=kA3.cell 2 _ rfl;have x3:=kA3.cell 3 _ rfl;have x4:=kA3.cell 4 _ rfl;have y0:=kB3.cell 0 _ rfl;have y1:=kB3.cell 1 _ rfl;have y2:=kB3.cell 2 _ rfl)
    | (go_at_call 55;refine (hhas _ jP).mono ?_;rintro e w4 ⟨rfl,hb4⟩;have qN:=jP.trans (hb4.mono jP.size);have mP:=kA3.below hb4 kA3.lt;have sN:=kB3.below hb4 kB3.lt;have v0:=mP.cell 0 _ rfl;have v1:=mP.cell 1 _ rfl;have v2:=mP.cell 2 _ rfl;have v3:=mP.cell 3 _ rfl;have v4:=mP.cell 4 _ rfl;have u0:=sN.cell 0 _ rfl;have u1:=sN.cell 1 _ rfl;have u2:=sN.cell 2 _ rfl)
    | go_in)
  go_cut [13] from 49 to 61 (fun dv wx=> ∃S I,dv= .pointer (some ⟨S,0,none⟩)∧(w.heap.size≤S∧w.heap.size≤I∧S≠I∧S≠w.heap.size∧I≠w.heap.size)∧Cl wx S [.pointer (some ⟨P,0,none⟩),.bool true,.int .i64 n,.int .u64 r.d,.int .u64 r.v,.int .u64 r.c,.bool ev,.bool true,.bool true,.int .u64 20000,.int .i64 0,.bool true,.int .i64 0,.bool true,.int .i64 n,.slice (some ⟨I,0,none⟩) n n,.slice none 0 0,.pointer none,.slice none 0 0,.slice none 0 0,.int .i64 0,.bool false,.int .i64 0,.int .u32 0,.bool false,.bool false,.bool false]∧Cl wx I (List.replicate n (.pointer none))∧Cl wx w.heap.size [.bool true,.int .i64 n,.int .u64 r.d,.int .u64 r.v,.int .u64 r.c]∧Below w.heap.size w wx)
  case first=>
    go_region_held3 (fun w'=>w'.cell? ⟨w.heap.size,0,none⟩=some (.bool true)∧w'.cell? ⟨w.heap.size,1,none⟩=some (.int .i64 n)∧w'.cell? ⟨w.heap.size,2,none⟩=some (.int .u64 r.d)∧w'.cell? ⟨w.heap.size,3,none⟩=some (.int .u64 r.v)∧w'.cell? ⟨w.heap.size,4,none⟩=some (.int .u64 r.c)∧w'.cell? ⟨w.heap.size+1,0,none⟩=some (.bool ev)∧w'.cell? ⟨w.heap.size+1,1,none⟩=some (.bool true)∧w'.cell? ⟨w.heap.size+1,2,none⟩=some (.bool true)) (go_keep)
      (first
        | (go_at_call 56;have hz:=hb5;refine (hps _).mono ?_;rintro e w6 ⟨rfl,hb6⟩;have t0:w6.cell? ⟨w.heap.size,0,none⟩=some (.bool true):=bq hb6 (by go_keep);have t1:w6.cell? ⟨w.heap.size,1,none⟩=some (.int .i64 n):=bq hb6 (by go_keep);have t2:w6.cell? ⟨w.heap.size,2,none⟩=some (.int .u64 r.d):=bq hb6 (by go_keep);have t3:w6.cell? ⟨w.heap.size,3,none⟩=some (.int .u64 r.v):=bq hb6 (by go_keep);have t4:w6.cell? ⟨w.heap.size,4,none⟩=some (.int .u64 r.c):=bq hb6 (by go_keep);have t5:w6.cell? ⟨w.heap.size+1,0,none⟩=some (.bool ev):=bq hb6 (by go_keep);have t6:w6.cell? ⟨w.heap.size+1,1,none⟩=some (.bool true):=bq hb6 (by go_keep);have t7:w6.cell? ⟨w.heap.size+1,2,none⟩=some (.bool true):=bq hb6 (by go_keep))
        | (go_at_call 56;refine (hps _).mono ?_;rintro e w5 ⟨rfl,hb5⟩;have z0:w5.cell? ⟨w.heap.size,0,none⟩=some (.bool true):=bq hb5 (by go_keep);have z1:w5.cell? ⟨w.heap.size,1,none⟩=some (.int .i64 n):=bq hb5 (by go_keep);have z2:w5.cell? ⟨w.heap.size,2,none⟩=some (.int .u64 r.d):=bq hb5 (by go_keep);have z3:w5.cell? ⟨w.heap.size,3,none⟩=some (.int .u64 r.v):=bq hb5 (by go_keep);have z4:w5.cell? ⟨w.heap.size,4,none⟩=some (.int .u64 r.c):=bq hb5 (by go_keep);have z5:w5.cell? ⟨w.heap.size+1,0,none⟩=some (.bool ev):=bq hb5 (by go_keep);have z6:w5.cell? ⟨w.heap.size+1,1,none⟩=some (.bool true):=bq hb5 (by go_keep);have z7:w5.cell? ⟨w.heap.size+1,2,none⟩=some (.bool true):=bq hb5 (by go_keep)))
    all_goals (go_wp2_with fail)
    all_goals go_meet
    all_goals
      have hD:Below w.heap.size w w4.drew:=qN.drew;have kD:Cl w4.drew w.heap.size [.bool true,.int .i64 n,.int .u64 r.d,.int .u64 r.v,.int .u64 r.c]:=mP.kept rfl;have hs1:=qN.size;have hd1:w4.drew.heap.size=w4.heap.size:=rfl;have hkA:=mP.lt
    · have h5:=hD.trans (hb5.mono hD.size);have h6:=h5.trans (hb6.mono h5.size);have k6:=(kD.below hb5 kD.lt).below hb6 (kD.below hb5 kD.lt).lt;have q6:=h6.size;exact ⟨w6.heap.size+1,w6.heap.size,rfl,⟨by omega,by omega,by omega,by have:=k6.lt;omega,by have:=k6.lt;omega⟩,Cl.new2 (by simp),hmc▸(Cl.new w6 C 127).alloc _,(k6.alloc _).alloc _,(h6.alloc h6.size _).alloc (by simp;omega) _⟩
    · have h5:=hD.trans (hb5.mono hD.size);have CK:=h5.alloc h5.size (.cells C 127);have h6:=CK.trans (hb6.mono CK.size);have k5:=(kD.below hb5 kD.lt).alloc (.cells C 127);have k6:=k5.below hb6 k5.lt;have kI:=(hmc▸Cl.new w5 C 127:Cl _ w5.heap.size (List.replicate n (.pointer none)));have yL:=kI.below hb6 kI.lt;have q5:=h5.size;have q6:=hb6.size;have l5:=(kD.below hb5 kD.lt).lt;simp only [fw] at q6;exact ⟨w6.heap.size,w5.heap.size,rfl,⟨by omega,by omega,by omega,by omega,by omega⟩,Cl.new w6 _ _,yL.alloc _,k6.alloc _,h6.alloc h6.size _⟩
    · have hX:=(qN.alloc qN.size (.cells C 127)).drew;have hsx:(w4.alloc (.cells C 127)).drew.heap.size=w4.heap.size+1:=by show (w4.alloc (.cells C 127)).heap.size=_;simp
      have h5:=hX.trans (hb5.mono (by omega));have h6:=h5.trans (hb6.mono h5.size);have Mt:Cl (w4.alloc (.cells C 127)) w4.heap.size (List.replicate n (.pointer none)):=hmc▸Cl.new w4 C 127;have kI:Cl (w4.alloc (.cells C 127)).drew w4.heap.size (List.replicate n (.pointer none)):=Mt.kept rfl;have DL:=kI.below hb5 kI.lt;have yL:=DL.below hb6 DL.lt;have kX:Cl (w4.alloc (.cells C 127)).drew w.heap.size [.bool true,.int .i64 n,.int .u64 r.d,.int .u64 r.v,.int .u64 r.c]:=(mP.alloc _).kept rfl;have k5:=kX.below hb5 kX.lt;have k6:=k5.below hb6 k5.lt;have q5:=hb5.size;have q6:=hb6.size;exact ⟨w6.heap.size,w4.heap.size,rfl,⟨by omega,by omega,by omega,by omega,by omega⟩,Cl.new w6 _ _,yL.alloc _,k6.alloc _,h6.alloc h6.size _⟩
  case rest=>
    obtain ⟨S,I,rfl,⟨n1,n2,n3,n4,n5⟩,kS,kI,kR,hbx⟩:=hcut;obtain ⟨l,hl⟩: ∃l,l=List.replicate n (Value.pointer none):=⟨_,rfl⟩;rw [←hl] at kI;have hgx:=st.below hbx;have sB:B<w.heap.size:=st.bl;have hmx:=ah (K:=(· =B)) hbx;have r1:=kR.cell 1 _ rfl;obtain ⟨hE1,hE2,qG⟩:=hE.out;clear hmk hmc hps hhas hfit x0 x1 x2 x3 x4 y0 y1 y2 v0 v1 v2 v3 v4 u0 u1 u2;go_wp2_with fail;go_loopw [64] (fun iv wr=> ∃i:Nat,i≤n∧iv= .int .i64 i∧Cl wr S [.pointer (some ⟨P,0,none⟩),.bool true,.int .i64 n,.int .u64 r.d,.int .u64 r.v,.int .u64 r.c,.bool ev,.bool true,.bool true,.int .u64 20000,.int .i64 0,.bool true,.int .i64 0,.bool true,.int .i64 n,.slice (some ⟨I,0,none⟩) n n,.slice none 0 0,.pointer none,.slice none 0 0,.slice none 0 0,.int .i64 0,.bool false,.int .i64 0,.int .u32 0,.bool false,.bool false,.bool false]∧Cl wr I l∧Cl wr w.heap.size [.bool true,.int .i64 n,.int .u64 r.d,.int .u64 r.v,.int .u64 r.c]∧GM wr P L Bs B N (fun _=>0)∧Dw.Mv (· =B) w wr) (fun iv _=>n-(RowKit.intOf iv).toNat)
    case atStart=>exact ⟨0,yar _,rfl,kS,kI,kR,hgx,hmx⟩
    case round=>
      obtain ⟨i,hi,rfl,qS,qI,qR,qg,qm⟩:=hrel;have step: ∀ {wa wb:World} {a k:Nat},Cl wa S [.pointer (some ⟨P,0,none⟩),.bool true,.int .i64 n,.int .u64 r.d,.int .u64 r.v,.int .u64 r.c,.bool ev,.bool true,.bool true,.int .u64 20000,.int .i64 0,.bool true,.int .i64 0,.bool true,.int .i64 n,.slice (some ⟨I,0,none⟩) n n,.slice none 0 0,.pointer none,.slice none 0 0,.slice none 0 0,.int .i64 0,.bool false,.int .i64 0,.int .u32 0,.bool false,.bool false,.bool false]→Cl wa I l→Cl wa w.heap.size [.bool true,.int .i64 n,.int .u64 r.d,.int .u64 r.v,.int .u64 r.c]→Dw.Mv (· =B) w wa→GM wb P L Bs B N (iK (fun _=>0) a k 0)→Mv (· =B) wa wb→Cl wb S [.pointer (some ⟨P,0,none⟩),.bool true,.int .i64 n,.int .u64 r.d,.int .u64 r.v,.int .u64 r.c,.bool ev,.bool true,.bool true,.int .u64 20000,.int .i64 0,.bool true,.int .i64 0,.bool true,.int .i64 n,.slice (some ⟨I,0,none⟩) n n,.slice none 0 0,.pointer none,.slice none 0 0,.slice none 0 0,.int .i64 0,.bool false,.int .i64 0,.int .u32 0,.bool false,.bool false,.bool false]∧Cl wb I l∧Cl wb w.heap.size [.bool true,.int .i64 n,.int .u64 r.d,.int .u64 r.v,.int .u64 r.c]∧GM wb P L Bs B N (fun _=>0)∧Dw.Mv (· =B) w wb:=fun {wa wb a k} q1 q2 q3 q4 q5 q6=>
        ⟨q1.kept (q6.block S q1.lt (by show¬S=B;omega)),q2.kept (q6.block I q2.lt (by show¬I=B;omega)),q3.kept (q6.block _ q3.lt (by show¬w.heap.size=B;omega)),(Jc a k)▸q5,q4.trans (ku q6)⟩
      by_cases hin:i<n
      · have hin':(i:Int)<n:=by omega
        obtain ⟨a,ha,ha2⟩: ∃a:Nat,(a:Int)=r.d+16*(i:Int)+14∧a+2≤N:=⟨(r.d+16*(i:Int)+14).toNat,by omega,by omega⟩;have e3:IntKind.wrap .u64 (r.d+16*(i:Int)+14)=(a:Int):=by rw [wrap_u64 _ (by omega) (by omega)];omega
        have hpl:=VS (qS.cell 3 _ rfl) (i:=i) (by omega) (by omega);have hst:=uZ P L Bs B N a 2 0 _ _ qg hN (by decide) ha2;clear hE hE1 hE2 qG ha ha2 rC rD;go_wp2_with (first
          | (go_at_call 57;refine hpl.mono ?_;rintro e wA ⟨rfl,hw⟩;have hw:=hw.symm;subst hw)
          | (go_at_call 18;refine hst.mono ?_;rintro e wB ⟨rfl,hgB,jS⟩)
          | go_in)
        obtain ⟨p1,p2,p3,p4,p5⟩:=step qS qI qR qm hgB jS;exact ⟨⟨i+1,by omega,by push_cast;rfl,p1,p2,p3,p4,p5⟩,by simp only [RowKit.intOf];omega⟩
      · have hin': ¬(i:Int)<n:=by omega
        obtain ⟨a,ha,ha2⟩: ∃a:Nat,r.v=a∧a+4≤N:=⟨r.v.toNat,by omega,by omega⟩;obtain ⟨b,hb,hb2⟩: ∃b:Nat,r.c=b∧b+4≤N:=⟨r.c.toNat,by omega,by omega⟩;have hst:=uZ P L Bs B N a 4 0 _ _ qg hN (by decide) ha2;have gy:=fun {wB:World} (hg:GM wB P L Bs B N (fun _=>0))=>uZ P L Bs B N b 4 0 _ _ hg hN (by decide) hb2;have c3:wr.cell? ⟨w.heap.size,3,none⟩=some (.int .u64 a):=ha▸qR.cell 3 _ rfl;have c4: ∀ {wB:World},Cl wB w.heap.size [.bool true,.int .i64 n,.int .u64 r.d,.int .u64 r.v,.int .u64 r.c]→wB.cell? ⟨w.heap.size,4,none⟩=some (.int .u64 b):=fun q=>hb▸q.cell 4 _ rfl;clear hE hE1 hE2 qG ha hb ha2 hb2 hn2 rC rD;go_wp2_with (first
          | (go_at_call 18;have hz:=p1;refine (gy p4).mono ?_;rintro e wC ⟨rfl,yx,yC⟩;obtain ⟨o1,o2,o3,o4,o5⟩:=step p1 p2 p3 p5 yx yC)
          | (go_at_call 18;refine hst.mono ?_;rintro e wB ⟨rfl,hgB,jS⟩;obtain ⟨p1,p2,p3,p4,p5⟩:=step qS qI qR qm hgB jS;have d4:=c4 p3)
          | go_in)
        go_ret2;rw [hl] at o2;exact ⟨S,I,rfl,⟨n1,n2,n3⟩,o1,o2,o4,o5⟩
theorem Tryz.zub {w:World} {P L Bs B N:Nat} {r:Rg} {ev tb:Bool} (st:GM w P L Bs B N (fun _=>0)) (hr:gU r) (hN:N≤1048576) (hF:40000≤N):
  Calls prog 11 #[.pointer (some ⟨P,0,none⟩),r.fu,.agg #[.bool ev,.bool tb,.bool true],.int .u64 20000] w fun e w'=> ∃S I,e= .returned (.tuple #[.pointer (some ⟨S,0,none⟩),.int .i64 0])∧(w.heap.size≤S∧w.heap.size≤I∧S≠I)∧Cl w' S (tL ev tb r P I)∧Cl w' I (List.replicate r.n.toNat (.pointer none))∧GM w' P L Bs B N (fun _=>0)∧Dw.Mv (· =B) w w':=by
 cases tb
 ·exact zua st hr hN hF
 ·exact zt8 st hr hN hF
set_option maxRecDepth 100000 in
theorem Tryz.zt9 {w:World} {P L Bs B N:Nat} {g:Nat→Int} {r:Rg} {ev tb:Bool} (st:GM w P L Bs B N g):
    Calls prog 11 #[.pointer (some ⟨P,0,none⟩),r.fu,.agg #[.bool ev,.bool tb,.bool false],.int .u64 20000] w fun e w'=>e= .returned (.tuple #[.pointer none,.int .i64 2])∧Below w.heap.size w w':=by
  have gy: ∀x y tx ty,GM ((w.alloc (.cells x tx)).alloc (.cells y ty)) P L Bs B N g:=fun x y tx ty=>(st.below ((yab _ w).alloc (yaa _) _)).below ((yab _ _).alloc (yaa _) _);have hb:=((yab w.heap.size w).alloc (yaa _) (Obj.cells #[.bool true,.int .i64 r.n,.int .u64 r.d,.int .u64 r.v,.int .u64 r.c] 30)).alloc (by simp) (Obj.cells #[.bool ev,.bool tb,.bool false] 23);unfold Rg.fu;go_enter func11,ntmps11;go_wp2_with (first
    | (go_at_call 53;refine (EB P L Bs B N 0 g _ (gy _ _ _ _)).mono ?_;rintro e w' ⟨rfl,hw⟩;have hw:=hw.symm;subst hw)
    | go_in)
  go_ret2;exact ⟨rfl,hb⟩
structure Tryz.aA (p:Prop):Prop where
 out:p
theorem Tryz.and_3 {f:Int} (h:0≤f∧f<65536):bits .and .u16 f 3=f%4:=by
 obtain ⟨x,rfl⟩:=yaM h.1;have hx:x<2^16:=by omega
 unfold bits;simp only [ych];have ex:(BitVec.ofInt IntKind.u16.bits (x:Int)).toNat=x:=by
  rw [ybt,ybj];exact ya6 hx
 have ey:(BitVec.ofInt IntKind.u16.bits (3:Int)).toNat=3:=by decide
 have e0:x&&&3=x%4:=ycw x 2;rw [ex,ey,e0];exact tN (by omega) (by omega)
section
variable {fns gW:List Nat} {nw ji:Prop} {A A':Nat→Prop} {w w':World} {S P L Bs B I N:Nat} {r:Tryz.Rg} {s s':Tryz.DS} {g g':Nat→Int}
set_option maxRecDepth 100000 in
theorem Tryz.zuj (h:aQ fns nw A w S P L Bs B I N r s g) (hnw:nw) (hnx:0≤s.nx∧s.nx<r.n) (hct:1≤s.c.ct∧s.c.ct≤r.n) (hkk:s.kk=false):
    Calls prog 73 #[.pointer (some ⟨S,0,none⟩)] w fun e w'=>e= .returned (.tuple #[.agg #[.int .i64 2,.int .i64 11,.int .i64 0],.bool true])∧aQ fns nw A w' S P L Bs B I N r { s with nx:=(dF r.n s.nx s.nw s.c.ct).1,nw:=(dF r.n s.nx s.nw s.c.ct).2,kk:=qo r.n (dF r.n s.nx s.nw s.c.ct).1 (dF r.n s.nx s.nw s.c.ct).2 s.c.ct (bW g r.c.toNat 4) false } g∧Dw.Mv (· =S) w w':=by
  have hlt:=h.lG;have hb:=h.rg.bnd;have hcc:=h.rg.c;have hN:=h.hN;have hF:=h.fit;have hbx:=(yab w.heap.size w).alloc (yaa _) (Obj.cells #[.int .i64 0,.int .i64 0,.int .i64 0] 54);have k2:=Cl.new w #[.int .i64 0,.int .i64 0,.int .i64 0] 54;have hX:=h.box (Obj.cells #[.int .i64 0,.int .i64 0,.int .i64 0] 54);have hbd:=(yab (w.alloc (Obj.cells #[.int .i64 0,.int .i64 0,.int .i64 0] 54)).heap.size (w.alloc (Obj.cells #[.int .i64 0,.int .i64 0,.int .i64 0] 54))).drew;have Af:=hX.below hbd;have kd:Cl (w.alloc (Obj.cells #[.int .i64 0,.int .i64 0,.int .i64 0] 54)).drew w.heap.size [.int .i64 0,.int .i64 0,.int .i64 0]:=k2.kept rfl;obtain ⟨a,ha,ha2⟩: ∃a:Nat,r.c=a∧a+4≤N:=⟨r.c.toNat,by omega,by omega⟩;have ea:r.c.toNat=a:=by omega
  rw [ea];have hwb:=sV g h.mem.byte a 4;have hld:=JG P L Bs B N a 4 g _ Af.mem h.hN (by decide) ha2;generalize bW g a 4=wv at hwb hld ⊢;have qX:0≤wv∧wv<4294967296:=⟨hwb.1,by omega⟩;have hgo:=fun w'=>Qk (n:=r.n) (a:=s.nx) (c:=s.c.ct) (x:=s.nw) ⟨hb.1,by omega⟩ hnx ⟨by omega,hct.2⟩ w';have hu0:=BJ (n:=r.n) (a:=s.nx) (x:=s.nw) (c:=s.c.ct) hnx ⟨by omega,hct.2⟩;obtain ⟨u1,hu1⟩: ∃u1,u1=(dF r.n s.nx s.nw s.c.ct).1:=⟨_,rfl⟩;obtain ⟨u2,hu2⟩: ∃u2,u2=(dF r.n s.nx s.nw s.c.ct).2:=⟨_,rfl⟩;rw [←hu1] at hgo hu0;rw [←hu2] at hgo;rw [←hu1,←hu2];obtain ⟨it,hit⟩: ∃it,it=qo r.n u1 u2 s.c.ct wv false:=⟨_,rfl⟩;rw [←hit];replace hit:aA (it=qo r.n u1 u2 s.c.ct wv false):=⟨hit⟩;have sH:=fun w'=>zwe (f:=wv) qX w';have hand:bits .and .u16 (wv/65536) 3=wv/65536%4:=and_3 ⟨by omega,by omega⟩;have bZ:=fun {ea:Int} {ew:Bool} (hh:0≤ea∧ea<r.n) w'=>zuc (n:=r.n) (a:=ea) (b:=u1) (c:=s.c.ct) (x:=ew) (y:=u2) ⟨hb.1,by omega⟩ hh hu0 ⟨by omega,hct.2⟩ w';have sJ:=fun w'=>zvD (f:=wv%65536) (n:=r.n) ⟨by omega,by omega⟩ ⟨hb.1,by omega⟩ w';have hmod:wv%65536%32768=wv%32768:=by omega
  have SK:wv%65536/32768%2=wv/32768%2:=by omega
  rw [hmod,SK] at sJ;have hpos:0≤wv%32768:=by omega
  unfold bM at hgo bZ sJ;obtain ⟨aT,aU,au,aj,h1,_,_,aaS,_,_⟩:=Af.obj;obtain ⟨O,rfl,Ry,hO2⟩:=aaS hnw;have pJ: ¬A O:=fun q=>Ry (.inl q);have hOX:O≠w.heap.size:=fun q=>Ry (.inr q);have yh:O≠S:=fun q=>pJ (q▸h.aS);have c0:=h1.cell 0 _ rfl;have c5:=h1.cell 5 _ rfl;have sD: ∀ {w':World},Cl w' S (s.row r P I aT (.pointer (some ⟨O,0,none⟩)) au aj)→w'.cell? ⟨S,5,none⟩=some (.int .u64 a):=fun q=>ha▸q.cell 5 _ rfl;rw [ha] at c5;clear hb hcc hN hF ha ha2 ea hwb qX hu1 hu2 hnx hct hmod SK;go_enter func73,ntmps73;go_wp2_with fail;go_region_held3 (fun w'=>w'.cell? ⟨S,0,none⟩=some (.pointer (some ⟨P,0,none⟩))∧w'.cell? ⟨S,5,none⟩=some (.int .u64 a)) (go_keep)
    ((first
      | (go_at_call 119;refine hld.mono ?_;rintro en w4 ⟨rfl,hb4⟩;have h4:=Af.below hb4;have o4:=h1.below hb4 h1.lt;have k4:=kd.below hb4 kd.lt;have n4:=aX hO2 (hb4.block O (fJ hO2 (by simp [DO.cells])));have y0:=o4.cell 0 _ rfl;have y5:=sD o4)))
  have Ae:O<w4.heap.size:=fJ n4 (by simp [DO.cells]);have z10:=o4.cell 10 _ rfl;have z11:=o4.cell 11 _ rfl;have z17:=o4.cell 17 _ rfl;have z2:=o4.cell 2 _ rfl;have m2:=n4 2 _ rfl;go_wp2_with fail;go_cut [] from 22 to 44 (fun wx=>aQ fns nw (fun b=>A b∨b=w.heap.size) wx S P L Bs B I N r { s with nx:=u1,nw:=u2 } g∧Cl wx S (({ s with nx:=u1,nw:=u2 }:DS).row r P I aT (.pointer (some ⟨O,0,none⟩)) au aj)∧Cl wx w.heap.size [.int .i64 0,.int .i64 0,.int .i64 0]∧wx.rangeAt O 0 s.c.cells∧Dw.Mv (· =S) w4 wx)
  case first=>
    go_region_law (first
      | (go_simp;go_at_call 113;refine (hgo w4.drew).mono ?_;rintro en w5 ⟨rfl,hb5⟩;have p5:=(o4.kept (w':=w4.drew) rfl).below hb5 o4.lt;have Hz:=p5.cell 10 _ rfl;have y11:=p5.cell 11 _ rfl;have f10:=p5.free 10;have f11:=p5.free 11))
    all_goals
      go_wp2_with fail;go_meet;have Ai:Below w4.heap.size w4 w5:=((yab w4.heap.size w4).drew).trans hb5;have h5:=((h4.below Ai).setRow (s':= { s with nx:=u1 }) 10 (.int .i64 u1) (by decide) (fun _ _ _ _=>rfl) rfl rfl rfl rfl).setRow (s':= { s with nx:=u1,nw:=u2 }) 11 (.bool u2) (by decide) (fun _ _ _ _=>rfl) rfl rfl rfl rfl;have bD:Dw.Mv (· =S) w4 ((w5.setCell ⟨S,10,none⟩ (.int .i64 u1)).setCell ⟨S,11,none⟩ (.bool u2)):=zag (K:=(· =S)) (zag (K:=(· =S)) (ah Ai) S 10 _ rfl) S 11 _ rfl;exact ⟨h5,(p5.set 10 (.int .i64 u1) (by show 10<27;decide)).set 11 (.bool u2) (by show 11<27;decide),k4.kept (bD.block _ k4.lt (by omega)),aX n4 (bD.block O Ae yh),bD⟩
  case rest=>
    obtain ⟨hc1,hc2,hc3,hc4,RY⟩:=hcut;have Gf:O<wc.heap.size:=fJ hc4 (by simp [DO.cells]);clear z10 z11 z17 z2 m2 y0 y5 c0 c5 sD;have hall:=((((ah (K:=(· =S)) hbx).trans (ah hbd)).trans (ah hb4))).trans RY;have hsz1:=hbx.size;have hsz2:=hb4.size;have Dt:=RY.size;simp only [fw] at hsz1;have acf:w.heap.size<wc.heap.size:=hc3.lt;have hcs:wv/65536%4=0∨wv/65536%4=2∨(wv/65536%4=1∨wv/65536%4=3):=by omega
    rcases hcs with hm|hm|hm
    · have ht:it=true:=by rw [hit.out];unfold qo;rw [yak hm]
      clear hit;subst ht;rw [hm] at hand;clear hm;go_wp2_with (first
      | (go_at_call 120;refine (sH _).mono ?_;rintro en w6 ⟨rfl,hb6⟩;have bJ:=(yab w6.heap.size w6).alloc (yaa _) (Obj.cells #[.int .u16 (wv%65536),.int .u16 (wv/65536)] 192);have iV:=hb6.trans (bJ.mono hb6.size);have h7:=hc1.below iV;have o7:=hc2.below iV hc2.lt;have k7:=hc3.below iV hc3.lt;have n7:=aX hc4 (iV.block O Gf);have y7:=Cl.new w6 #[.int .u16 (wv%65536),.int .u16 (wv/65536)] 192;have x1:=y7.cell 1 _ rfl;have x0:=y7.cell 0 _ rfl;have x24:=o7.cell 24 _ rfl;have f24:=o7.free 24;have b0:=k7.cell 0 _ rfl;have b1:=k7.cell 1 _ rfl;have b2:=k7.cell 2 _ rfl;have q0:=k7.free 0;have q1:=k7.free 1;have q2:=k7.free 2;have h8:=h7.setRow (s':= { s with nx:=u1,nw:=u2,kk:=true }) 24 (.bool true) (by decide) (fun _ _ _ _=>rfl) rfl rfl rfl rfl;have dm:Dw.Mv (· =S) (w6.alloc (Obj.cells #[.int .u16 (wv%65536),.int .u16 (wv/65536)] 192)) ((w6.alloc (Obj.cells #[.int .u16 (wv%65536),.int .u16 (wv/65536)] 192)).setCell ⟨S,24,none⟩ (.bool true)):=zag (ah (yab _ _)) S 24 _ rfl;have k8:=k7.kept (dm.block _ k7.lt (by omega));have o8:=o7.set 24 (.bool true) (by show 24<27;decide);have d0:=k8.cell 0 _ rfl;have d1:=k8.cell 1 _ rfl;have d2:=k8.cell 2 _ rfl;have g0:=k8.free 0;have g1:=k8.free 1;have g2:=k8.free 2)
      | go_in)
      have kA:=(((k8.set 0 (.int .i64 2) (by simp)).set 1 (.int .i64 11) (by simp)).set 2 (.int .i64 0) (by simp));refine yap (bU rfl _ _ w.heap.size [.int .i64 2,.int .i64 11,.int .i64 0] _ rfl (fun j y hy=>by rw [yaf];exact kA.cell j y hy) underlying54 rfl (by kernel_rfl)) rfl ?_;exact ⟨rfl,h8.fin h.aS h.aI h.aB ⟨by omega,by omega,by omega,by omega,by omega,by omega⟩ (zag (zag (zag (ah (K:=(· =w.heap.size)) (yab _ _)) w.heap.size 0 _ rfl) w.heap.size 1 _ rfl) w.heap.size 2 _ rfl),aD (aD (aD ((hall.trans (ah iV)).trans dm) w.heap.size 0 _ (.inr (yaa _))) w.heap.size 1 _ (.inr (yaa _))) w.heap.size 2 _ (.inr (yaa _))⟩
    · rw [hm] at hand;go_wp2_with (first
      | (go_at_call 120;refine (sH _).mono ?_;rintro en w6 ⟨rfl,hb6⟩;have bJ:=(yab w6.heap.size w6).alloc (yaa _) (Obj.cells #[.int .u16 (wv%65536),.int .u16 (wv/65536)] 192);have iV:=hb6.trans (bJ.mono hb6.size);have h7:=hc1.below iV;have o7:=hc2.below iV hc2.lt;have k7:=hc3.below iV hc3.lt;have n7:=aX hc4 (iV.block O Gf);have y7:=Cl.new w6 #[.int .u16 (wv%65536),.int .u16 (wv/65536)] 192;have x1:=y7.cell 1 _ rfl;have x0:=y7.cell 0 _ rfl;have x24:=o7.cell 24 _ rfl;have f24:=o7.free 24;have b0:=k7.cell 0 _ rfl;have b1:=k7.cell 1 _ rfl;have b2:=k7.cell 2 _ rfl;have q0:=k7.free 0;have q1:=k7.free 1;have q2:=k7.free 2;have acg:=hb6.size;have h8:=h7.setRow (s':= { s with nx:=u1,nw:=u2,kk:=true }) 24 (.bool true) (by decide) (fun _ _ _ _=>rfl) rfl rfl rfl rfl;have dm:Dw.Mv (· =S) (w6.alloc (Obj.cells #[.int .u16 (wv%65536),.int .u16 (wv/65536)] 192)) ((w6.alloc (Obj.cells #[.int .u16 (wv%65536),.int .u16 (wv/65536)] 192)).setCell ⟨S,24,none⟩ (.bool true)):=zag (ah (yab _ _)) S 24 _ rfl;have k8:=k7.kept (dm.block _ k7.lt (by omega));have o8:=o7.set 24 (.bool true) (by show 24<27;decide);have d0:=k8.cell 0 _ rfl;have d1:=k8.cell 1 _ rfl;have d2:=k8.cell 2 _ rfl;have g0:=k8.free 0;have g1:=k8.free 1;have g2:=k8.free 2;have y8:=y7.kept (dm.block _ y7.lt (by omega));have e0:=y8.cell 0 _ rfl;have e2:=o8.cell 2 _ rfl;have e10:=o8.cell 10 _ rfl;have e11:=o8.cell 11 _ rfl;have e17:=o8.cell 17 _ rfl;have e24:=o8.cell 24 _ rfl;have MO:=o8.free 24;have n8:=aX n7 (dm.block O (yae Gf iV.size) yh))
      | go_in)
      have nk:O<((w6.alloc (Obj.cells #[.int .u16 (wv%65536),.int .u16 (wv/65536)] 192)).setCell ⟨S,24,none⟩ (.bool true)).heap.size:=by have:=iV.size;have:=dm.size;omega
      generalize hW8:((w6.alloc (Obj.cells #[.int .u16 (wv%65536),.int .u16 (wv/65536)] 192)).setCell ⟨S,24,none⟩ (.bool true))=W8 at h8 dm k8 o8 d0 d1 d2 g0 g1 g2 y8 e0 e2 e10 e11 e17 e24 MO n8 nk ⊢;clear hW8;have hy8:=y8.lt;by_cases hlt2:wv%32768<r.n
      · have ht:it=vD r.n (wv%32768) (decide (wv/32768%2=1)) u1 u2 s.c.ct:=by rw [hit.out];unfold qo;rw [yah (by omega),yak hm,yak hlt2]
        clear hit;rw [yak hlt2,yak hlt2] at sJ;have hn2:=fun w'=>bZ (ea:=wv%32768) (ew:=decide (wv/32768%2=1)) ⟨hpos,hlt2⟩ w';rw [←ht] at hn2;clear ht hlt2 hm bZ hpos;generalize decide (wv/32768%2=1)=eb at sJ hn2;generalize wv%32768=ea at sJ hn2;go_cut [7,8] from 62 to 72 (fun z e8 wx=> ∃Zb,z= .pointer (some ⟨Zb,0,none⟩)∧e8= .int .i64 0∧Cl wx Zb [.int .i64 ea,.bool eb]∧aQ fns nw (fun b=>A b∨b=w.heap.size) wx S P L Bs B I N r ({ s with nx:=u1,nw:=u2,kk:=true }:DS) g∧Cl wx S (({ s with nx:=u1,nw:=u2,kk:=true }:DS).row r P I aT (.pointer (some ⟨O,0,none⟩)) au aj)∧Cl wx w.heap.size [.int .i64 0,.int .i64 0,.int .i64 0]∧wx.rangeAt O 0 s.c.cells∧Dw.Mv (· =S) W8 wx∧Zb≠S)
        case first=>
          have uo:=(yab W8.heap.size W8).alloc (yaa _) (Obj.cells #[.int .i64 0,.bool false] 64);have ez0:=(y8.below uo y8.lt).cell 0 _ rfl;have ez2:=(o8.below uo o8.lt).cell 2 _ rfl;go_region_law (first
            | (go_simp;go_at_call 121;refine (sJ (W8.drew)).mono ?_;rintro en w9 ⟨rfl,dI⟩;have fU:=((yab W8.heap.size W8).drew).trans (dI.mono (yaa _)))
            | (go_simp;go_at_call 121;refine (sJ ((W8.alloc (Obj.cells #[.int .i64 0,.bool false] 64)).drew)).mono ?_;rintro en w9 ⟨rfl,dI⟩;have Df:=((yab (W8.alloc (Obj.cells #[.int .i64 0,.bool false] 64)).heap.size (W8.alloc (Obj.cells #[.int .i64 0,.bool false] 64))).drew).trans (dI.mono (yaa _));have fU:=((yab W8.heap.size W8).alloc (yaa _) (Obj.cells #[.int .i64 0,.bool false] 64)).trans (Df.mono (by simp));have zc:=(Cl.new W8 #[.int .i64 0,.bool false] 64).below Df (by simp);have Nq:=zc.cell 0 _ rfl;have Nr:=zc.cell 1 _ rfl;have Oj:=zc.free 0;have Ol:=zc.free 1))
          all_goals
            go_wp2_with fail;go_meet
            first
              | exact (fun (hfin:Below W8.heap.size W8 (w9.alloc (Obj.cells #[.int .i64 ea,.bool eb] 64)))=>⟨w9.heap.size,rfl,rfl,Cl.new w9 _ _,h8.below hfin,o8.below hfin o8.lt,k8.below hfin k8.lt,aX n8 (hfin.block O nk),ah hfin,by have h1:=fU.size;omega⟩) (fU.alloc fU.size _)
              | exact (fun (hfin:Below W8.heap.size W8 ((w9.setCell ⟨W8.heap.size,0,none⟩ (.int .i64 ea)).setCell ⟨W8.heap.size,1,none⟩ (.bool eb)))=>⟨W8.heap.size,rfl,rfl,(zc.set 0 (.int .i64 ea) (by simp)).set 1 (.bool eb) (by simp),h8.below hfin,o8.below hfin o8.lt,k8.below hfin k8.lt,aX n8 (hfin.block O nk),ah hfin,by omega⟩) (mU (aD (aD (ah (K:=fun _=>False) fU) W8.heap.size 0 _ (.inr (yaa _))) W8.heap.size 1 _ (.inr (yaa _))))
        case rest=>
          obtain ⟨Zb,rfl,rfl,zZ,h10,jk,k10,n10,oh,RG⟩:=hcut;have l0:=zZ.cell 0 _ rfl;have l1:=zZ.cell 1 _ rfl;have l10:=jk.cell 10 _ rfl;have l11:=jk.cell 11 _ rfl;have l17:=jk.cell 17 _ rfl;have l2:=jk.cell 2 _ rfl;have l02:=n10 2 _ rfl;have l24:=jk.cell 24 _ rfl;have lf24:=jk.free 24;have d0:=k10.cell 0 _ rfl;have d1:=k10.cell 1 _ rfl;have d2:=k10.cell 2 _ rfl;have g0:=k10.free 0;have g1:=k10.free 1;have g2:=k10.free 2;have L6:=((hall.trans (ah iV)).trans dm).trans oh;clear e0 e2 e10 e11 e17 e24 MO;go_wp2_with fail;go_region_held3 (fun w'=>w'.cell? ⟨Zb,0,none⟩=some (.int .i64 ea)∧w'.cell? ⟨Zb,1,none⟩=some (.bool eb)∧w'.cell? ⟨S,10,none⟩=some (.int .i64 u1)∧w'.cell? ⟨S,11,none⟩=some (.bool u2)∧w'.cell? ⟨S,17,none⟩=some (.pointer (some ⟨O,0,none⟩))∧w'.cell? ⟨O,2,none⟩=some (.int .i64 s.c.ct)∧w'.cell? ⟨S,2,none⟩=some (.int .i64 r.n)) (go_keep)
            ((first
              | (go_at_call 122;refine (hn2 _).mono ?_;rintro en Hy ⟨rfl,bI⟩;have bI:=bI;have h12:=h10.below ((yab _ _).drew.trans (bI.mono (yaa _)));have yP:=jk.below ((yab _ _).drew.trans (bI.mono (yaa _))) jk.lt;have k12:=k10.below ((yab _ _).drew.trans (bI.mono (yaa _))) k10.lt;have n12:=aX n10 (((yab _ _).drew.trans (bI.mono (yaa _))).block O (fJ n10 (by simp [DO.cells])));have m12:=zZ.below ((yab _ _).drew.trans (bI.mono (yaa _))) zZ.lt;have v0:=m12.cell 0 _ rfl;have v1:=m12.cell 1 _ rfl;have v10:=yP.cell 10 _ rfl;have v11:=yP.cell 11 _ rfl;have v17:=yP.cell 17 _ rfl;have v2:=yP.cell 2 _ rfl;have v02:=n12 2 _ rfl;have v24:=yP.cell 24 _ rfl;have acr:=yP.free 24;have h13:=h12.setRow (s':= { s with nx:=u1,nw:=u2,kk:=it }) 24 (.bool it) (by decide) (fun _ _ _ _=>rfl) rfl rfl rfl rfl;have Gz:Dw.Mv (· =S) Hy (Hy.setCell ⟨S,24,none⟩ (.bool it)):=zag (K:=(· =S)) (ah (yab _ _)) S 24 _ rfl;have k13:=k12.kept (Gz.block _ k12.lt (by omega));have G6:=yP.set 24 (.bool it) (by show 24<27;decide);have m13:=m12.kept (Gz.block _ m12.lt RG);have n13:=aX n12 (Gz.block O (fJ n12 (by simp [DO.cells])) yh);have i0:=m13.cell 0 _ rfl;have i1:=m13.cell 1 _ rfl;have i10:=G6.cell 10 _ rfl;have i11:=G6.cell 11 _ rfl;have i17:=G6.cell 17 _ rfl;have i2:=G6.cell 2 _ rfl;have i02:=n13 2 _ rfl;have s0:=k13.cell 0 _ rfl;have s1:=k13.cell 1 _ rfl;have s2:=k13.cell 2 _ rfl;have t0:=k13.free 0;have t1:=k13.free 1;have t2:=k13.free 2;have aaQ:=(L6.trans (ah ((yab _ _).drew.trans (bI.mono (yaa _))))).trans Gz)))
          all_goals
            go_wp2_with fail;have kA:=(((k13.set 0 (.int .i64 2) (by simp)).set 1 (.int .i64 11) (by simp)).set 2 (.int .i64 0) (by simp));refine yap (bU rfl _ _ w.heap.size [.int .i64 2,.int .i64 11,.int .i64 0] _ rfl (fun j y hy=>by rw [yaf];exact kA.cell j y hy) underlying54 rfl (by kernel_rfl)) rfl ?_;exact ⟨rfl,h13.fin h.aS h.aI h.aB ⟨by omega,by omega,by omega,by omega,by omega,by omega⟩ (zag (zag (zag (ah (K:=(· =w.heap.size)) (yab _ _)) w.heap.size 0 _ rfl) w.heap.size 1 _ rfl) w.heap.size 2 _ rfl),aD (aD (aD (aaQ) w.heap.size 0 _ (.inr (yaa _))) w.heap.size 1 _ (.inr (yaa _))) w.heap.size 2 _ (.inr (yaa _))⟩
      · have ht:it=true:=by rw [hit.out];unfold qo;rw [yah (by omega),yak hm,yah hlt2]
        clear hit;subst ht;rw [yah hlt2,yah hlt2] at sJ;clear hm bZ hpos hlt2;go_cut [7,8] from 62 to 72 (fun z e8 wx=> ∃Zb,z= .pointer (some ⟨Zb,0,none⟩)∧e8= .int .i64 4∧Cl wx Zb [.int .i64 0,.bool false]∧aQ fns nw (fun b=>A b∨b=w.heap.size) wx S P L Bs B I N r ({ s with nx:=u1,nw:=u2,kk:=true }:DS) g∧Cl wx S (({ s with nx:=u1,nw:=u2,kk:=true }:DS).row r P I aT (.pointer (some ⟨O,0,none⟩)) au aj)∧Cl wx w.heap.size [.int .i64 0,.int .i64 0,.int .i64 0]∧wx.rangeAt O 0 s.c.cells∧Dw.Mv (· =S) W8 wx∧Zb≠S)
        case first=>
          have uo:=(yab W8.heap.size W8).alloc (yaa _) (Obj.cells #[.int .i64 0,.bool false] 64);have ez0:=(y8.below uo y8.lt).cell 0 _ rfl;have ez2:=(o8.below uo o8.lt).cell 2 _ rfl;go_region_law (first
            | (go_simp;go_at_call 121;refine (sJ (W8.drew)).mono ?_;rintro en w9 ⟨rfl,dI⟩;have fU:=((yab W8.heap.size W8).drew).trans (dI.mono (yaa _)))
            | (go_simp;go_at_call 121;refine (sJ ((W8.alloc (Obj.cells #[.int .i64 0,.bool false] 64)).drew)).mono ?_;rintro en w9 ⟨rfl,dI⟩;have Df:=((yab (W8.alloc (Obj.cells #[.int .i64 0,.bool false] 64)).heap.size (W8.alloc (Obj.cells #[.int .i64 0,.bool false] 64))).drew).trans (dI.mono (yaa _));have fU:=((yab W8.heap.size W8).alloc (yaa _) (Obj.cells #[.int .i64 0,.bool false] 64)).trans (Df.mono (by simp));have zc:=(Cl.new W8 #[.int .i64 0,.bool false] 64).below Df (by simp);have Nq:=zc.cell 0 _ rfl;have Nr:=zc.cell 1 _ rfl;have Oj:=zc.free 0;have Ol:=zc.free 1))
          all_goals
            go_wp2_with fail;go_meet
            first
              | exact (fun (hfin:Below W8.heap.size W8 (w9.alloc (Obj.cells #[.int .i64 0,.bool false] 64)))=>⟨w9.heap.size,rfl,rfl,Cl.new w9 _ _,h8.below hfin,o8.below hfin o8.lt,k8.below hfin k8.lt,aX n8 (hfin.block O nk),ah hfin,by have h1:=fU.size;omega⟩) (fU.alloc fU.size _)
              | exact (fun (hfin:Below W8.heap.size W8 ((w9.setCell ⟨W8.heap.size,0,none⟩ (.int .i64 0)).setCell ⟨W8.heap.size,1,none⟩ (.bool false)))=>⟨W8.heap.size,rfl,rfl,(zc.set 0 (.int .i64 0) (by simp)).set 1 (.bool false) (by simp),h8.below hfin,o8.below hfin o8.lt,k8.below hfin k8.lt,aX n8 (hfin.block O nk),ah hfin,by omega⟩) (mU (aD (aD (ah (K:=fun _=>False) fU) W8.heap.size 0 _ (.inr (yaa _))) W8.heap.size 1 _ (.inr (yaa _))))
        case rest=>
          obtain ⟨Zb,rfl,rfl,zZ,h10,jk,k10,n10,oh,RG⟩:=hcut;have l0:=zZ.cell 0 _ rfl;have l1:=zZ.cell 1 _ rfl;have l10:=jk.cell 10 _ rfl;have l11:=jk.cell 11 _ rfl;have l17:=jk.cell 17 _ rfl;have l2:=jk.cell 2 _ rfl;have l02:=n10 2 _ rfl;have l24:=jk.cell 24 _ rfl;have lf24:=jk.free 24;have d0:=k10.cell 0 _ rfl;have d1:=k10.cell 1 _ rfl;have d2:=k10.cell 2 _ rfl;have g0:=k10.free 0;have g1:=k10.free 1;have g2:=k10.free 2;have L6:=((hall.trans (ah iV)).trans dm).trans oh;clear e0 e2 e10 e11 e17 e24 MO;go_wp2_with fail;have kA:=(((k10.set 0 (.int .i64 2) (by simp)).set 1 (.int .i64 11) (by simp)).set 2 (.int .i64 0) (by simp));refine yap (bU rfl _ _ w.heap.size [.int .i64 2,.int .i64 11,.int .i64 0] _ rfl (fun j y hy=>by rw [yaf];exact kA.cell j y hy) underlying54 rfl (by kernel_rfl)) rfl ?_;exact ⟨rfl,h10.fin h.aS h.aI h.aB ⟨by omega,by omega,by omega,by omega,by omega,by omega⟩ (zag (zag (zag (ah (K:=(· =w.heap.size)) (yab _ _)) w.heap.size 0 _ rfl) w.heap.size 1 _ rfl) w.heap.size 2 _ rfl),aD (aD (aD (L6) w.heap.size 0 _ (.inr (yaa _))) w.heap.size 1 _ (.inr (yaa _))) w.heap.size 2 _ (.inr (yaa _))⟩
    · have ht:it=false:=by rw [hit.out];unfold qo;rw [yah (by omega),yah (by omega)]
      clear hit;subst ht;rcases hm with hm|hm
      all_goals
        rw [hm] at hand;go_wp2_with (first
      | (go_at_call 120;refine (sH _).mono ?_;rintro en w6 ⟨rfl,hb6⟩;have bJ:=(yab w6.heap.size w6).alloc (yaa _) (Obj.cells #[.int .u16 (wv%65536),.int .u16 (wv/65536)] 192);have iV:=hb6.trans (bJ.mono hb6.size);have h7:=hc1.below iV;have o7:=hc2.below iV hc2.lt;have k7:=hc3.below iV hc3.lt;have n7:=aX hc4 (iV.block O Gf);have y7:=Cl.new w6 #[.int .u16 (wv%65536),.int .u16 (wv/65536)] 192;have x1:=y7.cell 1 _ rfl;have x0:=y7.cell 0 _ rfl;have x24:=o7.cell 24 _ rfl;have f24:=o7.free 24;have b0:=k7.cell 0 _ rfl;have b1:=k7.cell 1 _ rfl;have b2:=k7.cell 2 _ rfl;have q0:=k7.free 0;have q1:=k7.free 1;have q2:=k7.free 2
         skip)
      | go_in)
        have kA:=(((k7.set 0 (.int .i64 2) (by simp)).set 1 (.int .i64 11) (by simp)).set 2 (.int .i64 0) (by simp));refine yap (bU rfl _ _ w.heap.size [.int .i64 2,.int .i64 11,.int .i64 0] _ rfl (fun j y hy=>by rw [yaf];exact kA.cell j y hy) underlying54 rfl (by kernel_rfl)) rfl ?_;exact ⟨rfl,(show aQ fns nw (fun b=>A b∨b=w.heap.size) _ S P L Bs B I N r { s with nx:=u1,nw:=u2,kk:=false } g from hkk▸h7).fin h.aS h.aI h.aB ⟨by omega,by omega,by omega,by omega,by omega,by omega⟩ (zag (zag (zag (ah (K:=(· =w.heap.size)) (yab _ _)) w.heap.size 0 _ rfl) w.heap.size 1 _ rfl) w.heap.size 2 _ rfl),aD (aD (aD (hall.trans (ah iV)) w.heap.size 0 _ (.inr (yaa _))) w.heap.size 1 _ (.inr (yaa _))) w.heap.size 2 _ (.inr (yaa _))⟩
end
end Go.Proofs
namespace Go.Proofs
open Go.Dw Go.RowKit Go.Maps Go.Sort Go.Deep
theorem Tryz.DB.goto {r:Rg} {s:DS} (h:DB r s) {k:Nat} (hk:(k≤5∧1≤s.ph∧s.ph≤5)∨(11≤k∧k≤16)):DB r (s.goto k):=
 ⟨h.nx,h.sx,h.wr,h.el,h.nd,h.sum,h.own,fun q1 q2=>(by
  have q1:1≤k:=q1;have q2:k≤5:=q2;exact h.c (by omega) (by omega)),fun q1 q2=>(by
  have q1:1≤k:=q1;have q2:k≤5:=q2;exact h.pu (by omega) (by omega)),h.ps,h.sg,(by show k≤5∨(11≤k∧k≤16);omega),fun _=>rfl⟩
theorem Tryz.DB.Ub {r:Rg} {s:DS} (h:DB r s) (hb:s.br=false):DB r ({ s with nn:=true }:DS).stop:=
 ⟨h.nx,h.sx,h.wr,h.el,h.nd,h.sum,h.own,fun q=>absurd q (by show¬1≤0;decide),fun q=>absurd q (by show¬1≤0;decide),h.ps,h.sg,.inl (yar _),fun q=>by
  rcases q with q|q
  ·exact absurd rfl q
  ·have q:s.br=true:=q;rw [hb] at q;cases q⟩
theorem Tryz.DB.step {r:Rg} {s:DS} {g:Nat→Int} (h:DB r s) (hg: ∀j,0≤g j∧g j<256) (hn:1≤r.n∧r.n≤32768):DB r (dZ r s g).2.2.1:=by
 unfold dZ;split
 ·exact h
 ·split
  ·exact h
  ·rename_i hb hp;have hbr:s.br=false:=by simpa using hb
   have GK:=h.ph;have hcs:s.ph=1∨s.ph=2∨s.ph=3∨s.ph=4∨s.ph=5∨s.ph=11∨s.ph=12∨s.ph=13∨s.ph=14∨s.ph=15∨s.ph=16:=by omega
   rcases hcs with q|q|q|q|q|q|q|q|q|q|q<;>rw [q]<;>unfold Cf<;>simp only
   ·exact h.goto (.inl ⟨by decide,by omega,by omega⟩)
   ·exact h.goto (.inl ⟨by decide,by omega,by omega⟩)
   ·exact h.goto (.inl ⟨by decide,by omega,by omega⟩)
   ·exact h.goto (.inl ⟨by decide,by omega,by omega⟩)
   ·have hc:=(h.el _ (h.c (by omega) (by omega))).2.2;exact ⟨BJ h.nx ⟨by omega,hc.2⟩,h.sx,h.wr,h.el,h.nd,h.sum,h.own,fun q=>absurd q (by show¬1≤0;decide),fun q=>absurd q (by show¬1≤0;decide),h.ps,h.sg,.inl (yar _),fun q=>by
     rcases q with q|q
     ·exact absurd rfl q
     ·have q:s.br=true:=q;rw [hbr] at q;cases q⟩
   ·split
    ·exact h.goto (.inr (by decide))
    ·split
     ·exact h.goto (.inr (by decide))
     ·exact h.Ub hbr
   ·exact h.goto (.inr (by decide))
   ·exact h.goto (.inr (by decide))
   ·split
    ·exact h.goto (.inr (by decide))
    ·exact h.Ub hbr
   ·exact h.goto (.inr (by decide))
   ·split
    ·exact ⟨h.nx,h.sx,⟨ybY _,by show (0:Int)<4294967296;decide⟩,h.el,h.nd,h.sum,h.own,fun q=>absurd q (by show¬1≤0;decide),fun q=>absurd q (by show¬1≤0;decide),h.ps,h.sg,.inl (yar _),fun _=>rfl⟩
    ·rename_i e he;obtain ⟨hm,hid⟩:=yZ he;have hel:=h.el e hm;have hs:=OH hm h.nd;have hsum:=h.sum;have hown:=h.own;refine ⟨h.nx,BJ h.sx ⟨by omega,hel.2.2.2⟩,⟨ybI _ (by decide),ybC _ (by decide)⟩,fun x hx=>h.el x ((IW _ _).subset hx),h.nd.sublist ((IW _ _).map _),?_,by show 0≤s.own+e.ct;omega,fun q=>absurd q (by show¬1≤0;decide),fun q=>absurd q (by show¬1≤0;decide),h.ps,h.sg,.inl (yar _),fun q=> ?_⟩
     ·show s.own+e.ct+((dJ s.L e.id).map (·.ct)).sum=r.n;omega
     ·rcases q with q|q
      ·exact absurd rfl q
      ·have q:s.br=true:=q;rw [hbr] at q;cases q
def Tryz.cK (L:List DO):List Value:=L.flatMap DO.cells
theorem Tryz.oK: ∀L:List DO,(cK L).length=L.length*3
 | [] => rfl
 | e::r=>by
  have:=oK r;unfold cK at this ⊢;rw [ycc,yaC,this,yaX,show (DO.cells e).length=3 from rfl];omega
theorem Tryz.uV: ∀(L:List DO) (i:Nat) (hi:i<L.length),(cK L)[i*3]? =some (.int .i64 L[i].id)∧(cK L)[i*3+1]? =some (.int .i64 L[i].tk)∧(cK L)[i*3+2]? =some (.int .i64 L[i].ct)
 | e::r,0,_=>⟨rfl,rfl,rfl⟩
 | e::r,i+1,hi=>by
  have q:=uV r i (by simpa using hi);have e1:cK (e::r)= .int .i64 e.id:: .int .i64 e.tk:: .int .i64 e.ct::cK r:=rfl;rw [e1,show (i+1)*3=i*3+1+1+1 by omega];simpa using q
def Tryz.DS.aM (s:DS) (r:Rg) (P:Nat) (lv au aj:Value):List Value:=
 [.pointer (some ⟨P,0,none⟩),.bool true,.int .i64 r.n,.int .u64 r.d,.int .u64 r.v,.int .u64 r.c,.bool s.ev,.bool s.tb,.bool true,.int .u64 20000,.int .i64 s.nx,.bool s.nw,.int .i64 s.sx,.bool s.sw,.int .i64 s.own,lv,.int .i64 s.ph,
  .int .i64 s.op,.bool s.nn,.int .i64 s.tok,.int .u32 s.wr,.bool s.kk,.bool s.dn,.bool s.br,.int .i64 s.c.id,.int .i64 s.c.tk,.int .i64 s.c.ct,au,aj]
structure Tryz.YW (A:Nat→Prop) (w:World) (S P L Bs B N b2:Nat) (r:Rg) (s:DS) (g:Nat→Int) (lv:Value):Prop where
 obj: ∃au aj,Cl w S (s.aM r P lv au aj)∧bC (fun b=>A b∨lv.ownBlock=some b) w au s.sg∧gV (fun b=>A b∨lv.ownBlock=some b) w aj s.pu
 row: ∃t,af t 3 w b2 lv s.L.length (cK s.L)
 rm:aV w P L Bs B N g
 aS:A S
 aB:A B
 lt: ∀b,A b→b<w.heap.size
 lo:S<b2∧P<b2∧L<b2∧Bs<b2∧B<b2
 b2:b2≤w.heap.size
 sd:S≠P∧S≠L∧S≠Bs∧S≠B
 rg:gU r
 pb:DB r s
 hN:N≤1048576
 fit:40000≤N
section
variable {A A':Nat→Prop} {w w':World} {S P L Bs B N b2:Nat} {r:Tryz.Rg} {s s':Tryz.DS} {g g':Nat→Int} {lv bG:Value}
theorem Tryz.YW.oH (h:YW A w S P L Bs B N b2 r s g lv):S<w.heap.size∧P<w.heap.size∧L<w.heap.size∧Bs<w.heap.size∧B<w.heap.size:=by
 have h1:=h.lo;have h2:=h.b2;exact ⟨by omega,by omega,by omega,by omega,by omega⟩
theorem Tryz.YW.below (h:YW A w S P L Bs B N b2 r s g lv) (hb:Below w.heap.size w w'):YW A w' S P L Bs B N b2 r s g lv:=by
 obtain ⟨au,aj,q1,q2,q3⟩:=h.obj;obtain ⟨t,hrow⟩:=h.row;exact ⟨⟨au,aj,q1.below hb q1.lt,q2.aZ (fun _ _ q=>q) fun b hh _=>hb.block b hh,q3.aZ (fun _ _ q=>q) fun b hh _=>hb.block b hh⟩,⟨t,hrow.kept fun b e=>hb.block b (hrow.lt b e).2⟩,h.rm.below hb,h.aS,h.aB,fun b hh=>yae (h.lt b hh) hb.size,h.lo,yas h.b2 hb.size,h.sd,h.rg,h.pb,h.hN,h.fit⟩
theorem Tryz.YW.fin (h:YW A w S P L Bs B N b2 r s g lv) (hm:Dw.Mv (fun b=>b=S∨b=B) w w') (hr:aV w' P L Bs B N g') {au aj:Value} (hc:Cl w' S (s'.aM r P lv au aj)) (q2:bC (fun b=>A b∨lv.ownBlock=some b) w au s.sg) (q3:gV (fun b=>A b∨lv.ownBlock=some b) w aj s.pu) (hL:s'.L=s.L) (hsg:s'.sg=s.sg) (dS:s'.pu=s.pu) (hp:DB r s'):YW A w' S P L Bs B N b2 r s' g' lv:=by
 obtain ⟨t,hrow⟩:=h.row;have hlo:=h.lo;have hk: ∀b,b<w.heap.size→ ¬(A b∨lv.ownBlock=some b)→w'.heap[b]? =w.heap[b]? :=fun b hb hn=>hm.block b hb fun e=>hn (.inl (by
  rcases e with e|e
  ·exact e▸h.aS
  ·exact e▸h.aB))
 refine ⟨⟨au,aj,hc,hsg▸q2.aZ (fun _ _ q=>q) hk,dS▸q3.aZ (fun _ _ q=>q) hk⟩,⟨t,hL▸hrow.kept fun b e=>hm.block b (hrow.lt b e).2 fun e2=> ?_⟩,hr,h.aS,h.aB,fun b hb=>yae (h.lt b hb) hm.size,h.lo,yas h.b2 hm.size,h.sd,h.rg,hp,h.hN,h.fit⟩;have:=(hrow.lt b e).1;rcases e2 with e2|e2<;>omega
theorem Tryz.oU {K:Nat→Prop} {w3:World} {l:List Value} (hm:Dw.Mv K w w3) {a b c:Value} (hk:Cl w3 w.heap.size [a,b,c]) (hS:Cl w3 S l) (hr:aV w3 P L Bs B N g) (hlt:S<w.heap.size∧P<w.heap.size∧L<w.heap.size∧Bs<w.heap.size∧B<w.heap.size) (x y z:Value):
  Dw.Mv K w (((w3.setCell ⟨w.heap.size,0,none⟩ x).setCell ⟨w.heap.size,1,none⟩ y).setCell ⟨w.heap.size,2,none⟩ z)∧Cl (((w3.setCell ⟨w.heap.size,0,none⟩ x).setCell ⟨w.heap.size,1,none⟩ y).setCell ⟨w.heap.size,2,none⟩ z) w.heap.size [x,y,z]∧Cl (((w3.setCell ⟨w.heap.size,0,none⟩ x).setCell ⟨w.heap.size,1,none⟩ y).setCell ⟨w.heap.size,2,none⟩ z) S l∧aV (((w3.setCell ⟨w.heap.size,0,none⟩ x).setCell ⟨w.heap.size,1,none⟩ y).setCell ⟨w.heap.size,2,none⟩ z) P L Bs B N g:=by
 have hX:Dw.Mv (· =w.heap.size) w3 (((w3.setCell ⟨w.heap.size,0,none⟩ x).setCell ⟨w.heap.size,1,none⟩ y).setCell ⟨w.heap.size,2,none⟩ z):=zag (zag (zag (Dw.Mv.refl (· =w.heap.size) w3) w.heap.size 0 x rfl) w.heap.size 1 y rfl) w.heap.size 2 z rfl;refine ⟨aD (aD (aD hm w.heap.size 0 x (.inr (yaa _))) w.heap.size 1 y (.inr (yaa _))) w.heap.size 2 z (.inr (yaa _)),((hk.set 0 x (by simp)).set 1 y (by simp)).set 2 z (by simp),hS.kept (hX.block S hS.lt (by show¬S=_;omega)),hr.jW hX ⟨by omega,by omega,by omega,by omega⟩⟩
end
set_option maxRecDepth 100000 in
theorem Tryz.zpy {A:Nat→Prop} {w:World} {S P L Bs B N b2:Nat} {r:Rg} {s:DS} {g:Nat→Int} {lv:Value} (h:YW A w S P L Bs B N b2 r s g lv):
  Calls prog 35 #[.pointer (some ⟨S,0,none⟩)] w fun e w'=>e= .returned (.int .i64 (if s.br then 4 else 0))∧w'=w:=by
 obtain ⟨au,aj,q1,_⟩:=h.obj;have c23:=q1.cell 23 _ rfl;go_enter func35,ntmps35;cases hb:s.br<;>rw [hb] at c23<;>(go_wp2_with fail;go_ret;exact ⟨rfl,rfl⟩)
set_option maxRecDepth 100000 in
theorem Tryz.wV {w:World} {S:Nat} {d i:Int} (h3:w.cell? ⟨S,3,none⟩=some (.int .u64 d)) (hd:0≤d∧d≤1000000) (hi:0≤i∧i≤1000000):
  Calls prog 60 #[.pointer (some ⟨S,0,none⟩),.int .i64 i] w fun e w'=>e= .returned (.int .u64 (d+16*i))∧w'=w:=by
 have w1:IntKind.wrap .u64 i=i:=wrap_u64 _ hi.1 (by omega);have w2:IntKind.wrap .u64 (16*i)=16*i:=wrap_u64 _ (by omega) (by omega);have w3:IntKind.wrap .u64 (d+16*i)=d+16*i:=wrap_u64 _ (by omega) (by omega);go_enter func60,ntmps60;go_wp2_with fail;go_ret;exact ⟨rfl,rfl⟩
set_option maxRecDepth 100000 in
theorem Tryz.zvU {A:Nat→Prop} {w:World} {S P L Bs B N b2:Nat} {r:Rg} {s:DS} {g:Nat→Int} {lv:Value} (h:YW A w S P L Bs B N b2 r s g lv):
  Calls prog 17 #[.pointer (some ⟨S,0,none⟩)] w fun e w'=>e= .returned (.int .i64 (mX s).1)∧YW A w' S P L Bs B N b2 r (mX s).2 g lv∧Dw.Mv (fun b=>b=S∨b=B) w w':=by
 obtain ⟨au,aj,q1,q2,q3⟩:=h.obj;have hpb:=h.pb.Ho;have c16:=q1.cell 16 _ rfl;have c17:=q1.cell 17 _ rfl;have c18:=q1.cell 18 _ rfl;have c19:=q1.cell 19 _ rfl;have c20:=q1.cell 20 _ rfl;have c21:=q1.cell 21 _ rfl;have FW:=q1.cell 22 _ rfl;have c23:=q1.cell 23 _ rfl;have f16:=q1.free 16;have f17:=q1.free 17;have f18:=q1.free 18;have f19:=q1.free 19;have f20:=q1.free 20;have f21:=q1.free 21;have f22:=q1.free 22;unfold mX at hpb ⊢;by_cases hb:s.br=true
 ·rw [hb] at c23;rw [yak hb];go_enter func17,ntmps17;go_wp2_with fail;go_ret;exact ⟨rfl,h,Dw.Mv.refl _ _⟩
 ·rw [yah hb] at hpb ⊢;rw [show s.br=false from by simpa using hb] at c23;by_cases hp:s.ph=0
  ·rw [yah (by rw [hp];decide)] at hpb ⊢;rw [hp] at c16;have hm:=zag (zag (zag (zag (zag (zag (zag (Dw.Mv.refl (fun b=>b=S∨b=B) w) S 16 (.int .i64 11) (.inl rfl)) S 22 (.bool false) (.inl rfl)) S 17 (.int .i64 2) (.inl rfl)) S 18 (.bool false) (.inl rfl)) S 19 (.int .i64 0) (.inl rfl)) S 20 (.int .u32 0) (.inl rfl)) S 21 (.bool false) (.inl rfl);have bD:=zag (zag (zag (zag (zag (zag (zag (Dw.Mv.refl (· =S) w) S 16 (.int .i64 11) rfl) S 22 (.bool false) rfl) S 17 (.int .i64 2) rfl) S 18 (.bool false) rfl) S 19 (.int .i64 0) rfl) S 20 (.int .u32 0) rfl) S 21 (.bool false) rfl;have hC:=((((((q1.set 16 (.int .i64 11) (by simp [DS.aM])).set 22 (.bool false) (by simp [DS.aM])).set 17 (.int .i64 2) (by simp [DS.aM])).set 18 (.bool false) (by simp [DS.aM])).set 19 (.int .i64 0) (by simp [DS.aM])).set 20 (.int .u32 0) (by simp [DS.aM])).set 21 (.bool false) (by simp [DS.aM]);have hY:=h.fin (s':= { s with ph:=11,dn:=false,op:=2,nn:=false,tok:=0,wr:=0,kk:=false }) hm (h.rm.jW bD h.sd) hC q2 q3 rfl rfl rfl hpb;clear hb hC;go_enter func17,ntmps17;go_wp2_with fail;go_ret;exact ⟨rfl,hY,hm⟩
  ·rw [yak hp];have ha: ¬((s.ph:Nat):Int)=0:=by omega
   generalize ((s.ph:Nat):Int)=bB at c16 ha;clear hb hp;go_enter func17,ntmps17;go_wp2_with fail;go_ret;exact ⟨rfl,h,Dw.Mv.refl _ _⟩
end Go.Proofs
namespace Go.Proofs
open Go.Dw Go.RowKit Go.Maps Go.Sort Go.Deep
structure Tryz.Q8 (p:Prop):Prop where
 out:p
def Tryz.sZ (ev tb:Bool) (r:Rg) (P:Nat):List Value:=(DS.fresh ev tb r.n).aM r P (.slice none 0 0) (.slice none 0 0) (.slice none 0 0)
theorem Tryz.zup {A:Nat→Prop} {w:World} {S P L Bs B N b2:Nat} {r:Rg} {ev tb:Bool} {g:Nat→Int} (gZ:gU r) (hS:Cl w S (sZ ev tb r P)) (hg:aV w P L Bs B N g) (aS:A S) (aB:A B) (hl: ∀b,A b→b<w.heap.size) (hlo:S<b2∧P<b2∧L<b2∧Bs<b2∧B<b2) (hb2:b2≤w.heap.size) (hN:N≤1048576) (hf:40000≤N) (sd:S≠P∧S≠L∧S≠Bs∧S≠B):YW A w S P L Bs B N b2 r (DS.fresh ev tb r.n) g (.slice none 0 0):=
 ⟨⟨_,_,hS,bC.none,⟨none,0,rfl,.inl rfl⟩⟩,⟨3,af.nil 3 3 w b2⟩,hg,aS,aB,hl,hlo,hb2,sd,gZ,DB.fresh ev tb gZ.bnd.1,hN,hf⟩
theorem Tryz.zvk {K:Nat→Prop} {a b:World} (h:Mv K a b):Dw.Mv K a b:=⟨h.os,h.tape,h.output,h.size,h.block⟩
set_option maxRecDepth 100000 in
theorem Tryz.zv5 {w:World} {P L Bs B N:Nat} {r:Rg} {ev:Bool} (st:aV w P L Bs B N (fun _=>0)) (hr:gU r) (hN:N≤1048576) (hF:40000≤N):
    Calls prog 12 #[.pointer (some ⟨P,0,none⟩),r.fu,.agg #[.bool ev,.bool false,.bool true],.int .u64 20000] w fun e w'=> ∃S,e= .returned (.tuple #[.pointer (some ⟨S,0,none⟩),.int .i64 0])∧w.heap.size≤S∧Cl w' S (sZ ev false r P)∧aV w' P L Bs B N (fun _=>0)∧Dw.Mv (· =B) w w':=by
  have hn:=hr.bnd;have hd:=hr.d;have hv:=hr.v;have hc:=hr.c;obtain ⟨n,hrn⟩: ∃n:Nat,r.n=n:=⟨r.n.toNat,by omega⟩;have hn2:1≤n∧n≤16:=by omega
  have hps:=Iz 39 (.inr rfl);have hb2:=((yab w.heap.size w).alloc (yaa _) (Obj.cells #[.bool true,.int .i64 r.n,.int .u64 r.d,.int .u64 r.v,.int .u64 r.c] 30)).alloc (by simp) (Obj.cells #[.bool ev,.bool false,.bool true] 23);have kA:=(Cl.new w #[.bool true,.int .i64 r.n,.int .u64 r.d,.int .u64 r.v,.int .u64 r.c] 30).alloc (.cells #[.bool ev,.bool false,.bool true] 23);have kB:=Cl.new2 (w:=w.alloc (Obj.cells #[.bool true,.int .i64 r.n,.int .u64 r.d,.int .u64 r.v,.int .u64 r.c] 30)) (b:=w.heap.size+1) (arr:= #[.bool ev,.bool false,.bool true]) (t:=23) (by simp);have st2:=st.below hb2;have hfit:=Wi st2 hr hN hF;have hhas: ∀w',Below w.heap.size w w'→Calls prog 59 #[.pointer (some ⟨P,0,none⟩),.int .u64 20000,.int .u64 ((n:Int)*1024)] w' fun e w2=>e= .returned (.bool true)∧Below w'.heap.size w' w2:=fun w' hb=>by
    have:=I9 P L Bs B N 20000 ((n:Int)*1024) _ w' (st.below hb) hN (by omega) (by omega) (by omega) (by omega)
    rwa [yaH (show 1≤(n:Int)*1024∧20000+(n:Int)*1024≤(N:Int) by omega)] at this
  have rC:IntKind.wrap .u64 (n:Int)=n:=wrap_u64 _ (by omega) (by omega);have rD:IntKind.wrap .u64 ((n:Int)*1024)=(n:Int)*1024:=wrap_u64 _ (by omega) (by omega);unfold Rg.fu at hfit ⊢;rw [hrn] at kA kB hb2 st2 hfit;have hrow:sZ ev false r P= [.pointer (some ⟨P,0,none⟩),.bool true,.int .i64 n,.int .u64 r.d,.int .u64 r.v,.int .u64 r.c,.bool ev,.bool false,.bool true,.int .u64 20000,.int .i64 0,.bool true,.int .i64 0,.bool true,.int .i64 n,.slice none 0 0,.int .i64 0,.int .i64 0,.bool false,.int .i64 0,.int .u32 0,.bool false,.bool false,.bool false,.int .i64 0,.int .i64 0,.int .i64 0,.slice none 0 0,.slice none 0 0]:=by
    unfold sZ DS.aM DS.fresh;rw [hrn];rfl
  rw [hrow,hrn];have hE:Q8 (r.d=4096∧r.v=4096+16*(n:Int)∧r.c=4100+16*(n:Int)):=⟨hd,by omega,by omega⟩;clear hrow hn hd hv hc hr hrn;go_enter func12,ntmps12;go_wp2_with (first
    | (go_at_call 58;refine hfit.mono ?_;rintro e w3 ⟨rfl,hb3⟩;have jP:=hb2.trans (hb3.mono hb2.size);have kA3:=kA.below hb3 kA.lt;have kB3:=kB.below hb3 kB.lt;have x0:=kA3.cell 0 _ rfl;have x1:=kA3.cell 1 _ rfl;have x2:=kA3.cell 2 _ rfl;have x3:=kA3.cell 3 _ rfl;have x4:=kA3.cell 4 _ rfl;have y0:=kB3.cell 0 _ rfl;have y1:=kB3.cell 1 _ rfl;have y2:=kB3.cell 2 _ rfl)
    | go_in)
  go_cut [11] from 45 to 54 (fun dv wx=> ∃S,dv= .pointer (some ⟨S,0,none⟩)∧(w.heap.size≤S∧S≠w.heap.size)∧Cl wx S [.pointer (some ⟨P,0,none⟩),.bool true,.int .i64 n,.int .u64 r.d,.int .u64 r.v,.int .u64 r.c,.bool ev,.bool false,.bool true,.int .u64 20000,.int .i64 0,.bool true,.int .i64 0,.bool true,.int .i64 n,.slice none 0 0,.int .i64 0,.int .i64 0,.bool false,.int .i64 0,.int .u32 0,.bool false,.bool false,.bool false,.int .i64 0,.int .i64 0,.int .i64 0,.slice none 0 0,.slice none 0 0]∧Cl wx w.heap.size [.bool true,.int .i64 n,.int .u64 r.d,.int .u64 r.v,.int .u64 r.c]∧Below w.heap.size w wx)
  case first=>
    go_region_held3 (fun w'=>w'.cell? ⟨w.heap.size,0,none⟩=some (.bool true)∧w'.cell? ⟨w.heap.size,1,none⟩=some (.int .i64 n)∧w'.cell? ⟨w.heap.size,2,none⟩=some (.int .u64 r.d)∧w'.cell? ⟨w.heap.size,3,none⟩=some (.int .u64 r.v)∧w'.cell? ⟨w.heap.size,4,none⟩=some (.int .u64 r.c)∧w'.cell? ⟨w.heap.size+1,0,none⟩=some (.bool ev)∧w'.cell? ⟨w.heap.size+1,1,none⟩=some (.bool false)∧w'.cell? ⟨w.heap.size+1,2,none⟩=some (.bool true)) (go_keep)
      (first
        | (go_at_call 39;have hz:=hb5;refine (hps _).mono ?_;rintro e w6 ⟨rfl,hb6⟩;have t0:w6.cell? ⟨w.heap.size,0,none⟩=some (.bool true):=bq hb6 (by go_keep);have t1:w6.cell? ⟨w.heap.size,1,none⟩=some (.int .i64 n):=bq hb6 (by go_keep);have t2:w6.cell? ⟨w.heap.size,2,none⟩=some (.int .u64 r.d):=bq hb6 (by go_keep);have t3:w6.cell? ⟨w.heap.size,3,none⟩=some (.int .u64 r.v):=bq hb6 (by go_keep);have t4:w6.cell? ⟨w.heap.size,4,none⟩=some (.int .u64 r.c):=bq hb6 (by go_keep);have t5:w6.cell? ⟨w.heap.size+1,0,none⟩=some (.bool ev):=bq hb6 (by go_keep);have t6:w6.cell? ⟨w.heap.size+1,1,none⟩=some (.bool false):=bq hb6 (by go_keep);have t7:w6.cell? ⟨w.heap.size+1,2,none⟩=some (.bool true):=bq hb6 (by go_keep))
        | (go_at_call 39;refine (hps _).mono ?_;rintro e w5 ⟨rfl,hb5⟩;have z0:w5.cell? ⟨w.heap.size,0,none⟩=some (.bool true):=bq hb5 (by go_keep);have z1:w5.cell? ⟨w.heap.size,1,none⟩=some (.int .i64 n):=bq hb5 (by go_keep);have z2:w5.cell? ⟨w.heap.size,2,none⟩=some (.int .u64 r.d):=bq hb5 (by go_keep);have z3:w5.cell? ⟨w.heap.size,3,none⟩=some (.int .u64 r.v):=bq hb5 (by go_keep);have z4:w5.cell? ⟨w.heap.size,4,none⟩=some (.int .u64 r.c):=bq hb5 (by go_keep);have z5:w5.cell? ⟨w.heap.size+1,0,none⟩=some (.bool ev):=bq hb5 (by go_keep);have z6:w5.cell? ⟨w.heap.size+1,1,none⟩=some (.bool false):=bq hb5 (by go_keep);have z7:w5.cell? ⟨w.heap.size+1,2,none⟩=some (.bool true):=bq hb5 (by go_keep)))
    all_goals (go_wp2_with fail)
    all_goals go_meet
    all_goals
      have hD:Below w.heap.size w w3.drew:=jP.drew;have kD:Cl w3.drew w.heap.size [.bool true,.int .i64 n,.int .u64 r.d,.int .u64 r.v,.int .u64 r.c]:=kA3.kept rfl;have h5:=hD.trans (hb5.mono hD.size);have h6:=h5.trans (hb6.mono h5.size);have k6:=(kD.below hb5 kD.lt).below hb6 (kD.below hb5 kD.lt).lt;have q6:=k6.lt;exact ⟨w6.heap.size,rfl,⟨by omega,by omega⟩,Cl.new w6 _ _,k6.alloc _,h6.alloc h6.size _⟩
  case rest=>
    obtain ⟨S,rfl,⟨n1,n4⟩,kS,kR,hbx⟩:=hcut;have hgx:=st.below hbx;have sB:B<w.heap.size:=st.bl;have hmx:=ah (K:=(· =B)) hbx;obtain ⟨hE1,hE2,qG⟩:=hE.out;clear hps hhas hfit x0 x1 x2 x3 x4 y0 y1 y2;go_wp2_with fail;go_loopw [12] (fun iv wr=> ∃i:Nat,i≤n∧iv= .int .i64 i∧Cl wr S [.pointer (some ⟨P,0,none⟩),.bool true,.int .i64 n,.int .u64 r.d,.int .u64 r.v,.int .u64 r.c,.bool ev,.bool false,.bool true,.int .u64 20000,.int .i64 0,.bool true,.int .i64 0,.bool true,.int .i64 n,.slice none 0 0,.int .i64 0,.int .i64 0,.bool false,.int .i64 0,.int .u32 0,.bool false,.bool false,.bool false,.int .i64 0,.int .i64 0,.int .i64 0,.slice none 0 0,.slice none 0 0]∧Cl wr w.heap.size [.bool true,.int .i64 n,.int .u64 r.d,.int .u64 r.v,.int .u64 r.c]∧aV wr P L Bs B N (fun _=>0)∧Dw.Mv (· =B) w wr) (fun iv _=>n-(RowKit.intOf iv).toNat)
    case atStart=>exact ⟨0,yar _,rfl,kS,kR,hgx,hmx⟩
    case round=>
      obtain ⟨i,hi,rfl,qS,qR,qg,qm⟩:=hrel;have step: ∀ {wa wb:World} {a k:Nat},Cl wa S [.pointer (some ⟨P,0,none⟩),.bool true,.int .i64 n,.int .u64 r.d,.int .u64 r.v,.int .u64 r.c,.bool ev,.bool false,.bool true,.int .u64 20000,.int .i64 0,.bool true,.int .i64 0,.bool true,.int .i64 n,.slice none 0 0,.int .i64 0,.int .i64 0,.bool false,.int .i64 0,.int .u32 0,.bool false,.bool false,.bool false,.int .i64 0,.int .i64 0,.int .i64 0,.slice none 0 0,.slice none 0 0]→Cl wa w.heap.size [.bool true,.int .i64 n,.int .u64 r.d,.int .u64 r.v,.int .u64 r.c]→Dw.Mv (· =B) w wa→aV wb P L Bs B N (iK (fun _=>0) a k 0)→Mv (· =B) wa wb→Cl wb S [.pointer (some ⟨P,0,none⟩),.bool true,.int .i64 n,.int .u64 r.d,.int .u64 r.v,.int .u64 r.c,.bool ev,.bool false,.bool true,.int .u64 20000,.int .i64 0,.bool true,.int .i64 0,.bool true,.int .i64 n,.slice none 0 0,.int .i64 0,.int .i64 0,.bool false,.int .i64 0,.int .u32 0,.bool false,.bool false,.bool false,.int .i64 0,.int .i64 0,.int .i64 0,.slice none 0 0,.slice none 0 0]∧Cl wb w.heap.size [.bool true,.int .i64 n,.int .u64 r.d,.int .u64 r.v,.int .u64 r.c]∧aV wb P L Bs B N (fun _=>0)∧Dw.Mv (· =B) w wb:=fun {wa wb a k} q1 q3 q4 q5 q6=>
        ⟨q1.kept (q6.block S q1.lt (by show¬S=B;omega)),q3.kept (q6.block _ q3.lt (by show¬w.heap.size=B;omega)),(Jc a k)▸q5,q4.trans (zvk q6)⟩
      have r1:=qR.cell 1 _ rfl;by_cases hin:i<n
      · have hin':(i:Int)<n:=by omega
        obtain ⟨a,ha,ha2⟩: ∃a:Nat,(a:Int)=r.d+16*(i:Int)+14∧a+2≤N:=⟨(r.d+16*(i:Int)+14).toNat,by omega,by omega⟩;have e3:IntKind.wrap .u64 (r.d+16*(i:Int)+14)=(a:Int):=by rw [wrap_u64 _ (by omega) (by omega)];omega
        have hpl:=wV (qS.cell 3 _ rfl) (i:=i) (by omega) (by omega);have hst:=uS P L Bs B N a 2 0 _ _ qg hN (by decide) ha2;clear hE hE1 hE2 qG ha ha2 rC rD;go_wp2_with (first
          | (go_at_call 60;refine hpl.mono ?_;rintro e wA ⟨rfl,hw⟩;have hw:=hw.symm;subst hw)
          | (go_at_call 19;refine hst.mono ?_;rintro e wB ⟨rfl,hgB,jS⟩)
          | go_in)
        obtain ⟨p1,p3,p4,p5⟩:=step qS qR qm hgB jS;exact ⟨⟨i+1,by omega,by push_cast;rfl,p1,p3,p4,p5⟩,by simp only [RowKit.intOf];omega⟩
      · have hin': ¬(i:Int)<n:=by omega
        obtain ⟨a,ha,ha2⟩: ∃a:Nat,r.v=a∧a+4≤N:=⟨r.v.toNat,by omega,by omega⟩;obtain ⟨b,hb,hb2⟩: ∃b:Nat,r.c=b∧b+4≤N:=⟨r.c.toNat,by omega,by omega⟩;have hst:=uS P L Bs B N a 4 0 _ _ qg hN (by decide) ha2;have gy:=fun {wB:World} (hg:aV wB P L Bs B N (fun _=>0))=>uS P L Bs B N b 4 0 _ _ hg hN (by decide) hb2;have c3:wr.cell? ⟨w.heap.size,3,none⟩=some (.int .u64 a):=ha▸qR.cell 3 _ rfl;have c4: ∀ {wB:World},Cl wB w.heap.size [.bool true,.int .i64 n,.int .u64 r.d,.int .u64 r.v,.int .u64 r.c]→wB.cell? ⟨w.heap.size,4,none⟩=some (.int .u64 b):=fun q=>hb▸q.cell 4 _ rfl;clear hE hE1 hE2 qG ha hb ha2 hb2 hn2 rC rD;go_wp2_with (first
          | (go_at_call 19;have hz:=p1;refine (gy p4).mono ?_;rintro e wC ⟨rfl,yx,yC⟩;obtain ⟨o1,o3,o4,o5⟩:=step p1 p3 p5 yx yC)
          | (go_at_call 19;refine hst.mono ?_;rintro e wB ⟨rfl,hgB,jS⟩;obtain ⟨p1,p3,p4,p5⟩:=step qS qR qm hgB jS;have d4:=c4 p3)
          | go_in)
        go_ret2;exact ⟨S,rfl,n1,o1,o4,o5⟩
set_option maxRecDepth 100000 in
theorem Tryz.zv3 {w:World} {P L Bs B N:Nat} {r:Rg} {ev:Bool} (st:aV w P L Bs B N (fun _=>0)) (hr:gU r) (hN:N≤1048576) (hF:40000≤N):
    Calls prog 12 #[.pointer (some ⟨P,0,none⟩),r.fu,.agg #[.bool ev,.bool true,.bool true],.int .u64 20000] w fun e w'=> ∃S,e= .returned (.tuple #[.pointer (some ⟨S,0,none⟩),.int .i64 0])∧w.heap.size≤S∧Cl w' S (sZ ev true r P)∧aV w' P L Bs B N (fun _=>0)∧Dw.Mv (· =B) w w':=by
  have hn:=hr.bnd;have hd:=hr.d;have hv:=hr.v;have hc:=hr.c;obtain ⟨n,hrn⟩: ∃n:Nat,r.n=n:=⟨r.n.toNat,by omega⟩;have hn2:1≤n∧n≤16:=by omega
  have hps:=Iz 39 (.inr rfl);have hb2:=((yab w.heap.size w).alloc (yaa _) (Obj.cells #[.bool true,.int .i64 r.n,.int .u64 r.d,.int .u64 r.v,.int .u64 r.c] 30)).alloc (by simp) (Obj.cells #[.bool ev,.bool true,.bool true] 23);have kA:=(Cl.new w #[.bool true,.int .i64 r.n,.int .u64 r.d,.int .u64 r.v,.int .u64 r.c] 30).alloc (.cells #[.bool ev,.bool true,.bool true] 23);have kB:=Cl.new2 (w:=w.alloc (Obj.cells #[.bool true,.int .i64 r.n,.int .u64 r.d,.int .u64 r.v,.int .u64 r.c] 30)) (b:=w.heap.size+1) (arr:= #[.bool ev,.bool true,.bool true]) (t:=23) (by simp);have st2:=st.below hb2;have hfit:=Wi st2 hr hN hF;have hhas: ∀w',Below w.heap.size w w'→Calls prog 59 #[.pointer (some ⟨P,0,none⟩),.int .u64 20000,.int .u64 ((n:Int)*1024)] w' fun e w2=>e= .returned (.bool true)∧Below w'.heap.size w' w2:=fun w' hb=>by
    have:=I9 P L Bs B N 20000 ((n:Int)*1024) _ w' (st.below hb) hN (by omega) (by omega) (by omega) (by omega)
    rwa [yaH (show 1≤(n:Int)*1024∧20000+(n:Int)*1024≤(N:Int) by omega)] at this
  have rC:IntKind.wrap .u64 (n:Int)=n:=wrap_u64 _ (by omega) (by omega);have rD:IntKind.wrap .u64 ((n:Int)*1024)=(n:Int)*1024:=wrap_u64 _ (by omega) (by omega);unfold Rg.fu at hfit ⊢;rw [hrn] at kA kB hb2 st2 hfit;have hrow:sZ ev true r P= [.pointer (some ⟨P,0,none⟩),.bool true,.int .i64 n,.int .u64 r.d,.int .u64 r.v,.int .u64 r.c,.bool ev,.bool true,.bool true,.int .u64 20000,.int .i64 0,.bool true,.int .i64 0,.bool true,.int .i64 n,.slice none 0 0,.int .i64 0,.int .i64 0,.bool false,.int .i64 0,.int .u32 0,.bool false,.bool false,.bool false,.int .i64 0,.int .i64 0,.int .i64 0,.slice none 0 0,.slice none 0 0]:=by
    unfold sZ DS.aM DS.fresh;rw [hrn];rfl
  rw [hrow,hrn];have hE:Q8 (r.d=4096∧r.v=4096+16*(n:Int)∧r.c=4100+16*(n:Int)):=⟨hd,by omega,by omega⟩;clear hrow hn hd hv hc hr hrn;go_enter func12,ntmps12;go_wp2_with (first
    | (go_at_call 58;refine hfit.mono ?_;rintro e w3 ⟨rfl,hb3⟩;have jP:=hb2.trans (hb3.mono hb2.size);have kA3:=kA.below hb3 kA.lt;have kB3:=kB.below hb3 kB.lt;have x0:=kA3.cell 0 _ rfl;have x1:=kA3.cell 1 _ rfl;have x2:=kA3.cell 2 _ rfl;have x3:=kA3.cell 3 _ rfl;have x4:=kA3.cell 4 _ rfl;have y0:=kB3.cell 0 _ rfl;have y1:=kB3.cell 1 _ rfl;have y2:=kB3.cell 2 _ rfl)
    | (go_at_call 59;refine (hhas _ jP).mono ?_;rintro e w4 ⟨rfl,hb4⟩;have qN:=jP.trans (hb4.mono jP.size);have mP:=kA3.below hb4 kA3.lt;have sN:=kB3.below hb4 kB3.lt;have v0:=mP.cell 0 _ rfl;have v1:=mP.cell 1 _ rfl;have v2:=mP.cell 2 _ rfl;have v3:=mP.cell 3 _ rfl;have v4:=mP.cell 4 _ rfl;have u0:=sN.cell 0 _ rfl;have u1:=sN.cell 1 _ rfl;have u2:=sN.cell 2 _ rfl)
    | go_in)
  go_cut [11] from 45 to 54 (fun dv wx=> ∃S,dv= .pointer (some ⟨S,0,none⟩)∧(w.heap.size≤S∧S≠w.heap.size)∧Cl wx S [.pointer (some ⟨P,0,none⟩),.bool true,.int .i64 n,.int .u64 r.d,.int .u64 r.v,.int .u64 r.c,.bool ev,.bool true,.bool true,.int .u64 20000,.int .i64 0,.bool true,.int .i64 0,.bool true,.int .i64 n,.slice none 0 0,.int .i64 0,.int .i64 0,.bool false,.int .i64 0,.int .u32 0,.bool false,.bool false,.bool false,.int .i64 0,.int .i64 0,.int .i64 0,.slice none 0 0,.slice none 0 0]∧Cl wx w.heap.size [.bool true,.int .i64 n,.int .u64 r.d,.int .u64 r.v,.int .u64 r.c]∧Below w.heap.size w wx)
  case first=>
    go_region_held3 (fun w'=>w'.cell? ⟨w.heap.size,0,none⟩=some (.bool true)∧w'.cell? ⟨w.heap.size,1,none⟩=some (.int .i64 n)∧w'.cell? ⟨w.heap.size,2,none⟩=some (.int .u64 r.d)∧w'.cell? ⟨w.heap.size,3,none⟩=some (.int .u64 r.v)∧w'.cell? ⟨w.heap.size,4,none⟩=some (.int .u64 r.c)∧w'.cell? ⟨w.heap.size+1,0,none⟩=some (.bool ev)∧w'.cell? ⟨w.heap.size+1,1,none⟩=some (.bool true)∧w'.cell? ⟨w.heap.size+1,2,none⟩=some (.bool true)) (go_keep)
      (first
        | (go_at_call 39;have hz:=hb5;refine (hps _).mono ?_;rintro e w6 ⟨rfl,hb6⟩;have t0:w6.cell? ⟨w.heap.size,0,none⟩=some (.bool true):=bq hb6 (by go_keep);have t1:w6.cell? ⟨w.heap.size,1,none⟩=some (.int .i64 n):=bq hb6 (by go_keep);have t2:w6.cell? ⟨w.heap.size,2,none⟩=some (.int .u64 r.d):=bq hb6 (by go_keep);have t3:w6.cell? ⟨w.heap.size,3,none⟩=some (.int .u64 r.v):=bq hb6 (by go_keep);have t4:w6.cell? ⟨w.heap.size,4,none⟩=some (.int .u64 r.c):=bq hb6 (by go_keep);have t5:w6.cell? ⟨w.heap.size+1,0,none⟩=some (.bool ev):=bq hb6 (by go_keep);have t6:w6.cell? ⟨w.heap.size+1,1,none⟩=some (.bool true):=bq hb6 (by go_keep);have t7:w6.cell? ⟨w.heap.size+1,2,none⟩=some (.bool true):=bq hb6 (by go_keep))
        | (go_at_call 39;refine (hps _).mono ?_;rintro e w5 ⟨rfl,hb5⟩;have z0:w5.cell? ⟨w.heap.size,0,none⟩=some (.bool true):=bq hb5 (by go_keep);have z1:w5.cell? ⟨w.heap.size,1,none⟩=some (.int .i64 n):=bq hb5 (by go_keep);have z2:w5.cell? ⟨w.heap.size,2,none⟩=some (.int .u64 r.d):=bq hb5 (by go_keep);have z3:w5.cell? ⟨w.heap.size,3,none⟩=some (.int .u64 r.v):=bq hb5 (by go_keep);have z4:w5.cell? ⟨w.heap.size,4,none⟩=some (.int .u64 r.c):=bq hb5 (by go_keep);have z5:w5.cell? ⟨w.heap.size+1,0,none⟩=some (.bool ev):=bq hb5 (by go_keep);have z6:w5.cell? ⟨w.heap.size+1,1,none⟩=some (.bool true):=bq hb5 (by go_keep);have z7:w5.cell? ⟨w.heap.size+1,2,none⟩=some (.bool true):=bq hb5 (by go_keep)))
    all_goals (go_wp2_with fail)
    all_goals go_meet
    all_goals
      have hD:Below w.heap.size w w4.drew:=qN.drew;have kD:Cl w4.drew w.heap.size [.bool true,.int .i64 n,.int .u64 r.d,.int .u64 r.v,.int .u64 r.c]:=mP.kept rfl;have h5:=hD.trans (hb5.mono hD.size);have h6:=h5.trans (hb6.mono h5.size);have k6:=(kD.below hb5 kD.lt).below hb6 (kD.below hb5 kD.lt).lt;have q6:=k6.lt;exact ⟨w6.heap.size,rfl,⟨by omega,by omega⟩,Cl.new w6 _ _,k6.alloc _,h6.alloc h6.size _⟩
  case rest=>
    obtain ⟨S,rfl,⟨n1,n4⟩,kS,kR,hbx⟩:=hcut;have hgx:=st.below hbx;have sB:B<w.heap.size:=st.bl;have hmx:=ah (K:=(· =B)) hbx;obtain ⟨hE1,hE2,qG⟩:=hE.out;clear hps hhas hfit x0 x1 x2 x3 x4 y0 y1 y2 v0 v1 v2 v3 v4 u0 u1 u2;go_wp2_with fail;go_loopw [12] (fun iv wr=> ∃i:Nat,i≤n∧iv= .int .i64 i∧Cl wr S [.pointer (some ⟨P,0,none⟩),.bool true,.int .i64 n,.int .u64 r.d,.int .u64 r.v,.int .u64 r.c,.bool ev,.bool true,.bool true,.int .u64 20000,.int .i64 0,.bool true,.int .i64 0,.bool true,.int .i64 n,.slice none 0 0,.int .i64 0,.int .i64 0,.bool false,.int .i64 0,.int .u32 0,.bool false,.bool false,.bool false,.int .i64 0,.int .i64 0,.int .i64 0,.slice none 0 0,.slice none 0 0]∧Cl wr w.heap.size [.bool true,.int .i64 n,.int .u64 r.d,.int .u64 r.v,.int .u64 r.c]∧aV wr P L Bs B N (fun _=>0)∧Dw.Mv (· =B) w wr) (fun iv _=>n-(RowKit.intOf iv).toNat)
    case atStart=>exact ⟨0,yar _,rfl,kS,kR,hgx,hmx⟩
    case round=>
      obtain ⟨i,hi,rfl,qS,qR,qg,qm⟩:=hrel;have step: ∀ {wa wb:World} {a k:Nat},Cl wa S [.pointer (some ⟨P,0,none⟩),.bool true,.int .i64 n,.int .u64 r.d,.int .u64 r.v,.int .u64 r.c,.bool ev,.bool true,.bool true,.int .u64 20000,.int .i64 0,.bool true,.int .i64 0,.bool true,.int .i64 n,.slice none 0 0,.int .i64 0,.int .i64 0,.bool false,.int .i64 0,.int .u32 0,.bool false,.bool false,.bool false,.int .i64 0,.int .i64 0,.int .i64 0,.slice none 0 0,.slice none 0 0]→Cl wa w.heap.size [.bool true,.int .i64 n,.int .u64 r.d,.int .u64 r.v,.int .u64 r.c]→Dw.Mv (· =B) w wa→aV wb P L Bs B N (iK (fun _=>0) a k 0)→Mv (· =B) wa wb→Cl wb S [.pointer (some ⟨P,0,none⟩),.bool true,.int .i64 n,.int .u64 r.d,.int .u64 r.v,.int .u64 r.c,.bool ev,.bool true,.bool true,.int .u64 20000,.int .i64 0,.bool true,.int .i64 0,.bool true,.int .i64 n,.slice none 0 0,.int .i64 0,.int .i64 0,.bool false,.int .i64 0,.int .u32 0,.bool false,.bool false,.bool false,.int .i64 0,.int .i64 0,.int .i64 0,.slice none 0 0,.slice none 0 0]∧Cl wb w.heap.size [.bool true,.int .i64 n,.int .u64 r.d,.int .u64 r.v,.int .u64 r.c]∧aV wb P L Bs B N (fun _=>0)∧Dw.Mv (· =B) w wb:=fun {wa wb a k} q1 q3 q4 q5 q6=>
        ⟨q1.kept (q6.block S q1.lt (by show¬S=B;omega)),q3.kept (q6.block _ q3.lt (by show¬w.heap.size=B;omega)),(Jc a k)▸q5,q4.trans (zvk q6)⟩
      have r1:=qR.cell 1 _ rfl;by_cases hin:i<n
      · have hin':(i:Int)<n:=by omega
        obtain ⟨a,ha,ha2⟩: ∃a:Nat,(a:Int)=r.d+16*(i:Int)+14∧a+2≤N:=⟨(r.d+16*(i:Int)+14).toNat,by omega,by omega⟩;have e3:IntKind.wrap .u64 (r.d+16*(i:Int)+14)=(a:Int):=by rw [wrap_u64 _ (by omega) (by omega)];omega
        have hpl:=wV (qS.cell 3 _ rfl) (i:=i) (by omega) (by omega);have hst:=uS P L Bs B N a 2 0 _ _ qg hN (by decide) ha2;clear hE hE1 hE2 qG ha ha2 rC rD;go_wp2_with (first
          | (go_at_call 60;refine hpl.mono ?_;rintro e wA ⟨rfl,hw⟩;have hw:=hw.symm;subst hw)
          | (go_at_call 19;refine hst.mono ?_;rintro e wB ⟨rfl,hgB,jS⟩)
          | go_in)
        obtain ⟨p1,p3,p4,p5⟩:=step qS qR qm hgB jS;exact ⟨⟨i+1,by omega,by push_cast;rfl,p1,p3,p4,p5⟩,by simp only [RowKit.intOf];omega⟩
      · have hin': ¬(i:Int)<n:=by omega
        obtain ⟨a,ha,ha2⟩: ∃a:Nat,r.v=a∧a+4≤N:=⟨r.v.toNat,by omega,by omega⟩;obtain ⟨b,hb,hb2⟩: ∃b:Nat,r.c=b∧b+4≤N:=⟨r.c.toNat,by omega,by omega⟩;have hst:=uS P L Bs B N a 4 0 _ _ qg hN (by decide) ha2;have gy:=fun {wB:World} (hg:aV wB P L Bs B N (fun _=>0))=>uS P L Bs B N b 4 0 _ _ hg hN (by decide) hb2;have c3:wr.cell? ⟨w.heap.size,3,none⟩=some (.int .u64 a):=ha▸qR.cell 3 _ rfl;have c4: ∀ {wB:World},Cl wB w.heap.size [.bool true,.int .i64 n,.int .u64 r.d,.int .u64 r.v,.int .u64 r.c]→wB.cell? ⟨w.heap.size,4,none⟩=some (.int .u64 b):=fun q=>hb▸q.cell 4 _ rfl;clear hE hE1 hE2 qG ha hb ha2 hb2 hn2 rC rD;go_wp2_with (first
          | (go_at_call 19;have hz:=p1;refine (gy p4).mono ?_;rintro e wC ⟨rfl,yx,yC⟩;obtain ⟨o1,o3,o4,o5⟩:=step p1 p3 p5 yx yC)
          | (go_at_call 19;refine hst.mono ?_;rintro e wB ⟨rfl,hgB,jS⟩;obtain ⟨p1,p3,p4,p5⟩:=step qS qR qm hgB jS;have d4:=c4 p3)
          | go_in)
        go_ret2;exact ⟨S,rfl,n1,o1,o4,o5⟩
theorem Tryz.zv6 {w:World} {P L Bs B N:Nat} {r:Rg} {ev tb:Bool} (st:aV w P L Bs B N (fun _=>0)) (hr:gU r) (hN:N≤1048576) (hF:40000≤N):
  Calls prog 12 #[.pointer (some ⟨P,0,none⟩),r.fu,.agg #[.bool ev,.bool tb,.bool true],.int .u64 20000] w fun e w'=> ∃S,e= .returned (.tuple #[.pointer (some ⟨S,0,none⟩),.int .i64 0])∧w.heap.size≤S∧Cl w' S (sZ ev tb r P)∧aV w' P L Bs B N (fun _=>0)∧Dw.Mv (· =B) w w':=by
 cases tb
 ·exact zv5 st hr hN hF
 ·exact zv3 st hr hN hF
set_option maxRecDepth 100000 in
theorem Tryz.zv4 {w:World} {P:Nat} {r:Rg} {ev tb:Bool}:
  Calls prog 12 #[.pointer (some ⟨P,0,none⟩),r.fu,.agg #[.bool ev,.bool tb,.bool false],.int .u64 20000] w fun e w'=>e= .returned (.tuple #[.pointer none,.int .i64 2])∧Below w.heap.size w w':=by
 have hb:=((yab w.heap.size w).alloc (yaa _) (Obj.cells #[.bool true,.int .i64 r.n,.int .u64 r.d,.int .u64 r.v,.int .u64 r.c] 30)).alloc (by simp) (Obj.cells #[.bool ev,.bool tb,.bool false] 23);unfold Rg.fu;go_enter func12,ntmps12;go_wp2_with fail;go_ret2;exact ⟨rfl,hb⟩
section
variable {A:Nat→Prop} {w:World} {S P L Bs B M N:Nat} {r:Tryz.Rg} {s:Tryz.PS} {g:Nat→Int}
end
end Go.Proofs
namespace Go.Proofs
open Go.Dw Go.RowKit Go.Maps Go.Sort Go.Deep
def Tryz.iP (x:Int):List Int→Nat
 | [] => 0
 | y::r=>if y<x then iP x r+1 else 0
theorem Tryz.Zu (x:Int): ∀l:List Int,iP x l≤l.length
 | [] => yaa _
 | y::r=>by
  unfold iP;split
  ·have:=Zu x r;simp only [yaX];omega
  ·exact yar _
theorem Tryz.Zt {x:Int}: ∀ {l:List Int} {k:Nat} (h:k<iP x l) (hl:k<l.length),l[k]<x
 | [], _,_,hl=>by simp at hl
 | y::r,0,h,_=>by
  unfold iP at h;split at h
  ·assumption
  ·omega
 | y::r,k+1,h,hl=>by
  unfold iP at h;split at h
  ·simpa using Zt (l:=r) (k:=k) (by omega) (by simpa using hl)
  ·omega
theorem Tryz.Zv {x:Int}: ∀ {l:List Int} (hl:iP x l<l.length),¬l[iP x l]<x
 | [], hl=>by simp at hl
 | y::r,hl=>by
  by_cases h:y<x
  ·have e:iP x (y::r)=iP x r+1:=by
    show (if y<x then iP x r+1 else 0)=_;rw [yak h]
   simp only [e,ycp];exact Zv (l:=r) (by rw [e] at hl;simpa using hl)
  ·have e:iP x (y::r)=0:=by
    show (if y<x then iP x r+1 else 0)=_;rw [yah h]
   simp only [e,List.getElem_cons_zero];exact h
def Tryz.mO (x:Int) (l:List Int):List Int:=l.take (iP x l)++(x::l.drop (iP x l))
theorem Tryz.Xy (x:Int) (l:List Int):(mO x l).Perm (x::l):=by
 unfold mO;refine List.perm_middle.trans ?_;rw [yct]
theorem Tryz.U7 {x:Int}: ∀ {l:List Int},l.Pairwise (fun a b=>a≤b)→(mO x l).Pairwise fun a b=>a≤b
 | [], _=>by simp [mO,iP]
 | y::r,h=>by
  by_cases hy:y<x
  ·have e:mO x (y::r)=y::mO x r:=by
    unfold mO;show (y::r).take (if y<x then iP x r+1 else 0)++(x::(y::r).drop (if y<x then iP x r+1 else 0))=_;rw [yak hy];rfl
   rw [e,yb5];rw [yb5] at h;refine ⟨fun b hb=> ?_,U7 h.2⟩;rcases yaj.1 ((Xy x r).subset hb) with q|q
   ·rw [q];exact Int.le_of_lt hy
   ·exact h.1 b q
  ·have e:mO x (y::r)=x::y::r:=by
    unfold mO;show (y::r).take (if y<x then iP x r+1 else 0)++(x::(y::r).drop (if y<x then iP x r+1 else 0))=_;rw [yah hy];rfl
   rw [e,yb5];refine ⟨fun b hb=> ?_,h⟩;rw [yb5] at h;rcases yaj.1 hb with q|q
   ·rw [q];omega
   ·have:=h.1 b q;omega
end Go.Proofs
namespace Go.Proofs
open Go.Dw Go.RowKit Go.Maps Go.Sort
section
variable {σ:Type} {O:Tryz.Ob σ} {X:Nat→Prop} {bX:Nat} {ρ:Val} {w0:World} {K:Nat→Prop} {b2:Nat} {sk:Nat→σ} {rows ap:Nat→List Tryz.pE}
end
end Go.Proofs
namespace Go.Proofs
open Go.Dw Go.RowKit Go.Maps Go.Sort
section
variable {σ:Type} {O:Tryz.Ob σ} {X:Nat→Prop} {bX:Nat} {ρ:Val} {w0:World} {K:Nat→Prop} {b2:Nat} {sk:Nat→σ} {rows:Nat→List Tryz.pE} {f:FuncId} {args:List AV} {res:AV} {k k':Nat}
end
section
variable {ρ:Val} {w0:World} {K:Nat→Prop} {X:Nat→Prop} {bX:Nat} {S P L Bs B M N:Nat} {r:Tryz.Rg} {b2:Nat} {sk:Nat→Tryz.PS×(Nat→Int)} {rows:Nat→List Tryz.pE} {k k' q:Nat}
end
end Go.Proofs
namespace Go.Proofs
open Go.Dw Go.RowKit Go.Maps Go.Sort
structure Tryz.TpV where
 r:Rg
 nl:Int
 nh:Int
 i:Int
 nb:Int
 spare:Int
 na:Int
 nw:Bool
 na2:Int
 nw2:Bool
 need:Int
 la:Int
 ll:Int
 lw:Bool
 good:Bool
 mem:Value
 sv:Value
 srv:Value
 abG:Value
 hds:Value
 cts:Value
 wrs:Value
 ord:Value
 giv:Value
 usd:Value
section
variable {ρ:Val} {m:Tryz.TpV}
end
section
variable {W0:World} {H4 X13 Q9 X16 S P L Bs B M:Nat} {r:Tryz.Rg} {av ov gv:Value} {ls:List (List Tryz.Sg)} {s:Tryz.PS×(Nat→Int)} {bs:List (List Tryz.Sg)} {spare:Int} {vh vc vb:Value} {i:Nat} {a:Act} {w:World}
end
end Go.Proofs
namespace Go.Proofs
open Go.Dw Go.RowKit Go.Maps Go.Sort
section
variable {W0:World} {H4 X13 Q9 X16 S P L Bs B M:Nat} {r:Tryz.Rg} {av ov gv:Value} {ls:List (List Tryz.Sg)} {s:Tryz.PS×(Nat→Int)} {bs:List (List Tryz.Sg)} {spare:Int} {vh vc vb:Value} {i:Nat} {a:Act} {w:World}
end
end Go.Proofs
namespace Go.Proofs
open Go.Dw Go.RowKit Go.Maps Go.Sort
section
variable {ρ:Val} {w0:World} {K:Nat→Prop} {X:Nat→Prop} {bX:Nat} {S P L Bs B M N:Nat} {r:Tryz.Rg} {b2:Nat} {sk:Nat→Tryz.PS×(Nat→Int)} {rows:Nat→List Tryz.pE} {k k' q:Nat}
end
end Go.Proofs
namespace Go.Proofs
theorem Tryz.OL {n:Nat} (l:List Value) (h:l.length=n):(⟨l⟩:Array Value)=((List.range n).map fun i=>(⟨l⟩:Array Value).getD i undef).toArray:=by
 refine yck ?_;refine ycU fun i=> ?_;simp only [ybf];by_cases hi:i<n
 ·rw [yai (by omega:i<l.length),ycI hi];simp [yav,h,hi]
 ·rw [yaT (by omega),yaT (by simp;omega)];rfl
open Go.Dw Go.RowKit Go.Maps Go.Sort Go.Deep
theorem Tryz.zpl {P0:Program} {w:World} {ops:Array Oper} {o:Oper} {a:Act} {K:Act→World→Prop} {Q:Exit→Act→World→Prop} {E:Prop} (hgd:o.guard=none) (s x:Operand) (t:TypeId)
  (ho:o.op= .call { callee:= .builtin .append,args:= #[s,x],argTypes:= #[t,t] }) (v vx:Value) (hs:a.eval s=v) (hx:a.eval x=vx) {v':Value} {w':World}
  (hr:(Builtin.append_ #[t,t] o.type #[v,vx]).run P0 w= .ok v' w') (h:K (a.put o.dst v') w'):
  if Region.wanted o (yielded ops a.tmps)=true then Oper.wp P0 o a w K Q else E:=by
 have hw:Region.wanted o (yielded ops a.tmps)=true:=by simp [Region.wanted,hgd]
 rw [yak hw];unfold Oper.wp execOp;simp only [ho,resolve,invoke,builtin,yad,yag,yac,List.map_toArray,yaU,ybM,hs,hx,hr];exact h
theorem Tryz.af.take {t:TypeId} {sz n c:Nat} {w:World} {b2:Nat} {sa:Option Addr} {cs:List Value} (h:af t sz w b2 (.slice sa n c) n cs) {k:Nat} (hk:k≤n) (hn:0<n):af t sz w b2 (.slice sa k c) k (cs.take (k*sz)):=by
 obtain ⟨h1,h2⟩:=h;rcases h2 with ⟨h2,h3⟩|⟨g,cap,cur,e,h3,h4,h5,h6,h7,h8⟩
 ·omega
 ·cases e;refine ⟨by rw [ya1,h1];exact ydG (ya9 _ hk),.inr ⟨g,c,cur,rfl,h3,h4,by omega,h6,h7,?_⟩⟩;rw [←h8,List.take_take,ydG (ya9 _ hk)]
theorem Tryz.Pq (w:World) (t:TypeId) (x:Value):((w.alloc (Obj.cells #[x] t)).drew).ownsRow w.heap.size t 1 (.slice (some ⟨w.heap.size,0,none⟩) 1 1) 1 [x]:=
 ⟨rfl,.inr ⟨_,1,_,rfl,yaa _,ydh w _,yaa _,by unfold maxLen;decide,rfl,rfl⟩⟩
structure Tryz.FR (w wr:World) (G cl:Nat) (tl:TypeId) (l:List Int):Prop where
 own:af tl 1 wr w.heap.size (.slice (some ⟨G,0,none⟩) l.length cl) l.length (bA l)
 A8:wr.rangeAt G 0 (bA l)
 lo:w.heap.size≤G
 hi:G<wr.heap.size
 cap:l.length≤cl
 ne:0<l.length
set_option maxRecDepth 100000 in
theorem Tryz.zwG (w:World) (x:Value) {t:TypeId}:(Builtin.append_ #[82,82] 82 #[.slice (some ⟨w.heap.size,0,none⟩) 1 1,.slice none 0 0]).run prog ((w.alloc (Obj.cells #[x] t)).drew)= .ok (.slice (some ⟨w.heap.size,0,none⟩) 1 1) ((w.alloc (Obj.cells #[x] t)).drew):=by
 obtain ⟨i0,hi0,j1,j2,j3⟩:=yba QT;have hU:prog.underlying 82=some (.slice 3):=by kernel_rfl
 simp [Builtin.append_,run_underlying hU,sizeOf,typeInfo,hi0,Builtin.lenOf,Builtin.firstCells,storeCells]
def Tryz.nU (L:List DO):List Int:=L.foldl (fun l e=>mO e.tk l) []
theorem Tryz.zpu (L:List DO) (e:DO):nU (L++ [e])=mO e.tk (nU L):=by simp [nU]
theorem Tryz.zpt {L:List DO} {k:Nat} (hk:k<L.length):nU (L.take (k+1))=mO L[k].tk (nU (L.take k)):=by
 rw [ybv hk,zpu]
theorem Tryz.Nz: ∀(L:List DO) (l:List Int),(L.foldl (fun l e=>mO e.tk l) l).Perm (L.map (·.tk)++l)
 | [], l=>List.Perm.refl _
 | e::r,l=>by
  refine (Nz r (mO e.tk l)).trans ?_;refine (List.Perm.append_left _ (Xy e.tk l)).trans ?_;simp
theorem Tryz.Uv: ∀(L:List DO) {l:List Int},l.Pairwise (fun a b=>a≤b)→(L.foldl (fun l e=>mO e.tk l) l).Pairwise fun a b=>a≤b
 | [], _,h=>h
 | _::r,_,h=>Uv r (U7 h)
theorem Tryz.zqL (L:List DO):(nU L).length=L.length:=by
 have:=(Nz L []).length_eq;simpa [nU] using this
def Tryz.DS.outs (s:DS):List Int:=(s.L.map (·.tk)).mergeSort leI
theorem Tryz.Yv (s:DS):nU s.L=s.outs:=by
 unfold DS.outs;have h1:(s.L.map (·.tk)).Perm (nU s.L):=by simpa [nU] using (Nz s.L []).symm
 rw [mergeSort_of_perm_i h1];refine (List.mergeSort_of_pairwise ?_).symm;exact (Uv s.L List.Pairwise.nil).imp fun h=>by simpa [leI] using h
set_option maxRecDepth 100000 in
theorem Tryz.zxL {A:Nat→Prop} {w:World} {S P L Bs B N b2:Nat} {r:Rg} {s:DS} {g:Nat→Int} {lv:Value} (h:YW A w S P L Bs B N b2 r s g lv) (hl:s.L.length≤100000):
    Calls prog 31 #[.pointer (some ⟨S,0,none⟩)] w fun e w'=> ∃(v:Value) (t:TypeId),e= .returned v∧af t 1 w' w.heap.size v s.L.length (bA (nU s.L))∧Below w.heap.size w w':=by
  obtain ⟨au,aj,q1,q2,q3⟩:=h.obj;have c13:=q1.cell 15 _ rfl;obtain ⟨ty,hrow⟩:=h.row;obtain ⟨sa,c,hlv,fO⟩:=af.row hrow;rw [hlv] at c13;have hcell: ∀(j:Nat) (hj:j<s.L.length),∃G,sa=some ⟨G,0,none⟩∧G<w.heap.size∧w.cell? ⟨G,j*3+1,none⟩=some (.int .i64 s.L[j].tk):=fun j hj=>by
    rcases fO with hr|⟨G,hsa,iT,hr⟩
    · have:=yaB List.length hr;rw [oK s.L] at this;simp only [ybm] at this;omega
    · refine ⟨G,hsa,(hrow.lt G iT).2,?_⟩;have e1:=hr _ _ (uV s.L j hj).2.1;rw [yaf] at e1;exact e1
  have hS:=q1.lt;obtain ⟨Sz,hSz⟩: ∃n,n=s.L.length:=⟨_,rfl⟩;clear q2 q3 fO hrow;have pK:True:=trivial;clear hS hSz;go_enter func31,ntmps31;go_wp2_with fail;go_loopw [3,4] (fun v y wr=> ∃(i:Nat) (l:List Int) (t:TypeId),i≤s.L.length∧y= .int .i64 i∧l.length=i∧af t 1 wr w.heap.size v l.length (bA l)∧l=nU (s.L.take i)∧(l= []→v= .slice none 0 0)∧Below w.heap.size w wr) (fun _ y _=>s.L.length-(RowKit.intOf y).toNat)
  case atStart=>exact ⟨0,[],3,yar _,rfl,rfl,af.nil _ _ _ _,by simp [nU],fun _=>rfl,yab _ _⟩
  case round=>
    obtain ⟨i,l,tl,hi,rfl,hll,hown,hlr,hnil,hb⟩:=hrel;subst hll;have y13:=(hb.cell (p:=⟨S,15,none⟩) q1.lt).trans c13;by_cases hil:l.length<s.L.length
    · have Gr:(l.length:Int)<s.L.length:=by omega
      obtain ⟨Gk,hsa,r9,LH⟩:=hcell l.length hil;have Si:=(hb.cell (p:=⟨Gk,l.length*3+1,none⟩) r9).trans LH;have Di:=zpt hil;rw [←hlr] at Di;obtain ⟨x,hx⟩: ∃x,x=s.L[l.length].tk:=⟨_,rfl⟩;rw [←hx] at LH Si Di;rw [hsa] at y13;obtain ⟨sl,cl,rfl,hrl⟩:=af.row hown;clear hlr hx;go_wp2_with fail;go_loopw [5] (fun z wq=> ∃k:Nat,k≤iP x l∧z= .int .i64 k∧af tl 1 wq w.heap.size (.slice sl l.length cl) l.length (bA l)∧Below w.heap.size w wq) (fun z _=>l.length-(RowKit.intOf z).toNat)
      case atStart=>exact ⟨0,yar _,rfl,hown,hb⟩
      case round=>
        obtain ⟨k,hk,rfl,hown1,hb1⟩:=hrel;have wR:=(hb1.cell (p:=⟨S,15,none⟩) q1.lt).trans (hsa▸c13);have zk:=(hb1.cell (p:=⟨Gk,l.length*3+1,none⟩) r9).trans LH;have hnl:=Zu x l;have hii:(l.length:Int)<s.L.length:=Gr;clear y13 Si c13 hcell;by_cases hkn:k<iP x l
        · have hkl:k<l.length:=by omega
          have hkl':(k:Int)<l.length:=by omega
          have hlt:=Zt hkn hkl;obtain ⟨_,c1,e1,hr1⟩:=af.row hown1;cases e1;rcases hr1 with hr1|⟨G,rfl,iT,hr1⟩
          · have:=yaB List.length hr1;simp [bA] at this;exact absurd this (by intro q;rw [q] at hkl;simp at hkl)
          have hcl:=af.cap hown1 (by omega);have Sj:wr.cell? ⟨G,k,none⟩=some (.int .i64 l[k]):=by
            have:=hr1 k (.int .i64 l[k]) (by simp [bA,hkl])
            rwa [yaf] at this
          generalize hy:l[k]=y at Sj hlt;clear hy hr1 Di;go_wp2_with fail;go_quiet (fail);go_wp2;exact ⟨⟨k+1,by omega,by push_cast;rfl,hown1.kept fun _ _=>rfl,below_drewN hb1 _⟩,by simp only [RowKit.intOf];omega⟩
        · have hke:k=iP x l:=by omega
          have hex:(k<l.length∧ ∃(G:Nat) (y:Int),sl=some ⟨G,0,none⟩∧wr.cell? ⟨G,k,none⟩=some (.int .i64 y)∧ ¬y<x)∨ ¬k<l.length:=by
            by_cases hkl:k<l.length
            · refine .inl ⟨hkl,?_⟩;obtain ⟨_,c1,e1,hr1⟩:=af.row hown1;cases e1;rcases hr1 with hr1|⟨G,rfl,iT,hr1⟩
              · have:=yaB List.length hr1;simp [bA] at this;exact absurd this (by intro q;rw [q] at hkl;simp at hkl)
              · refine ⟨G,l[k],rfl,?_,?_⟩
                · have:=hr1 k (.int .i64 l[k]) (by simp [bA,hkl])
                  rwa [yaf] at this
                · subst hke;exact Zv hkl
            · exact .inr hkl
          have Gy:nU (s.L.take (l.length+1))=l.take k++(x::l.drop k):=by rw [Di,hke];rfl
          clear hkn Di hke;have Lb:l≠ []→ ∃G,sl=some ⟨G,0,none⟩∧w.heap.size≤G∧G<wr.heap.size∧l.length≤cl∧wr.rangeAt G 0 (bA l):=fun hne=>by
            have hpos:0<l.length:=ybw.2 hne;have hcl:=af.cap hown1 hpos;obtain ⟨_,c1,e1,hr1⟩:=af.row hown1;cases e1;rcases hr1 with hr1|⟨G,rfl,iT,hr1⟩
            · have:=yaB List.length hr1;simp [bA] at this;exact absurd this hne
            · exact ⟨G,rfl,(hown1.lt G iT).1,(hown1.lt G iT).2,hcl,hr1⟩
          obtain ⟨i0,hi0,j1,j2,j3⟩:=yba QT;have hU:prog.underlying 82=some (.slice 3):=by kernel_rfl
          have hone: ∀u∈bA l,u.oneCell'=true:=fun u hu=>by
            obtain ⟨x,_,rfl⟩:=yaY.1 hu;rfl
          have hSw:=q1.lt;by_cases hl0:l= []
          · have hv:=hnil hl0;have hkz:k=0:=by rw [hl0] at hnl hk;simp at hnl hk;omega
            subst hl0;subst hkz;cases hv;clear hex Lb hnil hone hnl;have hkl: ¬0<([]:List Int).length:=by simp
            go_wp2_with fail;go_quiet (fail);go_wp2_with fail;have eT:=below_drewN hb1 nq;have y13:(wr.drewN nq).cell? ⟨S,15,none⟩=_:=wR;have yk:(wr.drewN nq).cell? ⟨Gk,1,none⟩=_:=zk;generalize wr.drewN nq=w8 at eT y13 yk ⊢;have hrun:=zwG w8 (.int .i64 x) (t:=3);have hba:=(yab w8.heap.size w8).alloc (yaa _) (Obj.cells #[.int .i64 x] 3);have hbb:=eT.trans (hba.mono eT.size);have xU:=(hba.cell (p:=⟨S,15,none⟩) (yae hSw eT.size)).trans y13;have ak:=(hba.cell (p:=⟨Gk,1,none⟩) (yae r9 eT.size)).trans yk;have hnew:=ydh w8 (Obj.cells #[.int .i64 x] 3);have sj:S<((w8.alloc (Obj.cells #[.int .i64 x] 3)).drew).heap.size:=yae hSw hbb.size;have si:Gk<((w8.alloc (Obj.cells #[.int .i64 x] 3)).drew).heap.size:=yae r9 hbb.size;have hws:=eT.size;have hz0:(0:Int)<(s.L.length:Int):=by
              have q:=hil;simp only [ybm] at q;omega
            have hz1:0<s.L.length:=by omega
            have hz2: ¬s.L= []:=fun q=>by rw [q] at hz1;simp at hz1
            have hz3:(0:Int)≤((0:Nat):Int):=by decide
            have hz4:((0:Nat):Int)<(s.L.length:Int):=by omega
            go_region_held3 (fun w'=>w'.cell? ⟨S,15,none⟩=some (.slice (some ⟨Gk,0,none⟩) s.L.length c)∧w'.cell? ⟨Gk,1,none⟩=some (.int .i64 x)) (go_keep)
              ((first
                | (refine zpl (by rfl) _ _ 82 (by rfl) _ _ (by rfl) (by rfl) hrun ?_)
                | (refine nR (P0:=prog) (by rfl) _ _ _ (by rfl) w.heap.size 3 3 i0 _ 1 8 hU hi0 j1 j2 j3 rfl (by decide) (.slice none 0 0) 0 [] (by rfl) (af.nil _ _ _ _) (some ⟨w8.heap.size,0,none⟩) ⟨w8.heap.size,0,none⟩ rfl 1 1 [.int .i64 x] (by rfl) rfl
                     (fun j u hu=>by rw [Dw.addr_add,yaf];cases j with|zero=>(cases hu;exact ydm _ _ 0 _ _ (0,0) hnew)|succ j=>simp at hu) (fun u hu=>by rw [yaI.1 hu];rfl) (by unfold maxLen;decide) (by decide) (by simp;omega) ?_
                   intro v2 wb t2 hown2 hgrow2 Gj;have hSb:=hgrow2.block S sj (fun e=>by cases e);have ug:=hgrow2.block Gk si (fun e=>by cases e);have b13:=(yal (a:=⟨S,15,none⟩) hSb).trans xU;have bk:=(yal (a:=⟨Gk,1,none⟩) ug).trans ak)))
            all_goals (go_wp2_with fail)
            all_goals
              have hbw:Below w.heap.size w wb:=hbb.trans ⟨hgrow2.os,hgrow2.tape,hgrow2.output,hgrow2.size,fun b hb=>hgrow2.block b (by have:=hbb.size;simp at this ⊢;omega) (fun e=>by cases e)⟩;refine ⟨⟨1,[x],t2,Nat.succ_le_of_lt (by simpa using hil),rfl,rfl,?_,?_,(fun e=>by cases e),hbw⟩,by simp only [RowKit.intOf];simp at hil ⊢;omega⟩
              · unfold af;simpa [bA] using hown2
              · simpa using Gy.symm
          · obtain ⟨G,rfl,hG1,hG2,hcl,Ru⟩:=Lb hl0;have d1:(k:Int)≤(cl:Int):=by omega
            have d2:(l.length:Int)≤(cl:Int):=by omega
            have d3:(0:Int)≤(k:Int):=by omega
            have d4:(k:Int)≤(l.length:Int):=by omega
            have hd:FR w wr G cl tl l:=⟨hown1,Ru,hG1,hG2,hcl,ybw.2 hl0⟩;clear hnil Lb hcl hG1 hG2 Ru hl0 hone hown1;have aaI:(¬cl=k∧k<l.length∧ ∃(G':Nat) (y:Int),some (⟨G,0,none⟩:Addr)=some ⟨G',0,none⟩∧wr.cell? ⟨G',k,none⟩=some (.int .i64 y)∧ ¬y<x)∨(¬cl=k∧ ¬k<l.length)∨(k=l.length∧cl=l.length):=by
              have:=hd.cap;rcases hex with q|q
              · exact .inl ⟨by have:=q.1;omega,q⟩
              · by_cases hck:cl=k
                · exact .inr (.inr ⟨by omega,by omega⟩)
                · exact .inr (.inl ⟨hck,q⟩)
            clear hex;rcases aaI with ⟨hck,hkl,G',y,e,Sj,hlt⟩|⟨hck,hkl⟩|⟨rfl,rfl⟩
            · cases e;have hkl':(k:Int)<l.length:=by omega
              go_wp2_with fail;go_quiet (fail);go_wp2_with fail;have eT:=below_drewN hb1 nq;have y13:(wr.drewN nq).cell? ⟨S,15,none⟩=_:=wR;have yk:(wr.drewN nq).cell? ⟨Gk,l.length*3+1,none⟩=_:=zk;have dL:FR w (wr.drewN nq) G cl tl l:=⟨hd.own.kept fun _ _=>rfl,hd.A8,hd.lo,hd.hi,hd.cap,hd.ne⟩;generalize wr.drewN nq=w8 at eT y13 yk dL ⊢;have hba:=(yab w8.heap.size w8).alloc (yaa _) (Obj.cells #[.int .i64 x] 3);have hbb:=eT.trans (hba.mono eT.size);have xU:=(hba.cell (p:=⟨S,15,none⟩) (yae hSw eT.size)).trans y13;have ak:=(hba.cell (p:=⟨Gk,l.length*3+1,none⟩) (yae r9 eT.size)).trans yk;have sj:S<((w8.alloc (Obj.cells #[.int .i64 x] 3)).drew).heap.size:=yae hSw hbb.size;have si:Gk<((w8.alloc (Obj.cells #[.int .i64 x] 3)).drew).heap.size:=yae r9 hbb.size;have hws:=eT.size;have yc:G<((w8.alloc (Obj.cells #[.int .i64 x] 3)).drew).heap.size:=yae dL.hi hba.size;have vU:((w8.alloc (Obj.cells #[.int .i64 x] 3)).drew).rangeAt G 0 (bA l):=aX dL.A8 (hba.block G dL.hi);have Dq:af tl 1 ((w8.alloc (Obj.cells #[.int .i64 x] 3)).drew) w.heap.size (.slice (some ⟨G,0,none⟩) l.length cl) l.length (bA l):=dL.own.kept fun b e=>by cases e;exact hba.block G dL.hi
              have CJ:=Pq w8 3 (.int .i64 x);have hone: ∀u∈bA l,u.oneCell'=true:=fun u hu=>by
                obtain ⟨x,_,rfl⟩:=yaY.1 hu;rfl
              have yB:(bA l).length=l.length:=by simp [bA]
              have hdl:((bA l).drop k).length=(l.length-k)*1:=by rw [yb1,yB];omega
              go_region_held3 (fun w'=>w'.cell? ⟨S,15,none⟩=some (.slice (some ⟨Gk,0,none⟩) s.L.length c)∧w'.cell? ⟨Gk,l.length*3+1,none⟩=some (.int .i64 x)) (go_keep)
                ((first
                  | (refine nR (P0:=prog) (by rfl) _ _ _ (by rfl) w8.heap.size 3 3 i0 _ 1 8 hU hi0 j1 j2 j3 rfl (by decide) (.slice (some ⟨w8.heap.size,0,none⟩) 1 1) 1 [.int .i64 x] (by rfl) CJ (some ⟨G,k,none⟩) ⟨G,k,none⟩ rfl (l.length-k) (cl-k) ((bA l).drop k) (by rfl) hdl
                       (fun j u hu=>by have:=V5 vU (k:=k) (c:=cl) (by rw [yB];exact dL.cap) j u hu;rwa [yah hck] at this) (fun u hu=>hone u (ybi hu)) (by unfold maxLen;omega) (by omega) (by simp) ?_
                     intro v1 wa t1 hown1 hgrow1 qM;have CV:=hgrow1.block S sj (fun e=>by simp [Value.ownBlock] at e;omega);have CP:=hgrow1.block Gk si (fun e=>by simp [Value.ownBlock] at e;omega);have CO:=hgrow1.block G yc (fun e=>by simp [Value.ownBlock] at e;have:=dL.hi;omega);have c13:=(yal (a:=⟨S,15,none⟩) CV).trans xU;have ck:=(yal (a:=⟨Gk,l.length*3+1,none⟩) CP).trans ak;have hpre:=af.take (Dq.kept (w':=wa) fun b e=>by cases e;exact CO) (k:=k) (by omega) dL.ne;obtain ⟨sa1,c1,rfl,hr1⟩:=af.row hown1;obtain ⟨G1,rfl,hr2⟩: ∃G1,sa1=some ⟨G1,0,none⟩∧wa.rangeAt G1 0 ([.int .i64 x]++(bA l).drop k):=by
                       rcases hr1 with q|⟨G1,q1,_,q2⟩
                       · cases q
                       · exact ⟨G1,q1,q2⟩
                     clear hr1)
                  | (refine nR (P0:=prog) (by rfl) _ _ _ (by rfl) w.heap.size 3 tl i0 _ 1 8 hU hi0 j1 j2 j3 rfl (by decide) (.slice (some ⟨G,0,none⟩) k cl) k ((bA l).take (k*1)) (by rfl) hpre (some ⟨G1,0,none⟩) ⟨G1,0,none⟩ rfl (1+(l.length-k)) c1 ([.int .i64 x]++(bA l).drop k) (by rfl) (by rw [yaC,hdl];simp)
                       (fun j u hu=>by rw [Dw.addr_add];exact hr2 j u hu) (fun u hu=>by rcases ya2.1 hu with q|q;(rw [yaI.1 q];rfl);exact hone u (ybi q)) (by unfold maxLen;omega) (by omega) (by have:=hgrow1.size;simp at this;omega) ?_
                     intro v2 wb t2 hown2 hgrow2 Gj;have hSb:=hgrow2.block S (yae sj hgrow1.size) (fun e=>by simp [Value.ownBlock] at e;have:=dL.lo;omega);have ug:=hgrow2.block Gk (yae si hgrow1.size) (fun e=>by simp [Value.ownBlock] at e;have:=dL.lo;omega);have b13:=(yal (a:=⟨S,15,none⟩) hSb).trans c13;have bk:=(yal (a:=⟨Gk,l.length*3+1,none⟩) ug).trans ck)))
              all_goals (go_wp2_with fail)
              all_goals
                have hbw:Below w.heap.size w wb:=(hbb.trans ⟨hgrow1.os,hgrow1.tape,hgrow1.output,hgrow1.size,fun b hb=>hgrow1.block b (by have:=hbb.size;simp at this ⊢;omega) (fun e=>by simp [Value.ownBlock] at e;omega)⟩).trans ⟨hgrow2.os,hgrow2.tape,hgrow2.output,hgrow2.size,fun b hb=>hgrow2.block b (by have:=hbb.size;have:=hgrow1.size;simp at*;omega) (fun e=>by simp [Value.ownBlock] at e;have:=dL.lo;omega)⟩;have hlen':(l.take k++x::l.drop k).length=k+(1+(l.length-k)):=by simp;omega
                refine ⟨⟨l.length+1,l.take k++x::l.drop k,t2,by omega,by push_cast;rfl,by rw [hlen'];omega,?_,Gy.symm,(fun e=>by simp at e),hbw⟩,by simp only [RowKit.intOf];omega⟩;rw [hlen'];unfold af;simpa [bA] using hown2
            · go_wp2_with fail;go_quiet (fail);go_wp2_with fail;have eT:=below_drewN hb1 nq;have y13:(wr.drewN nq).cell? ⟨S,15,none⟩=_:=wR;have yk:(wr.drewN nq).cell? ⟨Gk,l.length*3+1,none⟩=_:=zk;have dL:FR w (wr.drewN nq) G cl tl l:=⟨hd.own.kept fun _ _=>rfl,hd.A8,hd.lo,hd.hi,hd.cap,hd.ne⟩;generalize wr.drewN nq=w8 at eT y13 yk dL ⊢;have hba:=(yab w8.heap.size w8).alloc (yaa _) (Obj.cells #[.int .i64 x] 3);have hbb:=eT.trans (hba.mono eT.size);have xU:=(hba.cell (p:=⟨S,15,none⟩) (yae hSw eT.size)).trans y13;have ak:=(hba.cell (p:=⟨Gk,l.length*3+1,none⟩) (yae r9 eT.size)).trans yk;have sj:S<((w8.alloc (Obj.cells #[.int .i64 x] 3)).drew).heap.size:=yae hSw hbb.size;have si:Gk<((w8.alloc (Obj.cells #[.int .i64 x] 3)).drew).heap.size:=yae r9 hbb.size;have hws:=eT.size;have yc:G<((w8.alloc (Obj.cells #[.int .i64 x] 3)).drew).heap.size:=yae dL.hi hba.size;have vU:((w8.alloc (Obj.cells #[.int .i64 x] 3)).drew).rangeAt G 0 (bA l):=aX dL.A8 (hba.block G dL.hi);have Dq:af tl 1 ((w8.alloc (Obj.cells #[.int .i64 x] 3)).drew) w.heap.size (.slice (some ⟨G,0,none⟩) l.length cl) l.length (bA l):=dL.own.kept fun b e=>by cases e;exact hba.block G dL.hi
              have CJ:=Pq w8 3 (.int .i64 x);have hone: ∀u∈bA l,u.oneCell'=true:=fun u hu=>by
                obtain ⟨x,_,rfl⟩:=yaY.1 hu;rfl
              have yB:(bA l).length=l.length:=by simp [bA]
              have hdl:((bA l).drop k).length=(l.length-k)*1:=by rw [yb1,yB];omega
              go_region_held3 (fun w'=>w'.cell? ⟨S,15,none⟩=some (.slice (some ⟨Gk,0,none⟩) s.L.length c)∧w'.cell? ⟨Gk,l.length*3+1,none⟩=some (.int .i64 x)) (go_keep)
                ((first
                  | (refine nR (P0:=prog) (by rfl) _ _ _ (by rfl) w8.heap.size 3 3 i0 _ 1 8 hU hi0 j1 j2 j3 rfl (by decide) (.slice (some ⟨w8.heap.size,0,none⟩) 1 1) 1 [.int .i64 x] (by rfl) CJ (some ⟨G,k,none⟩) ⟨G,k,none⟩ rfl (l.length-k) (cl-k) ((bA l).drop k) (by rfl) hdl
                       (fun j u hu=>by have:=V5 vU (k:=k) (c:=cl) (by rw [yB];exact dL.cap) j u hu;rwa [yah hck] at this) (fun u hu=>hone u (ybi hu)) (by unfold maxLen;omega) (by omega) (by simp) ?_
                     intro v1 wa t1 hown1 hgrow1 qM;have CV:=hgrow1.block S sj (fun e=>by simp [Value.ownBlock] at e;omega);have CP:=hgrow1.block Gk si (fun e=>by simp [Value.ownBlock] at e;omega);have CO:=hgrow1.block G yc (fun e=>by simp [Value.ownBlock] at e;have:=dL.hi;omega);have c13:=(yal (a:=⟨S,15,none⟩) CV).trans xU;have ck:=(yal (a:=⟨Gk,l.length*3+1,none⟩) CP).trans ak;have hpre:=af.take (Dq.kept (w':=wa) fun b e=>by cases e;exact CO) (k:=k) (by omega) dL.ne;obtain ⟨sa1,c1,rfl,hr1⟩:=af.row hown1;obtain ⟨G1,rfl,hr2⟩: ∃G1,sa1=some ⟨G1,0,none⟩∧wa.rangeAt G1 0 ([.int .i64 x]++(bA l).drop k):=by
                       rcases hr1 with q|⟨G1,q1,_,q2⟩
                       · cases q
                       · exact ⟨G1,q1,q2⟩
                     clear hr1)
                  | (refine nR (P0:=prog) (by rfl) _ _ _ (by rfl) w.heap.size 3 tl i0 _ 1 8 hU hi0 j1 j2 j3 rfl (by decide) (.slice (some ⟨G,0,none⟩) k cl) k ((bA l).take (k*1)) (by rfl) hpre (some ⟨G1,0,none⟩) ⟨G1,0,none⟩ rfl (1+(l.length-k)) c1 ([.int .i64 x]++(bA l).drop k) (by rfl) (by rw [yaC,hdl];simp)
                       (fun j u hu=>by rw [Dw.addr_add];exact hr2 j u hu) (fun u hu=>by rcases ya2.1 hu with q|q;(rw [yaI.1 q];rfl);exact hone u (ybi q)) (by unfold maxLen;omega) (by omega) (by have:=hgrow1.size;simp at this;omega) ?_
                     intro v2 wb t2 hown2 hgrow2 Gj;have hSb:=hgrow2.block S (yae sj hgrow1.size) (fun e=>by simp [Value.ownBlock] at e;have:=dL.lo;omega);have ug:=hgrow2.block Gk (yae si hgrow1.size) (fun e=>by simp [Value.ownBlock] at e;have:=dL.lo;omega);have b13:=(yal (a:=⟨S,15,none⟩) hSb).trans c13;have bk:=(yal (a:=⟨Gk,l.length*3+1,none⟩) ug).trans ck)))
              all_goals (go_wp2_with fail)
              all_goals
                have hbw:Below w.heap.size w wb:=(hbb.trans ⟨hgrow1.os,hgrow1.tape,hgrow1.output,hgrow1.size,fun b hb=>hgrow1.block b (by have:=hbb.size;simp at this ⊢;omega) (fun e=>by simp [Value.ownBlock] at e;omega)⟩).trans ⟨hgrow2.os,hgrow2.tape,hgrow2.output,hgrow2.size,fun b hb=>hgrow2.block b (by have:=hbb.size;have:=hgrow1.size;simp at*;omega) (fun e=>by simp [Value.ownBlock] at e;have:=dL.lo;omega)⟩;have hlen':(l.take k++x::l.drop k).length=k+(1+(l.length-k)):=by simp;omega
                refine ⟨⟨l.length+1,l.take k++x::l.drop k,t2,by omega,by push_cast;rfl,by rw [hlen'];omega,?_,Gy.symm,(fun e=>by simp at e),hbw⟩,by simp only [RowKit.intOf];omega⟩;rw [hlen'];unfold af;simpa [bA] using hown2
            · have hkl: ¬l.length<l.length:=by omega
              go_wp2_with fail;go_quiet (fail);go_wp2_with fail;have eT:=below_drewN hb1 nq;have y13:(wr.drewN nq).cell? ⟨S,15,none⟩=_:=wR;have yk:(wr.drewN nq).cell? ⟨Gk,l.length*3+1,none⟩=_:=zk;have dL:FR w (wr.drewN nq) G l.length tl l:=⟨hd.own.kept fun _ _=>rfl,hd.A8,hd.lo,hd.hi,hd.cap,hd.ne⟩;generalize wr.drewN nq=w8 at eT y13 yk dL ⊢;have hba:=(yab w8.heap.size w8).alloc (yaa _) (Obj.cells #[.int .i64 x] 3);have hbb:=eT.trans (hba.mono eT.size);have xU:=(hba.cell (p:=⟨S,15,none⟩) (yae hSw eT.size)).trans y13;have ak:=(hba.cell (p:=⟨Gk,l.length*3+1,none⟩) (yae r9 eT.size)).trans yk;have sj:S<((w8.alloc (Obj.cells #[.int .i64 x] 3)).drew).heap.size:=yae hSw hbb.size;have si:Gk<((w8.alloc (Obj.cells #[.int .i64 x] 3)).drew).heap.size:=yae r9 hbb.size;have hws:=eT.size;have yc:G<((w8.alloc (Obj.cells #[.int .i64 x] 3)).drew).heap.size:=yae dL.hi hba.size;have vU:((w8.alloc (Obj.cells #[.int .i64 x] 3)).drew).rangeAt G 0 (bA l):=aX dL.A8 (hba.block G dL.hi);have Dq:af tl 1 ((w8.alloc (Obj.cells #[.int .i64 x] 3)).drew) w.heap.size (.slice (some ⟨G,0,none⟩) l.length l.length) l.length (bA l):=dL.own.kept fun b e=>by cases e;exact hba.block G dL.hi
              have CJ:=Pq w8 3 (.int .i64 x);have hone: ∀u∈bA l,u.oneCell'=true:=fun u hu=>by
                obtain ⟨x,_,rfl⟩:=yaY.1 hu;rfl
              have yB:(bA l).length=l.length:=by simp [bA]
              go_region_held3 (fun w'=>w'.cell? ⟨S,15,none⟩=some (.slice (some ⟨Gk,0,none⟩) s.L.length c)∧w'.cell? ⟨Gk,l.length*3+1,none⟩=some (.int .i64 x)) (go_keep)
                ((first
                  | (refine nR (P0:=prog) (by rfl) _ _ _ (by rfl) w8.heap.size 3 3 i0 _ 1 8 hU hi0 j1 j2 j3 rfl (by decide) (.slice (some ⟨w8.heap.size,0,none⟩) 1 1) 1 [.int .i64 x] (by rfl) CJ (some ⟨G,0,none⟩) ⟨G,0,none⟩ rfl 0 0 [] (by rfl) rfl
                       (fun j u hu=>by cases hu) (fun u hu=>by cases hu) (by unfold maxLen;omega) (by omega) (by simp) ?_
                     intro v1 wa t1 hown1 hgrow1 qM;have CV:=hgrow1.block S sj (fun e=>by simp [Value.ownBlock] at e;omega);have CP:=hgrow1.block Gk si (fun e=>by simp [Value.ownBlock] at e;omega);have CO:=hgrow1.block G yc (fun e=>by simp [Value.ownBlock] at e;have:=dL.hi;omega);have c13:=(yal (a:=⟨S,15,none⟩) CV).trans xU;have ck:=(yal (a:=⟨Gk,l.length*3+1,none⟩) CP).trans ak;have hpre:=af.take (Dq.kept (w':=wa) fun b e=>by cases e;exact CO) (k:=l.length) (by omega) dL.ne;obtain ⟨sa1,c1,rfl,hr1⟩:=af.row hown1;obtain ⟨G1,rfl,hr2⟩: ∃G1,sa1=some ⟨G1,0,none⟩∧wa.rangeAt G1 0 ([.int .i64 x]++ []):=by
                       rcases hr1 with q|⟨G1,q1,_,q2⟩
                       · cases q
                       · exact ⟨G1,q1,q2⟩
                     clear hr1)
                  | (refine nR (P0:=prog) (by rfl) _ _ _ (by rfl) w.heap.size 3 tl i0 _ 1 8 hU hi0 j1 j2 j3 rfl (by decide) (.slice (some ⟨G,0,none⟩) l.length l.length) l.length ((bA l).take (l.length*1)) (by rfl) hpre (some ⟨G1,0,none⟩) ⟨G1,0,none⟩ rfl (1+0) c1 ([.int .i64 x]++ []) (by rfl) rfl
                       (fun j u hu=>by rw [Dw.addr_add];exact hr2 j u hu) (fun u hu=>by rcases ya2.1 hu with q|q;(rw [yaI.1 q];rfl);cases q) (by unfold maxLen;omega) (by omega) (by have:=hgrow1.size;simp at this;omega) ?_
                     intro v2 wb t2 hown2 hgrow2 Gj;have hSb:=hgrow2.block S (yae sj hgrow1.size) (fun e=>by simp [Value.ownBlock] at e;have:=dL.lo;omega);have ug:=hgrow2.block Gk (yae si hgrow1.size) (fun e=>by simp [Value.ownBlock] at e;have:=dL.lo;omega);have b13:=(yal (a:=⟨S,15,none⟩) hSb).trans c13;have bk:=(yal (a:=⟨Gk,l.length*3+1,none⟩) ug).trans ck)))
              all_goals (go_wp2_with fail)
              all_goals
                have hbw:Below w.heap.size w wb:=(hbb.trans ⟨hgrow1.os,hgrow1.tape,hgrow1.output,hgrow1.size,fun b hb=>hgrow1.block b (by have:=hbb.size;simp at this ⊢;omega) (fun e=>by simp [Value.ownBlock] at e;omega)⟩).trans ⟨hgrow2.os,hgrow2.tape,hgrow2.output,hgrow2.size,fun b hb=>hgrow2.block b (by have:=hbb.size;have:=hgrow1.size;simp at*;omega) (fun e=>by simp [Value.ownBlock] at e;have:=dL.lo;omega)⟩;have hlen':(l.take l.length++x::l.drop l.length).length=l.length+(1+0):=by simp
                refine ⟨⟨l.length+1,l.take l.length++x::l.drop l.length,t2,by omega,by push_cast;rfl,by rw [hlen'],?_,Gy.symm,(fun e=>by simp at e),hbw⟩,by simp only [RowKit.intOf];omega⟩;rw [hlen'];rw [show (bA l).take (l.length*1)=bA l from by rw [Nat.mul_one];exact yb4 (by rw [yB];exact yaa _)] at hown2;unfold af;simpa [bA] using hown2
    · have hie:l.length=s.L.length:=by omega
      have Gr: ¬(l.length:Int)<s.L.length:=by omega
      rw [hie,ybE] at hlr;obtain ⟨sl,cl,e0,_⟩:=af.row hown;have hown2:=hown;rw [hie,hlr] at hown2;subst e0;clear hown hlr hie hcell;go_wp2;go_ret;exact ⟨_,rfl,⟨tl,hown2⟩,hb⟩
section
variable {A A' K:Nat→Prop} {w w':World} {S P L Bs B I N b2:Nat} {r:Tryz.Rg} {s s':Tryz.DS} {g g':Nat→Int} {lv bG:Value}
theorem Tryz.DW.qZ (h:DW A w S P L Bs B I N r s g) (hA: ∀b,b<w.heap.size→A' b→A b) (aS:A' S) (aI:A' I) (aB:A' B) (hl: ∀b,A' b→b<w'.heap.size) (hm:Dw.Mv K w w') (hK: ∀b,K b→A b) (hn: ¬K S∧ ¬K I∧ ¬K P∧ ¬K L∧ ¬K Bs∧ ¬K B):DW A' w' S P L Bs B I N r s g:=by
 obtain ⟨n1,n2,n3,n4,n5,n6⟩:=hn;refine ⟨h.f.qZ hA aS aI aB hl (fun b hb q=>hm.block b hb ?_) hm.size,h.pb⟩;rcases q with q|rfl|rfl|rfl|rfl|rfl|rfl
 ·exact fun k=>q (hK b k)
 all_goals assumption
theorem Tryz.DW.set (h:DW A w S P L Bs B I N r s g) (hA: ∀b,b<w.heap.size→A' b→A b) (aS:A' S) (aI:A' I) (aB:A' B) (hl: ∀b,A' b→b<w.heap.size):DW A' w S P L Bs B I N r s g:=⟨h.f.qZ hA aS aI aB hl (fun _ _ _=>rfl) (yaa _),h.pb⟩
theorem Tryz.YW.less (h:YW A w S P L Bs B N b2 r s g lv) (hA: ∀b,A' b→A b) (aS:A' S) (aB:A' B):YW A' w S P L Bs B N b2 r s g lv:=by
 obtain ⟨au,aj,q1,q2,q3⟩:=h.obj;exact ⟨⟨au,aj,q1,q2.aZ (fun b _ q=>q.imp_left (hA b)) fun _ _ _=>rfl,q3.aZ (fun b _ q=>q.imp_left (hA b)) fun _ _ _=>rfl⟩,h.row,h.rm,aS,aB,fun b q=>h.lt b (hA b q),h.lo,h.b2,h.sd,h.rg,h.pb,h.hN,h.fit⟩
theorem Tryz.YW.mv (h:YW A w S P L Bs B N b2 r s g lv) (hm:Dw.Mv K w w') (hK: ∀b,K b→A b) (hn: ¬K S∧ ¬K P∧ ¬K L∧ ¬K Bs∧ ¬K B) (hl: ∀b,lv.ownBlock=some b→ ¬K b):YW A w' S P L Bs B N b2 r s g lv:=by
 obtain ⟨n1,n2,n3,n4,n5⟩:=hn;obtain ⟨au,aj,q1,q2,q3⟩:=h.obj;obtain ⟨t,hrow⟩:=h.row;have hk: ∀b,b<w.heap.size→ ¬(A b∨lv.ownBlock=some b)→w'.heap[b]? =w.heap[b]? :=fun b hb hn=>hm.block b hb fun e=>hn (.inl (hK b e));exact ⟨⟨au,aj,q1.kept (hm.block S q1.lt n1),q2.aZ (fun _ _ q=>q) hk,q3.aZ (fun _ _ q=>q) hk⟩,⟨t,hrow.kept fun b e=>hm.block b (hrow.lt b e).2 (hl b e)⟩,h.rm.kept (fun k hk hq=>hm.block k hk fun hs=>by rcases hq with rfl|rfl|rfl|rfl<;>contradiction) hm.size,h.aS,h.aB,fun b q=>yae (h.lt b q) hm.size,h.lo,yas h.b2 hm.size,h.sd,h.rg,h.pb,h.hN,h.fit⟩
theorem Tryz.YW.qZ (h:YW A w S P L Bs B N b2 r s g lv) (hA: ∀b,b<w.heap.size→A' b→A b) (aS:A' S) (aB:A' B) (hl: ∀b,A' b→b<w'.heap.size) (hb:Below w.heap.size w w'):YW A' w' S P L Bs B N b2 r s g lv:=by
 obtain ⟨au,aj,q1,q2,q3⟩:=h.obj;obtain ⟨t,hrow⟩:=h.row;have hk: ∀b,b<w.heap.size→ ¬(A b∨lv.ownBlock=some b)→w'.heap[b]? =w.heap[b]? :=fun b h1 _=>hb.block b h1;exact ⟨⟨au,aj,q1.below hb q1.lt,q2.aZ (fun b h1 q=>q.imp_left (hA b h1)) hk,q3.aZ (fun b h1 q=>q.imp_left (hA b h1)) hk⟩,⟨t,hrow.kept fun b e=>hb.block b (hrow.lt b e).2⟩,h.rm.below hb,aS,aB,hl,h.lo,yas h.b2 hb.size,h.sd,h.rg,h.pb,h.hN,h.fit⟩
end
structure Tryz.fB where
 X7:Nat
 S:Nat
 P:Nat
 L:Nat
 Bs:Nat
 B:Nat
 M:Nat
 S2:Nat
 P2:Nat
 L2:Nat
 iC:Nat
 B2:Nat
 b2:Nat
structure Tryz.fB.ok (d:fB) (n0:Nat):Prop where
 ex: ∃n1 n2 n3 n4,n0≤d.X7∧d.X7<n1∧(n1≤d.P∧n1≤d.L∧n1≤d.Bs∧n1≤d.B)∧(d.P<n2∧d.L<n2∧d.Bs<n2∧d.B<n2)∧(n2≤d.P2∧n2≤d.L2∧n2≤d.iC∧n2≤d.B2)∧(d.P2<n3∧d.L2<n3∧d.iC<n3∧d.B2<n3)∧(n3≤d.S∧n3≤d.M)∧(d.S<n4∧d.M<n4)∧n4≤d.S2∧d.S2<d.b2
def Tryz.fB.A (d:fB) (b:Nat):Prop:=b=d.S∨b=d.M∨b=d.B∨b=d.S2∨b=d.B2
def Tryz.fB.all (d:fB) (b:Nat):Prop:=d.A b∨b=d.P∨b=d.L∨b=d.Bs∨b=d.P2∨b=d.L2∨b=d.iC
structure Tryz.Duo (n0:Nat) (Z:Nat→Prop) (w:World) (d:fB) (r:Rg) (s1:DS) (g1:Nat→Int) (s2:DS) (g2:Nat→Int):Prop where
 ex: ∃lv,DW (fun b=>(d.A b∨Z b)∨lv.ownBlock=some b) w d.S d.P d.L d.Bs d.B d.M 60000 r s1 g1∧YW (fun b=>d.A b∨Z b) w d.S2 d.P2 d.L2 d.iC d.B2 60000 d.b2 r s2 g2 lv∧ ∀b,lv.ownBlock=some b→ ¬Z b∧d.b2≤b∧b<w.heap.size
 st:d.ok n0
 za: ∀b,Z b→b<w.heap.size∧ ¬d.all b
 zl: ∀b,Z b→n0≤b
section
variable {n0:Nat} {Z Z':Nat→Prop} {w w':World} {d:Tryz.fB} {r:Tryz.Rg} {s1 s1':Tryz.DS} {g1 g1':Nat→Int} {s2 s2':Tryz.DS} {g2 g2':Nat→Int}
theorem Tryz.Duo.below (h:Duo n0 Z w d r s1 g1 s2 g2) (hb:Below w.heap.size w w'):Duo n0 Z w' d r s1 g1 s2 g2:=by
 obtain ⟨⟨lv,h1,h2,h3⟩,h4,h5,h6⟩:=h;have hs:=hb.size;exact ⟨⟨lv,h1.below hb,h2.below hb,fun b e=>by have:=h3 b e;exact ⟨this.1,this.2.1,by omega⟩⟩,h4,fun b e=>by have:=h5 b e;exact ⟨by omega,this.2⟩,h6⟩
theorem Tryz.Duo.set (h:Duo n0 Z w d r s1 g1 s2 g2) (hz: ∀b,Z' b→Z b):Duo n0 Z' w d r s1 g1 s2 g2:=by
 obtain ⟨⟨lv,h1,h2,h3⟩,h4,h5,h6⟩:=h;exact ⟨⟨lv,h1.set (fun b _ q=>q.imp_left fun q=>q.imp_right (hz b)) (.inl (.inl (.inl rfl))) (.inl (.inl (.inr (.inl rfl)))) (.inl (.inl (.inr (.inr (.inl rfl))))) (fun b q=>h1.f.lt b (q.imp_left fun q=>q.imp_right (hz b))),h2.less (fun b q=>q.imp_right (hz b)) (.inl (.inr (.inr (.inr (.inl rfl))))) (.inl (.inr (.inr (.inr (.inr rfl))))),fun b e=>⟨fun q=>(h3 b e).1 (hz b q),(h3 b e).2⟩⟩,h4,fun b e=>h5 b (hz b e),fun b e=>h6 b (hz b e)⟩
theorem Tryz.Duo.more (h:Duo n0 Z w d r s1 g1 s2 g2) (hn0:n0≤w.heap.size) (hb:Below w.heap.size w w') (hz: ∀b,Z' b→Z b∨(w.heap.size≤b∧b<w'.heap.size)):Duo n0 Z' w' d r s1 g1 s2 g2:=by
 have hs:=hb.size;obtain ⟨⟨lv,h1,h2,h3⟩,h4,h5,h6⟩:=h;obtain ⟨k1,k2,k4,k5,k6,k3⟩:=h1.f.lG;obtain ⟨_,_,hc2,_⟩:=h2.obj;have k7:=hc2.lt;have k8:=h2.rm.bl;have k9:=h2.rm.pl;have k10:=h2.rm.ll;have k11:=h2.rm.sl;have hall: ∀b,d.all b→b<w.heap.size:=fun b q=>by
  rcases q with (q|q|q|q|q)|q|q|q|q|q|q<;>omega
 refine ⟨⟨lv,h1.qZ (K:=fun _=>False) (fun b hb q=> ?_) (.inl (.inl (.inl rfl))) (.inl (.inl (.inr (.inl rfl)))) (.inl (.inl (.inr (.inr (.inl rfl))))) (fun b q=> ?_) (ah hb) (fun _ q=>q.elim) ⟨id,id,id,id,id,id⟩,h2.qZ (fun b hb q=> ?_) (.inl (.inr (.inr (.inr (.inl rfl))))) (.inl (.inr (.inr (.inr (.inr rfl))))) (fun b q=> ?_) hb,fun b e=>⟨fun q=> ?_,(h3 b e).2.1,by have:=(h3 b e).2.2;omega⟩⟩,h4,fun b e=> ?_,fun b e=>(hz b e).elim (h6 b) fun q=>yas hn0 q.1⟩
 ·rcases q with (q|q)|q
  ·exact .inl (.inl q)
  ·rcases hz b q with q|q
   ·exact .inl (.inr q)
   ·omega
  ·exact .inr q
 ·rcases q with (q|q)|q
  ·have:=hall b (.inl q);omega
  ·rcases hz b q with q|q
   ·have:=(h5 b q).1;omega
   ·exact q.2
  ·have:=(h3 b q).2.2;omega
 ·rcases q with q|q
  ·exact .inl q
  ·rcases hz b q with q|q
   ·exact .inr q
   ·omega
 ·rcases q with q|q
  ·have:=hall b (.inl q);omega
  ·rcases hz b q with q|q
   ·have:=(h5 b q).1;omega
   ·exact q.2
 ·rcases hz b q with q|q
  ·exact (h3 b e).1 q
  ·have:=(h3 b e).2.2;omega
 ·rcases hz b e with q|q
  ·have:=h5 b q;exact ⟨by omega,this.2⟩
  ·refine ⟨q.2,fun hA=> ?_⟩;have:=hall b hA;omega
theorem Tryz.Duo.own (h:Duo n0 Z w d r s1 g1 s2 g2) (hm:Dw.Mv Z w w'):Duo n0 Z w' d r s1 g1 s2 g2:=by
 obtain ⟨⟨lv,h1,h2,h3⟩,h4,h5,h6⟩:=h;have hs:=hm.size;have hn: ∀ {b:Nat},d.all b→ ¬Z b:=fun q hz=>(h5 _ hz).2 q;exact ⟨⟨lv,h1.qZ (K:=Z) (fun b _ q=>q) (.inl (.inl (.inl rfl))) (.inl (.inl (.inr (.inl rfl)))) (.inl (.inl (.inr (.inr (.inl rfl))))) (fun b q=>yae (h1.f.lt b q) hs) hm (fun b q=> .inl (.inr q)) ⟨hn (.inl (.inl rfl)),hn (.inl (.inr (.inl rfl))),hn (.inr (.inl rfl)),hn (.inr (.inr (.inl rfl))),hn (.inr (.inr (.inr (.inl rfl)))),hn (.inl (.inr (.inr (.inl rfl))))⟩,
  h2.mv hm (fun b q=> .inr q) ⟨hn (.inl (.inr (.inr (.inr (.inl rfl))))),hn (.inr (.inr (.inr (.inr (.inl rfl))))),hn (.inr (.inr (.inr (.inr (.inr (.inl rfl)))))),hn (.inr (.inr (.inr (.inr (.inr (.inr rfl)))))),hn (.inl (.inr (.inr (.inr (.inr rfl)))))⟩ fun b e=>(h3 b e).1,
  fun b e=>⟨(h3 b e).1,(h3 b e).2.1,by have:=(h3 b e).2.2;omega⟩⟩,h4,fun b e=>⟨by have:=(h5 b e).1;omega,(h5 b e).2⟩,h6⟩
theorem Tryz.fB.ok.ne {d:fB} {n0:Nat} (h:d.ok n0):(d.S≠d.S2∧d.S≠d.B2∧d.M≠d.S2∧d.M≠d.B2∧d.B≠d.S2∧d.B≠d.B2)∧(d.P≠d.S2∧d.P≠d.B2∧d.L≠d.S2∧d.L≠d.B2∧d.Bs≠d.S2∧d.Bs≠d.B2)∧(d.P2≠d.S∧d.P2≠d.M∧d.P2≠d.B∧d.L2≠d.S∧d.L2≠d.M∧d.L2≠d.B∧d.iC≠d.S∧d.iC≠d.M∧d.iC≠d.B)∧(d.S<d.b2∧d.M<d.b2∧d.B<d.b2∧d.P<d.b2∧d.L<d.b2∧d.Bs<d.b2∧d.S2<d.b2∧d.B2<d.b2∧d.P2<d.b2∧d.L2<d.b2∧d.iC<d.b2)∧(¬d.all d.X7∧n0≤d.X7)∧ ∀b,b<n0→ ¬d.all b:=by
 obtain ⟨n1,n2,n3,n4,q1,q2,⟨q3,q4,q5,q6⟩,⟨q7,q8,q9,TP⟩,⟨Hf,TQ,q13,q14⟩,⟨MS,q16,q17,q18⟩,⟨MU,MV⟩,⟨MW,q22⟩,q23,q24⟩:=h.ex;refine ⟨⟨by omega,by omega,by omega,by omega,by omega,by omega⟩,⟨by omega,by omega,by omega,by omega,by omega,by omega⟩,⟨by omega,by omega,by omega,by omega,by omega,by omega,by omega,by omega,by omega⟩,⟨by omega,by omega,by omega,by omega,by omega,by omega,by omega,by omega,by omega,by omega,by omega⟩,⟨?_,q1⟩,?_⟩
 ·rintro ((e|e|e|e|e)|e|e|e|e|e|e)<;>omega
 ·rintro b hb ((e|e|e|e|e)|e|e|e|e|e|e)<;>omega
theorem Tryz.Duo.Nj (h:Duo n0 Z w d r s1 g1 s2 g2) {w':World} {lv:Value} (hlv:YW (fun b=>d.A b∨Z b) w d.S2 d.P2 d.L2 d.iC d.B2 60000 d.b2 r s2 g2 lv) (hz: ∀b,lv.ownBlock=some b→ ¬Z b∧d.b2≤b∧b<w.heap.size) (h1:DW (fun b=>(d.A b∨Z b)∨lv.ownBlock=some b) w' d.S d.P d.L d.Bs d.B d.M 60000 r s1' g1') (hm:Dw.Mv (dK d.S d.M d.B) w w'):Duo n0 Z w' d r s1' g1' s2 g2∧Dw.Mv (fun b=>n0≤b∧ ¬Z b) w w':=by
 obtain ⟨⟨e1,e2,e3,e4,e5,e6⟩,⟨f1,f2,f3,f4,f5,f6⟩,⟨c1,c2,c3,c4,c5,c6,c7,c8,c9⟩,⟨b1,b2,b3,b4,b5,b6,b7,b8,b9,b10,b11⟩,_,_⟩:=h.st.ne;have hs:=hm.size;have hA: ∀b,dK d.S d.M d.B b→d.A b:=fun b q=>by
  rcases q with q|q|q
  ·exact .inl q
  ·exact .inr (.inl q)
  ·exact .inr (.inr (.inl q))
 refine ⟨⟨⟨lv,h1,hlv.mv hm (fun b q=> .inl (hA b q)) ⟨?_,?_,?_,?_,?_⟩ fun b e=> ?_,fun b e=>⟨(hz b e).1,(hz b e).2.1,by have:=(hz b e).2.2;omega⟩⟩,h.st,fun b e=>⟨by have:=(h.za b e).1;omega,(h.za b e).2⟩,h.zl⟩,hm.mono fun b q=>⟨yc2 fun e=>h.st.ne.2.2.2.2.2 b e (.inl (hA b q)),fun hq=>(h.za b hq).2 (.inl (hA b q))⟩⟩
 ·rintro (q|q|q)
  ·exact e1.symm q
  ·exact e3.symm q
  ·exact e5.symm q
 ·rintro (q|q|q)
  ·exact c1 q
  ·exact c2 q
  ·exact c3 q
 ·rintro (q|q|q)
  ·exact c4 q
  ·exact c5 q
  ·exact c6 q
 ·rintro (q|q|q)
  ·exact c7 q
  ·exact c8 q
  ·exact c9 q
 ·rintro (q|q|q)
  ·exact e2.symm q
  ·exact e4.symm q
  ·exact e6.symm q
 ·have q0:=(hz b e).2.1;clear e1 e2 e3 e4 e5 e6 f1 f2 f3 f4 f5 f6 c1 c2 c3 c4 c5 c6 c7 c8 c9;rintro (q|q|q)<;>omega
theorem Tryz.Duo.Nk (h:Duo n0 Z w d r s1 g1 s2 g2) {w':World} {lv bG:Value} (h1:DW (fun b=>(d.A b∨Z b)∨lv.ownBlock=some b) w d.S d.P d.L d.Bs d.B d.M 60000 r s1 g1) (hz: ∀b,lv.ownBlock=some b→ ¬Z b∧d.b2≤b∧b<w.heap.size) (h2:YW (fun b=>d.A b∨Z b) w' d.S2 d.P2 d.L2 d.iC d.B2 60000 d.b2 r s2' g2' bG) (hl: ∀b,bG.ownBlock=some b→lv.ownBlock=some b∨w.heap.size≤b) (hm:Dw.Mv (fun b=>b=d.S2∨b=d.B2∨lv.ownBlock=some b) w w'):Duo n0 Z w' d r s1 g1 s2' g2'∧Dw.Mv (fun b=>n0≤b∧ ¬Z b) w w':=by
 obtain ⟨⟨e1,e2,e3,e4,e5,e6⟩,⟨f1,f2,f3,f4,f5,f6⟩,_,⟨b1,b2,b3,b4,b5,b6,b7,b8,b9,b10,b11⟩,_,_⟩:=h.st.ne;have hs:=hm.size;obtain ⟨_,hrow⟩:=h2.row;have hb2:d.b2≤w.heap.size:=by obtain ⟨_,_,hR,_⟩:=h.ex;exact hR.b2
 have hn: ∀ {b:Nat},b<d.b2→lv.ownBlock≠some b:=fun hb e=>by have:=(hz _ e).2.1;omega
 refine ⟨⟨⟨bG,h1.qZ (K:=fun b=>b=d.S2∨b=d.B2∨lv.ownBlock=some b) (fun b hb q=> ?_) (.inl (.inl (.inl rfl))) (.inl (.inl (.inr (.inl rfl)))) (.inl (.inl (.inr (.inr (.inl rfl))))) (fun b q=> ?_) hm (fun b q=> ?_) ⟨?_,?_,?_,?_,?_,?_⟩,h2,fun b e=>⟨?_,(hrow.lt b e).1,(hrow.lt b e).2⟩⟩,h.st,fun b e=>⟨by have:=(h.za b e).1;omega,(h.za b e).2⟩,h.zl⟩,hm.mono fun b q=>⟨?_,fun hq=> ?_⟩⟩
 ·rcases q with q|q
  ·exact .inl q
  ·rcases hl b q with q|q
   ·exact .inr q
   ·omega
 ·rcases q with q|q
  ·exact h2.lt b q
  ·exact (hrow.lt b q).2
 ·rcases q with q|q|q
  ·exact .inl (.inl (.inr (.inr (.inr (.inl q)))))
  ·exact .inl (.inl (.inr (.inr (.inr (.inr q)))))
  ·exact .inr q
 ·rintro (q|q|q)
  ·exact e1 q
  ·exact e2 q
  ·exact hn b1 q
 ·rintro (q|q|q)
  ·exact e3 q
  ·exact e4 q
  ·exact hn b2 q
 ·rintro (q|q|q)
  ·exact f1 q
  ·exact f2 q
  ·exact hn b4 q
 ·rintro (q|q|q)
  ·exact f3 q
  ·exact f4 q
  ·exact hn b5 q
 ·rintro (q|q|q)
  ·exact f5 q
  ·exact f6 q
  ·exact hn b6 q
 ·rintro (q|q|q)
  ·exact e5 q
  ·exact e6 q
  ·exact hn b3 q
 ·rcases hl b e with q|q
  ·exact (hz b q).1
  ·intro hq;have:=(h.za b hq).1;omega
 ·have hno:=h.st.ne.2.2.2.2.2 b;refine yc2 fun e=> ?_;rcases q with q|q|q
  ·exact hno e (.inl (.inr (.inr (.inr (.inl q)))))
  ·exact hno e (.inl (.inr (.inr (.inr (.inr q)))))
  ·have q1:=(hz b q).2.1;have q2:=h.st.ne.2.2.2.2.1.2;obtain ⟨n1,n2,n3,n4,q3,q4,⟨q5,_⟩,⟨q6,_⟩,⟨q7,_⟩,⟨q8,_⟩,⟨q9,_⟩,⟨TP,_⟩,Hf,TQ⟩:=h.st.ex;omega
 ·have hA:=(h.za b hq).2;rcases q with q|q|q
  ·exact hA (.inl (.inr (.inr (.inr (.inl q)))))
  ·exact hA (.inl (.inr (.inr (.inr (.inr q)))))
  ·exact (hz b q).1 hq
theorem Tryz.QK (h:Duo n0 Z w d r s1 g1 s2 g2) {f:FuncId} {args:Array Value} {U:Value} (hc: ∀A,DW A w d.S d.P d.L d.Bs d.B d.M 60000 r s1 g1→Calls prog f args w fun e w'=>e= .returned U∧DW A w' d.S d.P d.L d.Bs d.B d.M 60000 r s1' g1'∧Dw.Mv (dK d.S d.M d.B) w w'):
  Calls prog f args w fun e w'=>e= .returned U∧Duo n0 Z w' d r s1' g1' s2 g2∧Dw.Mv (fun b=>n0≤b∧ ¬Z b) w w':=by
 obtain ⟨lv,h1,h2,h3⟩:=h.ex;exact (hc _ h1).mono fun e w' hh=>⟨hh.1,h.Nj h2 h3 hh.2.1 hh.2.2⟩
theorem Tryz.QJ (h:Duo n0 Z w d r s1 g1 s2 g2) {f:FuncId} {args:Array Value} {U:Value} (hc: ∀A lv,YW A w d.S2 d.P2 d.L2 d.iC d.B2 60000 d.b2 r s2 g2 lv→Calls prog f args w fun e w'=>e= .returned U∧ ∃bG,YW A w' d.S2 d.P2 d.L2 d.iC d.B2 60000 d.b2 r s2' g2' bG∧(∀b,bG.ownBlock=some b→lv.ownBlock=some b∨w.heap.size≤b)∧Dw.Mv (fun b=>b=d.S2∨b=d.B2∨lv.ownBlock=some b) w w'):
  Calls prog f args w fun e w'=>e= .returned U∧Duo n0 Z w' d r s1 g1 s2' g2'∧Dw.Mv (fun b=>n0≤b∧ ¬Z b) w w':=by
 obtain ⟨lv,h1,h2,h3⟩:=h.ex;exact (hc _ _ h2).mono fun e w' hh=>by
  obtain ⟨rfl,bG,q1,q2,q3⟩:=hh;exact ⟨rfl,h.Nk h1 h3 q1 q2 q3⟩
theorem Tryz.zyb (h:Duo n0 Z w d r s1 g1 s2 g2) {f:FuncId} {args:Array Value} {U:Value} (hc:GM w d.P d.L d.Bs d.B 60000 g1→Calls prog f args w fun e w'=>e= .returned U∧GM w' d.P d.L d.Bs d.B 60000 g1'∧Mv (· =d.B) w w'):
  Calls prog f args w fun e w'=>e= .returned U∧Duo n0 Z w' d r s1 g1' s2 g2∧Dw.Mv (fun b=>n0≤b∧ ¬Z b) w w':=by
 obtain ⟨lv,h1,h2,h3⟩:=h.ex;refine (hc h1.f.mem).mono fun e w' hh=>⟨hh.1,?_⟩;have hm:Dw.Mv (dK d.S d.M d.B) w w':=⟨hh.2.2.os,hh.2.2.tape,hh.2.2.output,hh.2.2.size,fun b hb hn=>hh.2.2.block b hb fun e=>hn (.inr (.inr e))⟩;exact h.Nj h2 h3 ⟨h1.f.sP (ku hh.2.2) hh.2.1,h1.pb⟩ hm
theorem Tryz.zya (h:Duo n0 Z w d r s1 g1 s2 g2) {f:FuncId} {args:Array Value} {U:Value} (hc:aV w d.P2 d.L2 d.iC d.B2 60000 g2→Calls prog f args w fun e w'=>e= .returned U∧aV w' d.P2 d.L2 d.iC d.B2 60000 g2'∧Mv (· =d.B2) w w'):
  Calls prog f args w fun e w'=>e= .returned U∧Duo n0 Z w' d r s1 g1 s2 g2'∧Dw.Mv (fun b=>n0≤b∧ ¬Z b) w w':=by
 obtain ⟨lv,h1,h2,h3⟩:=h.ex;refine (hc h2.rm).mono fun e w' hh=>⟨hh.1,?_⟩;have hm:Dw.Mv (fun b=>b=d.S2∨b=d.B2) w w':=⟨hh.2.2.os,hh.2.2.tape,hh.2.2.output,hh.2.2.size,fun b hb hn=>hh.2.2.block b hb fun e=>hn (.inr e)⟩;obtain ⟨au,aj,q1,q2,q3⟩:=h2.obj;exact h.Nk h1 h3 (h2.fin (s':=s2) hm hh.2.1 (q1.kept (hh.2.2.block _ q1.lt fun e=>h2.sd.2.2.2 e)) q2 q3 rfl rfl rfl h2.pb) (fun b e=> .inl e) (hm.mono fun b e=>e.imp_right .inl)
end
end Go.Proofs
namespace Go.Proofs
set_option maxRecDepth 100000 in
theorem Tryz.JA {t:Array Value} (h:t.size=267) {v0 v2 v7 v8 v10 v12 v14 v15 v16 v17 v18 v19 v20 v21:Value} (h0:t.getD 0 undef=v0) (h2:t.getD 2 undef=v2) (h7:t.getD 7 undef=v7) (h8:t.getD 8 undef=v8) (h10:t.getD 10 undef=v10) (h12:t.getD 12 undef=v12) (K5:t.getD 14 undef=v14) (K6:t.getD 15 undef=v15) (h16:t.getD 16 undef=v16) (K7:t.getD 17 undef=v17) (h18:t.getD 18 undef=v18) (h19:t.getD 19 undef=v19) (h20:t.getD 20 undef=v20) (h21:t.getD 21 undef=v21):
  ∃ j:Nat→Value,t= #[v0,j 1,v2,j 3,j 4,j 5,j 6,v7,v8,j 9,v10,j 11,v12,j 13,v14,v15,v16,v17,v18,v19,v20,v21,j 22,j 23,j 24,j 25,j 26,j 27,j 28,j 29,j 30,j 31,j 32,j 33,j 34,j 35,j 36,j 37,j 38,j 39,j 40,j 41,j 42,j 43,j 44,j 45,j 46,j 47,j 48,j 49,j 50,j 51,j 52,j 53,j 54,j 55,j 56,j 57,j 58,j 59,j 60,j 61,j 62,j 63,j 64,j 65,j 66,j 67,j 68,j 69,j 70,j 71,j 72,j 73,j 74,j 75,j 76,j 77,j 78,j 79,j 80,j 81,j 82,j 83,j 84,j 85,j 86,j 87,j 88,j 89,j 90,j 91,j 92,j 93,j 94,j 95,j 96,j 97,j 98,j 99,j 100,j 101,j 102,j 103,j 104,j 105,j 106,j 107,j 108,j 109,j 110,j 111,j 112,j 113,j 114,j 115,j 116,j 117,j 118,j 119,j 120,j 121,j 122,j 123,j 124,j 125,j 126,j 127,j 128,j 129,j 130,j 131,j 132,j 133,j 134,j 135,j 136,j 137,j 138,j 139,j 140,j 141,j 142,j 143,j 144,j 145,j 146,j 147,j 148,j 149,j 150,j 151,j 152,j 153,j 154,j 155,j 156,j 157,j 158,j 159,j 160,j 161,j 162,j 163,j 164,j 165,j 166,j 167,j 168,j 169,j 170,j 171,j 172,j 173,j 174,j 175,j 176,j 177,j 178,j 179,j 180,j 181,j 182,j 183,j 184,j 185,j 186,j 187,j 188,j 189,j 190,j 191,j 192,j 193,j 194,j 195,j 196,j 197,j 198,j 199,j 200,j 201,j 202,j 203,j 204,j 205,j 206,j 207,j 208,j 209,j 210,j 211,j 212,j 213,j 214,j 215,j 216,j 217,j 218,j 219,j 220,j 221,j 222,j 223,j 224,j 225,j 226,j 227,j 228,j 229,j 230,j 231,j 232,j 233,j 234,j 235,j 236,j 237,j 238,j 239,j 240,j 241,j 242,j 243,j 244,j 245,j 246,j 247,j 248,j 249,j 250,j 251,j 252,j 253,j 254,j 255,j 256,j 257,j 258,j 259,j 260,j 261,j 262,j 263,j 264,j 265,j 266]:=by
 subst h0 h2 h7 h8 h10 h12 K5 K6 h16 K7 h18 h19 h20 h21;obtain ⟨l⟩:=t;exact ⟨fun i=>(⟨l⟩:Array Value).getD i undef,OL l h⟩
set_option maxRecDepth 100000 in
theorem Tryz.BR {t:Array Value} (h:t.size=267) {v0 v2 v7 v8 v10 v12 v14 v15 v16 v17 v18 v19 v20 v21 Ug:Value} (h0:t.getD 0 undef=v0) (h2:t.getD 2 undef=v2) (h7:t.getD 7 undef=v7) (h8:t.getD 8 undef=v8) (h10:t.getD 10 undef=v10) (h12:t.getD 12 undef=v12) (K5:t.getD 14 undef=v14) (K6:t.getD 15 undef=v15) (h16:t.getD 16 undef=v16) (K7:t.getD 17 undef=v17) (h18:t.getD 18 undef=v18) (h19:t.getD 19 undef=v19) (h20:t.getD 20 undef=v20) (h21:t.getD 21 undef=v21) (jN:t.getD 90 undef=Ug):
  ∃ j:Nat→Value,t= #[v0,j 1,v2,j 3,j 4,j 5,j 6,v7,v8,j 9,v10,j 11,v12,j 13,v14,v15,v16,v17,v18,v19,v20,v21,j 22,j 23,j 24,j 25,j 26,j 27,j 28,j 29,j 30,j 31,j 32,j 33,j 34,j 35,j 36,j 37,j 38,j 39,j 40,j 41,j 42,j 43,j 44,j 45,j 46,j 47,j 48,j 49,j 50,j 51,j 52,j 53,j 54,j 55,j 56,j 57,j 58,j 59,j 60,j 61,j 62,j 63,j 64,j 65,j 66,j 67,j 68,j 69,j 70,j 71,j 72,j 73,j 74,j 75,j 76,j 77,j 78,j 79,j 80,j 81,j 82,j 83,j 84,j 85,j 86,j 87,j 88,j 89,Ug,j 91,j 92,j 93,j 94,j 95,j 96,j 97,j 98,j 99,j 100,j 101,j 102,j 103,j 104,j 105,j 106,j 107,j 108,j 109,j 110,j 111,j 112,j 113,j 114,j 115,j 116,j 117,j 118,j 119,j 120,j 121,j 122,j 123,j 124,j 125,j 126,j 127,j 128,j 129,j 130,j 131,j 132,j 133,j 134,j 135,j 136,j 137,j 138,j 139,j 140,j 141,j 142,j 143,j 144,j 145,j 146,j 147,j 148,j 149,j 150,j 151,j 152,j 153,j 154,j 155,j 156,j 157,j 158,j 159,j 160,j 161,j 162,j 163,j 164,j 165,j 166,j 167,j 168,j 169,j 170,j 171,j 172,j 173,j 174,j 175,j 176,j 177,j 178,j 179,j 180,j 181,j 182,j 183,j 184,j 185,j 186,j 187,j 188,j 189,j 190,j 191,j 192,j 193,j 194,j 195,j 196,j 197,j 198,j 199,j 200,j 201,j 202,j 203,j 204,j 205,j 206,j 207,j 208,j 209,j 210,j 211,j 212,j 213,j 214,j 215,j 216,j 217,j 218,j 219,j 220,j 221,j 222,j 223,j 224,j 225,j 226,j 227,j 228,j 229,j 230,j 231,j 232,j 233,j 234,j 235,j 236,j 237,j 238,j 239,j 240,j 241,j 242,j 243,j 244,j 245,j 246,j 247,j 248,j 249,j 250,j 251,j 252,j 253,j 254,j 255,j 256,j 257,j 258,j 259,j 260,j 261,j 262,j 263,j 264,j 265,j 266]:=by
 subst h0 h2 h7 h8 h10 h12 K5 K6 h16 K7 h18 h19 h20 h21 jN;obtain ⟨l⟩:=t;exact ⟨fun i=>(⟨l⟩:Array Value).getD i undef,OL l h⟩
open Go.Dw Go.RowKit Go.Maps Go.Sort Go.Deep Go.ChangeShapes Go.WideShapes
structure Tryz.Dc where
 k:Int
 tk:Int
 sv:Value
 sl:List Sg
 n:Int
 v:Int
 gd:Bool
def Tryz.Dc.cells (c:Dc):List Value:= [.int .i64 c.k,.int .i64 c.tk,c.sv,.int .i64 c.n,.int .u32 c.v,.bool c.gd]
structure Tryz.Dc.ok (c:Dc) (w:World):Prop where
 k: -9223372036854775808≤c.k∧c.k<9223372036854775808
 tk: -9223372036854775808≤c.tk∧c.tk<9223372036854775808
 sv:bC (fun _=>False) w c.sv c.sl
 sn:c.sl.length<4000000000000000
 n: -9223372036854775808≤c.n∧c.n<9223372036854775808
 v:0≤c.v∧c.v<4294967296
structure Tryz.rW (w:World) (av:Value) (acts:List Dc):Prop where
 val: ∃aa c,av= .slice aa acts.length c∧(acts= []∨ ∃R o,aa=some ⟨R,o,none⟩∧ ∀i,(hi:i<acts.length)→w.rangeAt R (o+6*i) acts[i].cells)
 ok: ∀x∈acts,x.ok w
 len:acts.length<4000000000000000
theorem Tryz.rW.below {w w':World} {av:Value} {acts:List Dc} (h:rW w av acts) (hb:Below w.heap.size w w'):rW w' av acts:=by
 obtain ⟨aa,c,e,hr⟩:=h.val;refine ⟨⟨aa,c,e,?_⟩,fun x hx=> ?_,h.len⟩
 ·rcases hr with hr|⟨R,o,e1,hr⟩
  ·exact .inl hr
  ·exact .inr ⟨R,o,e1,fun i hi=>aX (hr i hi) (hb.block R (yan w _ (hr i hi 0 _ rfl)))⟩
 ·have o:=h.ok x hx;exact ⟨o.k,o.tk,o.sv.aZ (fun _ _ q=>q) (fun k hk _=>hb.block k hk),o.sn,o.n,o.v⟩
structure Tryz.KH (acts:List Dc) (i:Nat):Prop where
 h: ∀q,(hq:q<acts.length)→q<i→acts[q].sl.length≤100
def Tryz.tY (acts:List Dc):Bool:=decide (acts.length≤60)&&acts.all fun x=>decide (x.sl.length≤100)
theorem Tryz.QE {acts:List Dc} (h:tY acts=true):acts.length≤60∧ ∀x∈acts,x.sl.length≤100:=by
 unfold tY at h;simpa using h
set_option maxRecDepth 100000 in
theorem Tryz.Wn {w:World} {av:Value} {acts:List Dc} (h:rW w av acts):
  Calls prog 6 #[av] w fun e w'=>e= .returned (.bool (tY acts))∧w'=w:=by
 obtain ⟨aa,c,rfl,hr⟩:=h.val;have hl:=h.len;have hok:=h.ok;have hcell: ∀i,(hi:i<acts.length)→ ∃R o sa cs,aa=some ⟨R,o,none⟩∧w.cell? ⟨R,o+i*6+2,none⟩=some (.slice sa acts[i].sl.length cs):=fun i hi=>by
  rcases hr with q|⟨R,o,q1,q2⟩
  ·rw [q] at hi;simp at hi
  ·obtain ⟨sa,cs,e,_⟩:=(hok _ (yaA hi)).sv;have:=q2 i hi 2 _ rfl;rw [e,ybz 6 i] at this;exact ⟨R,o,sa,cs,q1,this⟩
 have hall:KH acts acts.length→ ∀x∈acts,x.sl.length≤100:=fun hh x hx=>by
  obtain ⟨q,hq,rfl⟩:=ycB.1 hx;exact hh.h q hq hq
 have hsn: ∀i,(hi:i<acts.length)→acts[i].sl.length<4000000000000000:=fun i hi=>(hok _ (yaA hi)).sn;clear hr hok h;obtain ⟨bb,hbb⟩: ∃bb,bb=tY acts:=⟨_,rfl⟩;rw [←hbb];go_enter func6,ntmps6;go_wp2;go_loopw [3] (fun iv wr=> ∃i:Nat,i≤acts.length∧iv= .int .i64 i∧KH acts i∧wr=w) (fun iv _=>acts.length-(RowKit.intOf iv).toNat)
 case atStart=>exact ⟨0,yar _,rfl,⟨fun q _ h=>by omega⟩,rfl⟩
 case round=>
  obtain ⟨i,hi,rfl,hbd,hwr⟩:=hrel;have hwr:=hwr.symm;subst hwr;by_cases hil:i<acts.length
  ·obtain ⟨R,o,sa,cs,rfl,hc⟩:=hcell i hil;have hq:=hsn i hil;obtain ⟨m,hm⟩: ∃m,m=acts[i].sl.length:=⟨_,rfl⟩;have hnx:m≤100→KH acts (i+1):=fun hle=>⟨fun q hq hlt=>by
    by_cases e:q=i
    ·subst e;rw [←hm];exact hle
    ·exact hbd.h q hq (by omega)⟩
   rw [←hm] at hc hq;clear hcell hsn;have Gr:(i:Int)<acts.length:=by omega
   by_cases Ab:i≤60
   ·have aal:(i:Int)≤60:=by omega
    by_cases F8:m≤100
    ·have K4: ¬(m:Int)>100:=by omega
     have hn:=hnx F8;clear hnx hbd hall hm hbb;go_wp2;exact ⟨⟨i+1,by omega,by push_cast;rfl,hn,trivial⟩,by simp only [RowKit.intOf];omega⟩
    ·have K4:(m:Int)>100:=by omega
     have hb:tY acts=false:=by
      rw [Bool.eq_false_iff];intro h;have:=(QE h).2 _ (yaA hil);omega
     have hb:=hbb.trans hb;subst hb;clear hnx hbd hall hbb hm;go_wp2;go_ret;exact ⟨rfl,rfl⟩
   ·have aal: ¬(i:Int)≤60:=by omega
    have ab0: ¬(acts.length:Int)≤60:=by omega
    have hb:tY acts=false:=by
     rw [Bool.eq_false_iff];intro h;have:=(QE h).1;omega
    have hb:=hbb.trans hb;subst hb;clear hnx hbd hall hbb hm;go_wp2;go_ret;exact ⟨rfl,rfl⟩
  ·have Gr: ¬(i:Int)<acts.length:=by omega
   have he:i=acts.length:=by omega
   have hb:tY acts=decide ((acts.length:Int)≤60):=by
    have hA:=hall (he▸hbd);unfold tY;rw [show (acts.all fun x=>decide (x.sl.length≤100))=true from by simpa using hA,Bool.and_true];exact ya4.2 (by omega)
   have hb:=hbb.trans hb;subst hb;clear hall hbd hcell hsn hbb;go_wp2;go_ret;exact ⟨rfl,rfl⟩
section
variable {H:Type} {enc:TypeId×Value→H} {W:World} {sp:Nat→Bool} {held:Bool} {fuel:Nat}
set_option maxRecDepth 100000 in
theorem Tryz.zuG {cs:List Value} {x:DataW H×List MemPlace} (h:DataW.trod enc prog W 0 sp held fuel 52 cs=some x) (hw: ∀n∈x.1.weights prog 52,n≤reachBytes): ∃c:Dc,cs=c.cells∧c.ok W:=by
 obtain ⟨xs,n,rfl,rfl,hl,hx,hf⟩:=DataW.trod_struct underlying52 h;have hl:cs.length=6:=hl.trans (by kernel_rfl);have hx:xs.length=6:=hx
 match cs,hl with
 | [c0,c1,c2,c3,c4,c5],_=>
  have f0:DataW.trod enc prog W 0 sp held n 3 [c0]=xs[0]? :=by
   have:=(show DataW.trod enc prog W 0 sp held n 3 (([c0,c1,c2,c3,c4,c5].drop 0).take (prog.cellsOf 3))=xs[0]? from hf 0 _ rfl);rw [show prog.cellsOf 3=1 from by kernel_rfl] at this;exact this
  have f1:DataW.trod enc prog W 0 sp held n 3 [c1]=xs[1]? :=by
   have:=(show DataW.trod enc prog W 0 sp held n 3 (([c0,c1,c2,c3,c4,c5].drop 1).take (prog.cellsOf 3))=xs[1]? from hf 1 _ rfl);rw [show prog.cellsOf 3=1 from by kernel_rfl] at this;exact this
  have f2:DataW.trod enc prog W 0 sp held n 49 [c2]=xs[2]? :=by
   have:=(show DataW.trod enc prog W 0 sp held n 49 (([c0,c1,c2,c3,c4,c5].drop 2).take (prog.cellsOf 49))=xs[2]? from hf 2 _ rfl);rw [show prog.cellsOf 49=1 from by kernel_rfl] at this;exact this
  have f3:DataW.trod enc prog W 0 sp held n 3 [c3]=xs[3]? :=by
   have:=(show DataW.trod enc prog W 0 sp held n 3 (([c0,c1,c2,c3,c4,c5].drop 3).take (prog.cellsOf 3))=xs[3]? from hf 3 _ rfl);rw [show prog.cellsOf 3=1 from by kernel_rfl] at this;exact this
  have f4:DataW.trod enc prog W 0 sp held n 50 [c4]=xs[4]? :=by
   have:=(show DataW.trod enc prog W 0 sp held n 50 (([c0,c1,c2,c3,c4,c5].drop 4).take (prog.cellsOf 50))=xs[4]? from hf 4 _ rfl);rw [show prog.cellsOf 50=1 from by kernel_rfl] at this;exact this
  have f5:DataW.trod enc prog W 0 sp held n 4 [c5]=xs[5]? :=by
   have:=(show DataW.trod enc prog W 0 sp held n 4 (([c0,c1,c2,c3,c4,c5].drop 5).take (prog.cellsOf 4))=xs[5]? from hf 5 _ rfl);rw [show prog.cellsOf 4=1 from by kernel_rfl] at this;exact this
  rw [Fh (by omega)] at f0 f1 f2 f3 f4 f5;obtain ⟨n0,e0,_,w0⟩:=ycz underlying3 f0;obtain ⟨n1,e1,_,w1⟩:=ycz underlying3 f1;obtain ⟨n3,e3,_,w3⟩:=ycz underlying3 f3;obtain ⟨n4,e4,_,w4⟩:=ycz underlying50 f4;obtain ⟨sl,hsl,hsn⟩:=zqu f2 fun m hm=>hw m (by
   unfold DataW.weights;rw [underlying52];exact DataW.weights_mem_each (j:=2) (t:=49) (d:=xs[2].1) rfl (by rw [ybf,Fh (by omega)];rfl) m hm)
  obtain ⟨gb,e5,_⟩:=DataW.trod_bool underlying4 f5;simp only [ybb,ybq] at e0 e1 e3 e4 e5;subst e0 e1 e3 e4 e5;have b0:=bounds_i64 w0;have b1:=bounds_i64 w1;have b3:=bounds_i64 w3;have b4:=bounds_u32 w4;exact ⟨⟨n0,n1,c2,sl,n3,n4,gb⟩,rfl,⟨by show _≤n0;omega,by show n0<_;omega⟩,⟨by show _≤n1;omega,by show n1<_;omega⟩,hsl,hsn,⟨by show _≤n3;omega,by show n3<_;omega⟩,⟨by show 0≤n4;omega,by show n4<_;omega⟩⟩
theorem Tryz.UH {e:TypeId}: ∀ {l:List (DataW H)} {d:DataW H},d∈l→ ∀n∈d.weights prog e,n∈DataW.weightsAll prog e l
 | x::r,d,h,n,hn=>by
  unfold DataW.weightsAll;rcases yaj.1 h with rfl|h
  ·exact yce _ hn
  ·exact yca _ (UH h n hn)
set_option maxRecDepth 100000 in
theorem Tryz.aah {v:Value} {x:DataW H×List MemPlace} (h:DataW.trod enc prog W 0 sp held fuel 24 [v]=some x) (hw: ∀n∈x.1.weights prog 24,n≤reachBytes):
  ∃ l,rW W v l:=by
 rcases DataW.trod_slice underlying24 h with ⟨e,_⟩|⟨a,len,cap,elems,rest,n,rfl,e,rfl,_,hlc,hcap,hel,hc,_⟩
 ·simp only [ybb,ybq] at e;subst e;exact ⟨[],⟨⟨none,0,rfl,.inl rfl⟩,fun x hx=>(by cases hx),by decide⟩⟩
 ·simp only [ybb,ybq] at e;subst e;have hb:prog.bytesOf 52=56:=by kernel_rfl
  have hc9:prog.cellsOf 52=6:=by kernel_rfl
  have hws: ∀m,(m=(elems.length+rest.length)*56∨m∈DataW.weightsAll prog 52 (elems.map (·.1)))→m≤reachBytes:=fun m hm=>hw m (by
   unfold DataW.weights;rw [underlying24];simp only [yaK,hb,yaj,ya2];rcases hm with hm|hm
   ·exact .inl hm
   ·exact .inr (.inl hm))
  have hsz:=hws _ (.inl rfl);unfold reachBytes at hsz;rw [hc9] at hc;obtain ⟨l,hll,hl⟩:=Qm (p:=fun i (s:Dc)=>W.cells? 0 (a.add (i*6)) 6=some s.cells∧s.ok W) len fun i hi=>by
   have:=hc i hi;rw [Fh (by omega)] at this;obtain ⟨cs,h1,h2⟩:=ycY.1 this;obtain ⟨s,rfl,hs⟩:=zuG h2 fun m hm=>hws m (.inr (UH (yaY.2 ⟨_,yaA _,rfl⟩) m hm));exact ⟨s,h1,hs⟩
  subst hll;refine ⟨l,⟨⟨some a,cap,rfl,?_⟩,fun s hs=> ?_,by omega⟩⟩
  ·by_cases h0:l= []
   ·exact .inl h0
   ·right;obtain ⟨ab,ao,aq⟩:=a;have hp:0<l.length:=ybw.2 h0;have hs:aq=none:=cell_spot ((yc0 (hl 0 hp).1).2.2 0 (by decide));subst hs;refine ⟨ab,ao,rfl,fun i hi j y hy=> ?_⟩;have hj:j<6:=by
     have:=yat.1 hy;simpa [Dc.cells] using this.1
    have:=(yc0 (hl i hi).1).2.2 j hj;rw [hy,addr_add,addr_add] at this;rw [show ao+6*i+j=ao+i*6+j by omega];exact this
  ·obtain ⟨i,hi,rfl⟩:=ycB.1 hs;exact (hl i hi).2
end
end Go.Proofs
namespace Go.Proofs
open Go.Dw Go.RowKit Go.Maps Go.Sort Go.Deep
theorem Tryz.NG {j k:Int} (hj:j≠k): ∀L:List DO,fA (dJ L k) j=fA L j
 | [] => rfl
 | e::r=>by
  unfold dJ;by_cases he:e.id=k
  ·rw [ycZ (by simpa using he)];have: ¬e.id=j:=fun q=>hj (q.symm.trans he);simp [fA,this]
  ·rw [ycm (by simpa using he)];have ih:=NG hj r;unfold dJ fA at ih;unfold fA;rw [List.find?_cons,List.find?_cons,ih]
theorem Tryz.zlZ {j k:Int} (hj:j≠k) (L:List DO):kg (dJ L k) j=kg L j:=by rw [←tC,←tC,NG hj]
theorem Tryz.UI {k:Int}: ∀ {L:List DO},(L.map (·.id)).Nodup→kg (dJ L k) k=false
 | [], _=>rfl
 | e::r,h=>by
  rw [yaU,ycG] at h;unfold dJ;by_cases he:e.id=k
  ·rw [ycZ (by simpa using he)];cases hq:kg r k with
   | false=>rfl
   | true=>
    obtain ⟨x,hx,hxe⟩:=XE.1 hq;exact absurd (yaY.2 ⟨x,hx,hxe.trans he.symm⟩) h.1
  ·rw [ycm (by simpa using he)];have ih:=UI (k:=k) h.2;unfold dJ kg at ih;unfold kg;rw [List.any_cons,ih];simpa using he
section
variable {fns gW:List Nat} {nw ji:Prop} {A A':Nat→Prop} {w w':World} {S P L Bs B I N:Nat} {r:Tryz.Rg} {s s':Tryz.DS} {g g':Nat→Int}
theorem Tryz.mF.del {n:Nat} {l:List DO} {k:Nat} (h:mF A w I n l) (hnd:(l.map (·.id)).Nodup) (aI:A I) (hk:k<n):mF A (w.setCell ⟨I,k,none⟩ (.pointer none)) I n (dJ l k):=by
 obtain ⟨vs,h1,h2,h3⟩:=h;have hm:Dw.Mv (· =I) w (w.setCell ⟨I,k,none⟩ (.pointer none)):=zag (K:=(· =I)) (ah (yab _ _)) I k _ rfl;refine ⟨vs.set k (.pointer none),h1.set k _ (by omega),by rw [yc6];exact h2,fun j hj=> ?_⟩;rw [yc6] at hj;by_cases hjk:j=k
 ·subst hjk;refine ⟨fun _=>by simp,fun e he=> ?_⟩;have:=UI (k:=j) hnd;rw [←tC,he] at this;cases this
 ·have hne:(j:Int)≠k:=by omega
  rw [zlZ hne,NG hne,List.getElem_set_ne (fun e=>hjk e.symm)];exact ⟨(h3 j hj).1,fun e he=>((h3 j hj).2 e he).aZ (fun _ _ q=>q) fun b hb hn=>hm.block b hb fun q=>hn (by have q:b=I:=q;exact q▸aI)⟩
theorem Tryz.aQ.Nc (h:aQ fns nw A w S P L Bs B I N r s g) (hm:Dw.Mv (· =I) w w') {l':List DO} (hi:mF A w' I r.n.toNat l'):aQ fns nw A w' S P L Bs B I N r { s with L:=l' } g:=by
 have hk: ∀b,b<w.heap.size→ ¬A b→w'.heap[b]? =w.heap[b]? :=fun b hb hn=>hm.block b hb fun e=>hn (by have e:b=I:=e;exact e▸h.aI);obtain ⟨aT,aU,au,aj,h1,h2,h3,h4,h5,h6⟩:=h.ptr hk;have hM:=h.md;exact ⟨⟨aT,aU,au,aj,h1.kept (hm.block S h1.lt h.ne),h2,h3,h4,h5,h6⟩,hi,h.mem.kept (fun k hk' hq=>hm.block k hk' (by show¬k=I;rcases hq with q|q|q|q<;>(rw [q];simp [hM.1.symm,hM.2.1.symm,hM.2.2.1.symm,hM.2.2.2.symm]))) hm.size,h.ne,h.aS,h.aI,h.aB,fun b q=>yae (h.lt b q) hm.size,h.rg,h.hN,h.fit,h.sd,h.md⟩
set_option maxRecDepth 100000 in
theorem Tryz.zlX (h:aQ fns nw A w S P L Bs B I N r s g) (hs:0≤s.sx∧s.sx<r.n) (hel: ∀e∈s.L,e.id<r.n) (hget:fA s.L (bW g (4096+16*s.sx+8).toNat 8/4294967296%65536)=none):
    Calls prog 126 #[.pointer (some ⟨S,0,none⟩)] w fun e w'=>e= .returned (.tuple #[.agg #[.int .i64 2,.int .i64 1,.int .i64 s.sx],.bool false])∧aQ fns nw A w' S P L Bs B I N r s g∧Dw.Mv (· =S) w w':=by
  have hlt:=h.lG;have hb:=h.rg.bnd;have hd:=h.rg.d;have hN:=h.hN;have hF:=h.fit;have hbx:=(yab w.heap.size w).alloc (yaa _) (Obj.cells #[.int .i64 0,.int .i64 0,.int .i64 0] 54);have k2:=Cl.new w #[.int .i64 0,.int .i64 0,.int .i64 0] 54;have hX:=h.box (Obj.cells #[.int .i64 0,.int .i64 0,.int .i64 0] 54);obtain ⟨aT,aU,au,aj,h1,h1b⟩:=hX.obj;have c12:=h1.cell 12 _ rfl;have bJ:=(yab (w.alloc (Obj.cells #[.int .i64 0,.int .i64 0,.int .i64 0] 54)).heap.size (w.alloc (Obj.cells #[.int .i64 0,.int .i64 0,.int .i64 0] 54))).alloc (yaa _) (Obj.cells #[.int .i64 2,.int .i64 1,.int .i64 s.sx] 54);have hY:=hX.below bJ;have kY:=k2.below bJ k2.lt;have y2:=Cl.new (w.alloc (Obj.cells #[.int .i64 0,.int .i64 0,.int .i64 0] 54)) #[.int .i64 2,.int .i64 1,.int .i64 s.sx] 54;rw [fw] at y2;have oY:=h1.below bJ h1.lt;have hbd:=(yab ((w.alloc (Obj.cells #[.int .i64 0,.int .i64 0,.int .i64 0] 54)).alloc (Obj.cells #[.int .i64 2,.int .i64 1,.int .i64 s.sx] 54)).heap.size ((w.alloc (Obj.cells #[.int .i64 0,.int .i64 0,.int .i64 0] 54)).alloc (Obj.cells #[.int .i64 2,.int .i64 1,.int .i64 s.sx] 54))).drew;have hYd:=hY.below hbd;have wK:=kY.below hbd kY.lt;have yd:=y2.below hbd y2.lt;have od:=oY.below hbd oY.lt;have hpl:=tq hYd hs;obtain ⟨a,ha,ha2⟩: ∃a:Nat,(a:Int)=r.d+16*s.sx+8∧a+8≤N:=⟨(r.d+16*s.sx+8).toNat,by omega,by omega⟩;have e3:IntKind.wrap .u64 (r.d+16*s.sx+8)=(a:Int):=by rw [wrap_u64 _ (by omega) (by omega)];omega
  have ea:(4096+16*s.sx+8).toNat=a:=by omega
  rw [ea] at hget;have hwb:=sV g h.mem.byte a 8;have hld:=JG P L Bs B N a 8 g _ hYd.mem h.hN (by decide) ha2;generalize bW g a 8=wv at hwb hld hget;have qX:0≤wv∧wv<18446744073709551616:=⟨hwb.1,by omega⟩;obtain ⟨id,hid,uE⟩: ∃id:Nat,wv/4294967296%65536=id∧id<65536:=⟨(wv/4294967296%65536).toNat,by omega,by omega⟩;have aaK:IntKind.wrap .u16 (wv/4294967296)=id:=by rw [←hid];unfold IntKind.wrap;simp [IntKind.signed,IntKind.bits]
  rw [hid] at hget;have hn0:((r.n.toNat:Nat):Int)=r.n:=by omega
  have d0:=od.cell 0 _ rfl;have d12:=od.cell 12 _ rfl;have v0:=oY.cell 0 _ rfl;have v12:=oY.cell 12 _ rfl;have hno:kg s.L id=false:=by rw [←tC,hget];rfl
  clear hs hb hd hN hF ha ha2 ea hwb hget hel;go_enter func126,ntmps126;go_wp2_with fail;go_region_held3 (fun w'=>w'.cell? ⟨S,0,none⟩=some (.pointer (some ⟨P,0,none⟩))∧w'.cell? ⟨S,12,none⟩=some (.int .i64 s.sx)) (go_keep)
    ((first
      | (go_at_call 57;refine hpl.mono ?_;rintro en w3 ⟨rfl,hw3⟩;have hw3:=hw3.symm;subst hw3)
      | (go_at_call 119;refine hld.mono ?_;rintro en w4 ⟨rfl,hb4⟩;have h4:=hYd.below hb4;have o4:=od.below hb4 od.lt;have k4:=wK.below hb4 wK.lt;have y4:=yd.below hb4 yd.lt;have x0:=o4.cell 0 _ rfl;have rF:=o4.cell 12 _ rfl)))
  all_goals
    obtain ⟨vs,i1,i2,i3⟩:=h4.ids;have o15:=o4.cell 15 _ rfl;have u0:=y4.cell 0 _ rfl;have u1:=y4.cell 1 _ rfl;have u2:=y4.cell 2 _ rfl;have b0:=k4.cell 0 _ rfl;have b1:=k4.cell 1 _ rfl;have b2:=k4.cell 2 _ rfl;have q0:=k4.free 0;have q1:=k4.free 1;have q2:=k4.free 2;have hmv:=(((ah (K:=(· =S)) hbx).trans (ah bJ)).trans (ah hbd)).trans (ah hb4);by_cases hin:id<r.n.toNat
    · have hin':(id:Int)<r.n.toNat:=by omega
      have hin2: ¬(r.n.toNat:Int)≤id:=by omega
      have hcell:=i1.cell id _ (yai (by omega));rw [(i3 id (by omega)).1 hno] at hcell;clear i3;go_wp2_with fail;have kA:=(((k4.set 0 (.int .i64 2) (by simp)).set 1 (.int .i64 1) (by simp)).set 2 (.int .i64 s.sx) (by simp));refine yap (bU rfl _ _ w.heap.size [.int .i64 2,.int .i64 1,.int .i64 s.sx] _ rfl (fun j y hy=>by rw [yaf];exact kA.cell j y hy) underlying54 rfl (by kernel_rfl)) rfl ?_;exact ⟨rfl,h4.fin h.aS h.aI h.aB ⟨by omega,by omega,by omega,by omega,by omega,by omega⟩ (zag (zag (zag (ah (K:=(· =w.heap.size)) (yab _ _)) w.heap.size 0 _ rfl) w.heap.size 1 _ rfl) w.heap.size 2 _ rfl),aD (aD (aD (hmv) w.heap.size 0 _ (.inr (yaa _))) w.heap.size 1 _ (.inr (yaa _))) w.heap.size 2 _ (.inr (yaa _))⟩
    · have hin':(r.n.toNat:Int)≤id:=by omega
      clear i3;go_wp2_with fail;have kA:=(((k4.set 0 (.int .i64 2) (by simp)).set 1 (.int .i64 1) (by simp)).set 2 (.int .i64 s.sx) (by simp));refine yap (bU rfl _ _ w.heap.size [.int .i64 2,.int .i64 1,.int .i64 s.sx] _ rfl (fun j y hy=>by rw [yaf];exact kA.cell j y hy) underlying54 rfl (by kernel_rfl)) rfl ?_;exact ⟨rfl,h4.fin h.aS h.aI h.aB ⟨by omega,by omega,by omega,by omega,by omega,by omega⟩ (zag (zag (zag (ah (K:=(· =w.heap.size)) (yab _ _)) w.heap.size 0 _ rfl) w.heap.size 1 _ rfl) w.heap.size 2 _ rfl),aD (aD (aD (hmv) w.heap.size 0 _ (.inr (yaa _))) w.heap.size 1 _ (.inr (yaa _))) w.heap.size 2 _ (.inr (yaa _))⟩
end
end Go.Proofs
namespace Go.Proofs
open Go.Dw Go.RowKit Go.Maps Go.Sort Go.Deep
section
variable {fns gW:List Nat} {nw ji:Prop} {A A':Nat→Prop} {w w':World} {S P L Bs B I N:Nat} {r:Tryz.Rg} {s s':Tryz.DS} {g g':Nat→Int}
set_option maxRecDepth 100000 in
theorem Tryz.zlW (h:aQ fns nw A w S P L Bs B I N r s g) (hs:0≤s.sx∧s.sx<r.n) (hnd:(s.L.map (·.id)).Nodup) {e:DO} (hel:(0≤e.id∧e.id<r.n)∧(1≤e.ct∧e.ct≤r.n)) (how:0≤s.own∧s.own+e.ct≤r.n) (hget:fA s.L (bW g (4096+16*s.sx+8).toNat 8/4294967296%65536)=some e)
    {s1:DS} (hs1:s1= { s with tok:=e.tk,wr:=bW g (4096+16*s.sx+8).toNat 8%4294967296,own:=s.own+e.ct,L:=dJ s.L e.id,sx:=(dF r.n s.sx s.sw e.ct).1,sw:=(dF r.n s.sx s.sw e.ct).2 }):
    Calls prog 126 #[.pointer (some ⟨S,0,none⟩)] w fun e w'=>e= .returned (.tuple #[.agg #[.int .i64 2,.int .i64 1,.int .i64 s.sx],.bool true])∧aQ fns nw A w' S P L Bs B I N r s1 g∧Dw.Mv (fun b=>b=S∨b=I) w w':=by
  have hlt:=h.lG;have hb:=h.rg.bnd;have hd:=h.rg.d;have hN:=h.hN;have hF:=h.fit;have hbx:=(yab w.heap.size w).alloc (yaa _) (Obj.cells #[.int .i64 0,.int .i64 0,.int .i64 0] 54);have k2:=Cl.new w #[.int .i64 0,.int .i64 0,.int .i64 0] 54;have hX:=h.box (Obj.cells #[.int .i64 0,.int .i64 0,.int .i64 0] 54);obtain ⟨aT,aU,au,aj,h1,h1b⟩:=hX.obj;have c12:=h1.cell 12 _ rfl;have bJ:=(yab (w.alloc (Obj.cells #[.int .i64 0,.int .i64 0,.int .i64 0] 54)).heap.size (w.alloc (Obj.cells #[.int .i64 0,.int .i64 0,.int .i64 0] 54))).alloc (yaa _) (Obj.cells #[.int .i64 2,.int .i64 1,.int .i64 s.sx] 54);have hY:=hX.below bJ;have kY:=k2.below bJ k2.lt;have y2:=Cl.new (w.alloc (Obj.cells #[.int .i64 0,.int .i64 0,.int .i64 0] 54)) #[.int .i64 2,.int .i64 1,.int .i64 s.sx] 54;rw [fw] at y2;have oY:=h1.below bJ h1.lt;have hbd:=(yab ((w.alloc (Obj.cells #[.int .i64 0,.int .i64 0,.int .i64 0] 54)).alloc (Obj.cells #[.int .i64 2,.int .i64 1,.int .i64 s.sx] 54)).heap.size ((w.alloc (Obj.cells #[.int .i64 0,.int .i64 0,.int .i64 0] 54)).alloc (Obj.cells #[.int .i64 2,.int .i64 1,.int .i64 s.sx] 54))).drew;have hYd:=hY.below hbd;have wK:=kY.below hbd kY.lt;have yd:=y2.below hbd y2.lt;have od:=oY.below hbd oY.lt;have hpl:=tq hYd hs;obtain ⟨a,ha,ha2⟩: ∃a:Nat,(a:Int)=r.d+16*s.sx+8∧a+8≤N:=⟨(r.d+16*s.sx+8).toNat,by omega,by omega⟩;have e3:IntKind.wrap .u64 (r.d+16*s.sx+8)=(a:Int):=by rw [wrap_u64 _ (by omega) (by omega)];omega
  have ea:(4096+16*s.sx+8).toNat=a:=by omega
  rw [ea] at hget hs1;have hwb:=sV g h.mem.byte a 8;have hld:=JG P L Bs B N a 8 g _ hYd.mem h.hN (by decide) ha2;generalize bW g a 8=wv at hwb hld hget hs1;have qX:0≤wv∧wv<18446744073709551616:=⟨hwb.1,by omega⟩;obtain ⟨id,hid,uE⟩: ∃id:Nat,wv/4294967296%65536=id∧id<65536:=⟨(wv/4294967296%65536).toNat,by omega,by omega⟩;have aaK:IntKind.wrap .u16 (wv/4294967296)=id:=by rw [←hid];unfold IntKind.wrap;simp [IntKind.signed,IntKind.bits]
  rw [hid] at hget;have hn0:((r.n.toNat:Nat):Int)=r.n:=by omega
  have d0:=od.cell 0 _ rfl;have d12:=od.cell 12 _ rfl;have v0:=oY.cell 0 _ rfl;have v12:=oY.cell 12 _ rfl;have aaH:e.id=id:=(yZ hget).2;rw [aaH] at hs1 hel;have hgo:=fun w'=>Qk (n:=r.n) (a:=s.sx) (c:=e.ct) (x:=s.sw) ⟨hb.1,by omega⟩ hs ⟨by omega,hel.2.2⟩ w';have hu0:=BJ (n:=r.n) (a:=s.sx) (x:=s.sw) (c:=e.ct) hs ⟨by omega,hel.2.2⟩;obtain ⟨u1,hu1⟩: ∃u1,u1=(dF r.n s.sx s.sw e.ct).1:=⟨_,rfl⟩;obtain ⟨u2,hu2⟩: ∃u2,u2=(dF r.n s.sx s.sw e.ct).2:=⟨_,rfl⟩;rw [←hu1] at hgo hu0 hs1;rw [←hu2] at hgo hs1;unfold bM at hgo;have ew1:IntKind.wrap .i64 (s.own+e.ct)=s.own+e.ct:=dV (by omega) (by omega);have ew2:IntKind.wrap .u32 wv=wv%4294967296:=by unfold IntKind.wrap;simp [IntKind.signed,IntKind.bits]
  have hin:id<r.n.toNat:=by omega
  have hin':(id:Int)<r.n.toNat:=by omega
  have hin2: ¬(r.n.toNat:Int)≤id:=by omega
  clear hs hb hd hN hF ha ha2 ea hwb hu1 hu2 hel hu0 how;go_enter func126,ntmps126;go_wp2_with fail;go_region_held3 (fun w'=>w'.cell? ⟨S,0,none⟩=some (.pointer (some ⟨P,0,none⟩))∧w'.cell? ⟨S,12,none⟩=some (.int .i64 s.sx)) (go_keep)
    ((first
      | (go_at_call 57;refine hpl.mono ?_;rintro en w3 ⟨rfl,hw3⟩;have hw3:=hw3.symm;subst hw3)
      | (go_at_call 119;refine hld.mono ?_;rintro en w4 ⟨rfl,hb4⟩;have h4:=hYd.below hb4;have o4:=od.below hb4 od.lt;have k4:=wK.below hb4 wK.lt;have y4:=yd.below hb4 yd.lt;have x0:=o4.cell 0 _ rfl;have rF:=o4.cell 12 _ rfl)))
  obtain ⟨vs,i1,i2,i3⟩:=h4.ids;have Aw:=mF.del ⟨vs,i1,i2,i3⟩ hnd h4.aI hin;obtain ⟨O,hOe,pJ,hO4⟩:=(i3 id (by omega)).2 e hget;have hcell:=i1.cell id _ (yai (by omega));rw [hOe] at hcell;have hIf:=i1.free id;have yh:O≠S:=fun q=>pJ (q▸h4.aS);have Rz:O≠I:=fun q=>pJ (q▸h4.aI);have hOX:O≠w.heap.size:=fun q=>pJ (.inr q);have Gi:S≠I:=h.ne;have aH:Dw.Mv (· =I) w4 (w4.setCell ⟨I,id,none⟩ (.pointer none)):=zag (K:=(· =I)) (ah (yab _ _)) I id _ rfl;have Lh:=aX hO4 (aH.block O (fJ hO4 (by simp [DO.cells])) Rz);have h5:=h4.Nc aH Aw;have o5:Cl (w4.setCell ⟨I,id,none⟩ (.pointer none)) S (({ s with L:=dJ s.L id }:DS).row r P I aT aU au aj):=o4.kept (aH.block S o4.lt Gi);have o6:=o5.set 22 (.int .i64 e.tk) (by show 22<27;decide);have MI:=o5.set 23 (.int .u32 (wv%4294967296)) (by show 23<27;decide);have Be:=o4.cell 15 _ rfl;have acu:=o5.cell 22 _ rfl;have acy:=o6.cell 23 _ rfl;have acz:=o5.cell 23 _ rfl;have acv:=MI.cell 22 _ rfl;have x22:=o5.free 22;have x23:=o6.free 23;have acw:=o5.free 23;have acs:=MI.free 22;have m1:=Lh 1 _ rfl;have kT:=o5.cell 15 _ rfl;have hXI:w.heap.size≠I:=by omega
  have iU:w.heap.size≠S:=by omega
  have k5:=k4.kept (aH.block _ k4.lt hXI);have hYI:w.heap.size+1≠I:=by omega
  have kJ:w.heap.size+1≠S:=by omega
  have y5:=y4.kept (aH.block _ y4.lt hYI);have hF: ∀w7,Dw.Mv (· =S) (w4.setCell ⟨I,id,none⟩ (.pointer none)) w7→aQ fns nw (fun b=>A b∨b=w.heap.size) w7 S P L Bs B I N r ({ s with L:=dJ s.L id,tok:=e.tk,wr:=wv%4294967296 }:DS) g→Cl w7 S (({ s with L:=dJ s.L id,tok:=e.tk,wr:=wv%4294967296 }:DS).row r P I aT aU au aj)→aQ fns nw (fun b=>A b∨b=w.heap.size) w7 S P L Bs B I N r ({ s with L:=dJ s.L id,tok:=e.tk,wr:=wv%4294967296 }:DS) g∧Cl w7 S (({ s with L:=dJ s.L id,tok:=e.tk,wr:=wv%4294967296 }:DS).row r P I aT aU au aj)∧Dw.Mv (· =S) (w4.setCell ⟨I,id,none⟩ (.pointer none)) w7∧w7.rangeAt O 0 e.cells∧Cl w7 w.heap.size [.int .i64 0,.int .i64 0,.int .i64 0]∧Cl w7 (w.heap.size+1) [.int .i64 2,.int .i64 1,.int .i64 s.sx]:=fun w7 hm a b=>⟨a,b,hm,aX Lh (hm.block O (fJ Lh (by simp [DO.cells])) yh),k5.kept (hm.block _ k5.lt iU),y5.kept (hm.block _ y5.lt kJ)⟩;have hA:=hF (((w4.setCell ⟨I,id,none⟩ (.pointer none)).setCell ⟨S,22,none⟩ (.int .i64 e.tk)).setCell ⟨S,23,none⟩ (.int .u32 (wv%4294967296))) (zag (K:=(· =S)) (zag (K:=(· =S)) (ah (yab _ _)) S 22 _ rfl) S 23 _ rfl) ((h5.setRow (s':=({ s with L:=dJ s.L id,tok:=e.tk }:DS)) 22 (.int .i64 e.tk) (by decide) (fun _ _ _ _=>rfl) rfl rfl rfl rfl).setRow (s':=({ s with L:=dJ s.L id,tok:=e.tk,wr:=wv%4294967296 }:DS)) 23 (.int .u32 (wv%4294967296)) (by decide) (fun _ _ _ _=>rfl) rfl rfl rfl rfl) (o6.set 23 (.int .u32 (wv%4294967296)) (by show 23<27;decide));have hB:=hF (((w4.setCell ⟨I,id,none⟩ (.pointer none)).setCell ⟨S,23,none⟩ (.int .u32 (wv%4294967296))).setCell ⟨S,22,none⟩ (.int .i64 e.tk)) (zag (K:=(· =S)) (zag (K:=(· =S)) (ah (yab _ _)) S 23 _ rfl) S 22 _ rfl) ((h5.setRow (s':=({ s with L:=dJ s.L id,wr:=wv%4294967296 }:DS)) 23 (.int .u32 (wv%4294967296)) (by decide) (fun _ _ _ _=>rfl) rfl rfl rfl rfl).setRow (s':=({ s with L:=dJ s.L id,tok:=e.tk,wr:=wv%4294967296 }:DS)) 22 (.int .i64 e.tk) (by decide) (fun _ _ _ _=>rfl) rfl rfl rfl rfl) (MI.set 22 (.int .i64 e.tk) (by show 22<27;decide));clear hF;have hIS:I≠S:=fun q=>Gi q.symm;have hSO:S≠O:=fun q=>yh q.symm;have hIO:I≠O:=fun q=>Rz q.symm;clear i3 Aw hget;go_wp2_with fail
  all_goals
    first
      | (rw [show (((w4.setCell ⟨I,id,none⟩ (.pointer none)).setCell ⟨S,22,none⟩ (.int .i64 e.tk)).setCell ⟨S,23,none⟩ (.int .u32 (wv%4294967296)))=(((w4.setCell ⟨I,id,none⟩ (.pointer none)).setCell ⟨S,22,none⟩ (.int .i64 e.tk)).setCell ⟨S,23,none⟩ (.int .u32 (wv%4294967296))) from rfl];generalize (((w4.setCell ⟨I,id,none⟩ (.pointer none)).setCell ⟨S,22,none⟩ (.int .i64 e.tk)).setCell ⟨S,23,none⟩ (.int .u32 (wv%4294967296)))=w7 at hA ⊢;obtain ⟨h7,o7,jR,Gd,k7,y7⟩:=hA;clear hB)
      | (rw [show (((w4.setCell ⟨I,id,none⟩ (.pointer none)).setCell ⟨S,23,none⟩ (.int .u32 (wv%4294967296))).setCell ⟨S,22,none⟩ (.int .i64 e.tk))=(((w4.setCell ⟨I,id,none⟩ (.pointer none)).setCell ⟨S,23,none⟩ (.int .u32 (wv%4294967296))).setCell ⟨S,22,none⟩ (.int .i64 e.tk)) from rfl];generalize (((w4.setCell ⟨I,id,none⟩ (.pointer none)).setCell ⟨S,23,none⟩ (.int .u32 (wv%4294967296))).setCell ⟨S,22,none⟩ (.int .i64 e.tk))=w7 at hB ⊢;obtain ⟨h7,o7,jR,Gd,k7,y7⟩:=hB;clear hA)
    have aat:O<w7.heap.size:=fJ Gd (by simp [DO.cells]);have n14:=o7.cell 14 _ rfl;have n2:=Gd 2 _ rfl;have f14:=o7.free 14;go_cut [] from 80 to 90 (fun wx=>aQ fns nw (fun b=>A b∨b=w.heap.size) wx S P L Bs B I N r ({ s with L:=dJ s.L id,tok:=e.tk,wr:=wv%4294967296,own:=s.own+e.ct }:DS) g∧Cl wx S (({ s with L:=dJ s.L id,tok:=e.tk,wr:=wv%4294967296,own:=s.own+e.ct }:DS).row r P I aT aU au aj)∧Cl wx w.heap.size [.int .i64 0,.int .i64 0,.int .i64 0]∧Cl wx (w.heap.size+1) [.int .i64 2,.int .i64 1,.int .i64 s.sx]∧wx.rangeAt O 0 e.cells∧Dw.Mv (· =S) w7 wx)
    case first=>
      go_region_law fail
      all_goals
        go_wp2_with fail;go_meet;have dm:Dw.Mv (· =S) w7 (w7.setCell ⟨S,14,none⟩ (.int .i64 (s.own+e.ct))).drew:=(zag (K:=(· =S)) (ah (yab w7.heap.size w7)) S 14 _ rfl).trans (ah (yab _ _).drew);exact ⟨(h7.setRow (s':=({ s with L:=dJ s.L id,tok:=e.tk,wr:=wv%4294967296,own:=s.own+e.ct }:DS)) 14 (.int .i64 (s.own+e.ct)) (by decide) (fun _ _ _ _=>rfl) rfl rfl rfl rfl).below (yab _ _).drew,(o7.set 14 (.int .i64 (s.own+e.ct)) (by show 14<27;decide)).kept (w':=(w7.setCell ⟨S,14,none⟩ (.int .i64 (s.own+e.ct))).drew) rfl,k7.kept (dm.block _ k7.lt iU),y7.kept (dm.block _ y7.lt kJ),aX Gd (dm.block O aat yh),dm⟩
    case rest=>
      obtain ⟨h8,o8,k8,y8,nk,dm⟩:=hcut;have abU:O<wc.heap.size:=fJ nk (by simp [DO.cells]);clear n14 n2 f14;have j12:=o8.cell 12 _ rfl;have j13:=o8.cell 13 _ rfl;have j2:=o8.cell 2 _ rfl;have jO:=nk 2 _ rfl;have aa7:=o8.free 12;have aa8:=o8.free 13;have hall:=((((((ah (K:=fun b=>b=S∨b=I) hbx).trans (ah bJ)).trans (ah hbd)).trans (ah hb4)).trans (aH.mono fun b q=> .inr q)).trans (jR.mono fun b q=> .inl q)).trans (dm.mono fun b q=> .inl q);go_wp2_with fail;go_cut [] from 91 to 110 (fun wx=>aQ fns nw (fun b=>A b∨b=w.heap.size) wx S P L Bs B I N r ({ s with L:=dJ s.L id,tok:=e.tk,wr:=wv%4294967296,own:=s.own+e.ct,sx:=u1,sw:=u2 }:DS) g∧Cl wx w.heap.size [.int .i64 0,.int .i64 0,.int .i64 0]∧Cl wx (w.heap.size+1) [.int .i64 2,.int .i64 1,.int .i64 s.sx]∧Dw.Mv (· =S) wc wx)
      case first=>
        go_region_law (first
          | (go_simp;go_at_call 113;refine (hgo wc.drew).mono ?_;rintro en w9 ⟨rfl,dI⟩;have p9:=(o8.kept (w':=wc.drew) rfl).below dI o8.lt;have Nl:=p9.cell 12 _ rfl;have y13:=p9.cell 13 _ rfl;have f12:=p9.free 12;have f13:=p9.free 13))
        all_goals
          go_wp2_with fail;go_meet;have RS:Below wc.heap.size wc w9:=((yab wc.heap.size wc).drew).trans dI;have h9:=((h8.below RS).setRow (s':=({ s with L:=dJ s.L id,tok:=e.tk,wr:=wv%4294967296,own:=s.own+e.ct,sx:=u1 }:DS)) 12 (.int .i64 u1) (by decide) (fun _ _ _ _=>rfl) rfl rfl rfl rfl).setRow (s':=({ s with L:=dJ s.L id,tok:=e.tk,wr:=wv%4294967296,own:=s.own+e.ct,sx:=u1,sw:=u2 }:DS)) 13 (.bool u2) (by decide) (fun _ _ _ _=>rfl) rfl rfl rfl rfl;have bD:Dw.Mv (· =S) wc ((w9.setCell ⟨S,12,none⟩ (.int .i64 u1)).setCell ⟨S,13,none⟩ (.bool u2)):=zag (K:=(· =S)) (zag (K:=(· =S)) (ah RS) S 12 _ rfl) S 13 _ rfl;exact ⟨h9,k8.kept (bD.block _ k8.lt iU),y8.kept (bD.block _ y8.lt kJ),bD⟩
      case rest=>
        obtain ⟨h10,k10,Hz,oh⟩:=hcut;clear j12 j13 j2 jO aa7 aa8;have u0:=Hz.cell 0 _ rfl;have u1':=Hz.cell 1 _ rfl;have u2':=Hz.cell 2 _ rfl;have b0:=k10.cell 0 _ rfl;have b1:=k10.cell 1 _ rfl;have b2:=k10.cell 2 _ rfl;have q0:=k10.free 0;have q1:=k10.free 1;have q2:=k10.free 2;have hmv:=hall.trans (oh.mono fun b q=> .inl q);go_wp2_with fail;subst hs1;have kA:=(((k10.set 0 (.int .i64 2) (by simp)).set 1 (.int .i64 1) (by simp)).set 2 (.int .i64 s.sx) (by simp));refine yap (bU rfl _ _ w.heap.size [.int .i64 2,.int .i64 1,.int .i64 s.sx] _ rfl (fun j y hy=>by rw [yaf];exact kA.cell j y hy) underlying54 rfl (by kernel_rfl)) rfl ?_;exact ⟨rfl,h10.fin h.aS h.aI h.aB ⟨by omega,by omega,by omega,by omega,by omega,by omega⟩ (zag (zag (zag (ah (K:=(· =w.heap.size)) (yab _ _)) w.heap.size 0 _ rfl) w.heap.size 1 _ rfl) w.heap.size 2 _ rfl),aD (aD (aD (hmv) w.heap.size 0 _ (.inr (yaa _))) w.heap.size 1 _ (.inr (yaa _))) w.heap.size 2 _ (.inr (yaa _))⟩
end
end Go.Proofs
namespace Go.Proofs
open Go.Dw Go.RowKit Go.Maps Go.Sort Go.Deep
theorem Tryz.zwL {α:Type} (l:List α) (b:List α) (x:α) (k:Nat) (h:k+b.length<l.length):(l.take k++b++l.drop (k+b.length)).set (k+b.length) x=l.take k++(b++ [x])++l.drop (k+b.length+1):=by
 have hk:(l.take k++b).length=k+b.length:=by rw [yaC,ya1];omega
 rw [List.set_append,yah (by omega),hk,yc4,ybx h,List.set_cons_zero];simp
set_option maxRecDepth 100000 in
theorem Tryz.zpz {w:World} {X:Nat} {l:List Value} (h:Cl w X l) (hl:l.length=16) {aG n:Nat} (v:Int) (hn:aG+n≤16) (SQ:n≤8):
  Calls prog 154 #[.pointer (some ⟨X,0,none⟩),.int .i64 aG,.int .i64 n,.int .u64 v] w fun e w'=>e= .returned (.tuple #[])∧Cl w' X (l.take aG++aN (bytesOf v n)++l.drop (aG+n))∧Dw.Mv (· =X) w w':=by
 go_enter func154,ntmps154;go_wp2;go_loopw [10] (fun c wr=> ∃i:Nat,i≤n∧c= .int .i64 i∧Cl wr X (l.take aG++aN (bytesOf v i)++l.drop (aG+i))∧Dw.Mv (· =X) w wr) (fun c _=>n-(RowKit.intOf c).toNat)
 case atStart=>exact ⟨0,yar _,rfl,by simpa [bytesOf,aN] using h,Dw.Mv.refl _ _⟩
 case round=>
  obtain ⟨i,hi,rfl,st',mv⟩:=hrel;by_cases hik:i<n
  ·have hlen:(aN (bytesOf v i)).length=i:=by rw [aN,yaK,zb]
   have hll:(l.take aG++aN (bytesOf v i)++l.drop (aG+i)).length=16:=by
    simp only [yaC,ya1,yb1,hlen];omega
   have hc:=st'.cell (aG+i) _ (yai (by omega));have hf:=st'.free (aG+i);have hw8:=wrap_u8 (v/2^(8*i));have hset:=st'.set (aG+i) (.int .u8 (v/2^(8*i)%256)) (by omega);have e1:aN (bytesOf v (i+1))=aN (bytesOf v i)++ [.int .u8 (v/2^(8*i)%256)]:=by rw [UJ,aN,aN,ybA];rfl
   have e2:=zwL l (aN (bytesOf v i)) (.int .u8 (v/2^(8*i)%256)) aG (by omega);rw [hlen] at e2;rw [e2,←e1] at hset;obtain ⟨cv,hcv⟩: ∃cv,wr.cell? ⟨X,aG+i,none⟩=some cv:=⟨_,hc⟩;clear hc e1 e2 hlen hll;go_wp2;have hm2:=(zag (K:=(· =X)) mv X (aG+i) (.int .u8 (v/2^(8*i)%256)) rfl).trans (ah (K:=(· =X)) (yab _ _).drew);have e8:IntKind.wrap .i64 (8*(i:Int))=8*(i:Int):=dV (by omega) (by omega);have eA:IntKind.wrap .i64 ((aG:Int)+(i:Int))=(aG:Int)+(i:Int):=dV (by omega) (by omega);have y0:0≤8*(i:Int):=by omega
   have y1:8*(i:Int)≤64:=by omega
   have e9:(8*(i:Int)).toNat=8*i:=by omega
   have y2:0≤(aG:Int)+(i:Int)∧(aG:Int)+(i:Int)<16:=by omega
   have e7:((aG:Int)+(i:Int)).toNat=aG+i:=by omega
   go_region_law fail
   all_goals
    go_wp2;exact ⟨⟨i+1,by omega,by push_cast;rfl,hset.kept rfl,hm2⟩,by simp only [RowKit.intOf];omega⟩
  ·have hik':i=n:=by omega
   subst hik';go_wp2;go_end0;exact ⟨rfl,st',mv⟩
theorem Tryz.Jb {w:World} {X:Nat} {pre rest:List Value} (h:Cl w X (pre++rest)) (hl:pre.length+rest.length=16) {aG n:Nat} (ha:aG=pre.length) (v:Int) (hn:aG+n≤16) (SQ:n≤8):
  Calls prog 154 #[.pointer (some ⟨X,0,none⟩),.int .i64 aG,.int .i64 n,.int .u64 v] w fun e w'=>e= .returned (.tuple #[])∧Cl w' X ((pre++aN (bytesOf v n))++rest.drop n)∧Dw.Mv (· =X) w w':=by
 subst ha;refine (zpz h (by rw [yaC];exact hl) v hn SQ).mono ?_;rintro e w' ⟨h1,h2,h3⟩;refine ⟨h1,?_,h3⟩;rw [ydP,List.drop_append,List.drop_of_length_le (by omega),Nat.add_sub_cancel_left,ydH] at h2;exact h2
theorem Tryz.Bq (v:Int) (n:Nat):(aN (bytesOf v n)).length=n:=by rw [aN,yaK,zb]
set_option maxRecDepth 100000 in
theorem Tryz.IB (p:Pt) (hp:p.ok) (w:World):
    Calls prog 117 #[.agg #[.int .u64 p.a,.int .u32 p.ln,.int .u16 p.f,.int .u16 p.nx]] w fun e w'=> ∃X,w.heap.size≤X∧e= .returned (.slice (some ⟨X,0,none⟩) 16 16)∧Cl w' X (aN p.bytes)∧Below w.heap.size w w':=by
  have hbx:=(yab w.heap.size w).alloc (yaa _) (Obj.cells #[.int .u64 p.a,.int .u32 p.ln,.int .u16 p.f,.int .u16 p.nx] 74);have hbz:=hbx.alloc (by simp) (Obj.cells #[.int .u8 0,.int .u8 0,.int .u8 0,.int .u8 0,.int .u8 0,.int .u8 0,.int .u8 0,.int .u8 0,.int .u8 0,.int .u8 0,.int .u8 0,.int .u8 0,.int .u8 0,.int .u8 0,.int .u8 0,.int .u8 0] 217);have kb:=(Cl.new w #[.int .u64 p.a,.int .u32 p.ln,.int .u16 p.f,.int .u16 p.nx] 74).alloc (Obj.cells #[.int .u8 0,.int .u8 0,.int .u8 0,.int .u8 0,.int .u8 0,.int .u8 0,.int .u8 0,.int .u8 0,.int .u8 0,.int .u8 0,.int .u8 0,.int .u8 0,.int .u8 0,.int .u8 0,.int .u8 0,.int .u8 0] 217);have kz:Cl ((w.alloc (Obj.cells #[.int .u64 p.a,.int .u32 p.ln,.int .u16 p.f,.int .u16 p.nx] 74)).alloc (Obj.cells #[.int .u8 0,.int .u8 0,.int .u8 0,.int .u8 0,.int .u8 0,.int .u8 0,.int .u8 0,.int .u8 0,.int .u8 0,.int .u8 0,.int .u8 0,.int .u8 0,.int .u8 0,.int .u8 0,.int .u8 0,.int .u8 0] 217)) (w.heap.size+1) ([]++List.replicate 16 (.int .u8 0)):=by
    have:=Cl.new (w.alloc (Obj.cells #[.int .u64 p.a,.int .u32 p.ln,.int .u16 p.f,.int .u16 p.nx] 74)) #[.int .u8 0,.int .u8 0,.int .u8 0,.int .u8 0,.int .u8 0,.int .u8 0,.int .u8 0,.int .u8 0,.int .u8 0,.int .u8 0,.int .u8 0,.int .u8 0,.int .u8 0,.int .u8 0,.int .u8 0,.int .u8 0] 217;rw [fw] at this;exact this
  have hne:w.heap.size≠w.heap.size+1:=by omega
  have e1:IntKind.wrap .u64 p.ln=p.ln:=wrap_u64 _ hp.ln.1 (by have:=hp.ln.2;omega);have e2:IntKind.wrap .u64 p.f=p.f:=wrap_u64 _ hp.f.1 (by have:=hp.f.2;omega);have e3:IntKind.wrap .u64 p.nx=p.nx:=wrap_u64 _ hp.nx.1 (by have:=hp.nx.2;omega);have q1:Calls prog 154 #[.pointer (some ⟨w.heap.size+1,0,none⟩),.int .i64 0,.int .i64 8,.int .u64 p.a] ((w.alloc (Obj.cells #[.int .u64 p.a,.int .u32 p.ln,.int .u16 p.f,.int .u16 p.nx] 74)).alloc (Obj.cells #[.int .u8 0,.int .u8 0,.int .u8 0,.int .u8 0,.int .u8 0,.int .u8 0,.int .u8 0,.int .u8 0,.int .u8 0,.int .u8 0,.int .u8 0,.int .u8 0,.int .u8 0,.int .u8 0,.int .u8 0,.int .u8 0] 217)) _:=Jb kz (by simp) (aG:=0) (n:=8) rfl p.a (by decide) (by decide);have c0:=kb.cell 0 _ rfl;go_enter func117,ntmps117;go_wp2_with (first
    | (have zz:=k4;fail)
    | (go_at_call 154;have zz:=k3;refine (Jb k3 (by simp [Bq]) (aG:=14) (n:=2) (by simp [Bq]) p.nx (by decide) (by decide)).mono ?_;rintro en w4 ⟨rfl,k4,m4⟩;have b4:=b3.kept (m4.block _ b3.lt hne))
    | (go_at_call 154;have zz:=k2;refine (Jb k2 (by simp [Bq]) (aG:=12) (n:=2) (by simp [Bq]) p.f (by decide) (by decide)).mono ?_;rintro en w3 ⟨rfl,k3,m3⟩;have b3:=b2.kept (m3.block _ b2.lt hne);have d3:=b3.cell 3 _ rfl)
    | (go_at_call 154;have zz:=k1;refine (Jb k1 (by simp [Bq]) (aG:=8) (n:=4) (by simp [Bq]) p.ln (by decide) (by decide)).mono ?_;rintro en w2 ⟨rfl,k2,m2⟩;have b2:=b1.kept (m2.block _ b1.lt hne);have d2:=b2.cell 2 _ rfl)
    | (go_at_call 154;refine q1.mono ?_;rintro en w1 ⟨rfl,k1,m1⟩;have b1:=kb.kept (m1.block _ kb.lt hne);have d1:=b1.cell 1 _ rfl)
    | go_in)
  go_ret;have hm:=(((m1.mono (S':=fun b=>w.heap.size≤b) fun b q=>by omega).trans (m2.mono fun b q=>by omega)).trans (m3.mono fun b q=>by omega)).trans (m4.mono fun b q=>by omega);refine ⟨w.heap.size+1,by omega,rfl,?_,?_⟩
  · simpa [Pt.bytes,aN] using k4
  · exact hbz.trans ⟨hm.os,hm.tape,hm.output,hm.size,fun b hb=>hm.block b (yae hb hbz.size) (by omega)⟩
set_option maxRecDepth 100000 in
theorem Tryz.V9 {w:World} {X:Nat} {b:Bool} (h:w.cell? ⟨X,0,none⟩=some (.bool b)):Calls prog 151 #[.pointer (some ⟨X,0,none⟩)] w fun e w'=>e= .returned (.int .i64 (if b then 2 else 0))∧Below w.heap.size w w':=by
 cases b
 all_goals
  go_enter func151,ntmps151;go_wp2_with fail;go_ret;exact ⟨rfl,yab _ _⟩
theorem Tryz.zvy {w:World} {X:Nat} (h:w.cell? ⟨X,0,none⟩=some (.bool true)):Calls prog 151 #[.pointer (some ⟨X,0,none⟩)] w fun e w'=>e= .returned (.int .i64 2)∧Below w.heap.size w w':=V9 h
theorem Tryz.PE {w:World} {X:Nat} (h:w.cell? ⟨X,0,none⟩=some (.bool false)):Calls prog 151 #[.pointer (some ⟨X,0,none⟩)] w fun e w'=>e= .returned (.int .i64 0)∧Below w.heap.size w w':=V9 h
set_option maxRecDepth 100000 in
theorem Tryz.Ij (w:World) (b:Bool):Calls prog 108 #[.bool b] w fun e w'=>e= .returned (.func (.func 151) #[] #[.pointer (some ⟨w.heap.size,0,none⟩)])∧w'=w.alloc (Obj.cells #[.bool b] 4):=by
 go_enter func108,ntmps108;go_wp2_with fail;go_ret;exact ⟨rfl,rfl⟩
set_option maxRecDepth 100000 in
theorem Tryz.zjp (w:World) (v:Value) (hv:v.oneCell'=true):Calls prog 112 #[v] w fun e w'=>e= .returned (.func (.func 153) #[] #[.pointer (some ⟨w.heap.size,0,none⟩)])∧w'=w.alloc (Obj.cells #[v] 49):=by
 go_enter func112,ntmps112;go_wp2_with fail;go_ret;exact ⟨rfl,rfl⟩
def Tryz.eD (l:List Sg):Int:=if gJ l≠0 then gJ l else if l.length=0 then 2 else 0
set_option maxRecDepth 100000 in
theorem Tryz.V7 {A:Nat→Prop} {w:World} {X:Nat} {v:Value} {l:List Sg} (h:Cl w X [v]) (hv:bC A w v l):Calls prog 153 #[.pointer (some ⟨X,0,none⟩)] w fun e w'=>e= .returned (.int .i64 (eD l))∧Below w.heap.size w w':=by
  have hck:=NK hv;obtain ⟨sa,c,rfl,hok,hr⟩:=hv;clear hok hr;have h0:=h.cell 0 _ rfl;unfold eD;generalize gJ l=e at hck;by_cases he:e=0
  · subst he;rw [yah (by simp)];by_cases hl:l.length=0
    · rw [yak hl];have hb:((l.length:Int)==0)=true:=by simpa using hl
      clear hl;go_enter func153,ntmps153;go_wp2_with (first
        | (go_at_call 106;refine hck.mono ?_;rintro en w1 ⟨rfl,hb1⟩;have k1:=h.below hb1 h.lt;have h1:=k1.cell 0 _ rfl)
        | (go_at_call 108;refine (Ij _ true).mono ?_;rintro en w2 ⟨rfl,hw2⟩;have hw2:=hw2.symm;subst hw2)
        | (go_at_call 151;refine (zvy ((Cl.new w1 #[.bool true] 4).cell 0 _ rfl)).mono ?_;rintro en w3 ⟨rfl,hb3⟩)
        | go_in)
      go_ret;exact ⟨rfl,((hb1.alloc hb1.size _).trans (hb3.mono (by have:=hb1.size;simp;omega)))⟩
    · rw [yah hl];have hb:((l.length:Int)==0)=false:=by simpa using hl
      clear hl;go_enter func153,ntmps153;go_wp2_with (first
        | (go_at_call 106;refine hck.mono ?_;rintro en w1 ⟨rfl,hb1⟩;have k1:=h.below hb1 h.lt;have h1:=k1.cell 0 _ rfl)
        | (go_at_call 108;refine (Ij _ false).mono ?_;rintro en w2 ⟨rfl,hw2⟩;have hw2:=hw2.symm;subst hw2)
        | (go_at_call 151;refine (PE ((Cl.new w1 #[.bool false] 4).cell 0 _ rfl)).mono ?_;rintro en w3 ⟨rfl,hb3⟩)
        | go_in)
      go_ret;exact ⟨rfl,((hb1.alloc hb1.size _).trans (hb3.mono (by have:=hb1.size;simp;omega)))⟩
  · rw [yak he];go_enter func153,ntmps153;go_wp2_with (first
      | (go_at_call 106;refine hck.mono ?_;rintro en w1 ⟨rfl,hb1⟩)
      | go_in)
    go_ret;exact ⟨rfl,hb1⟩
structure Tryz.iR where
 buf:Bool
 X:Nat
def Tryz.iR.fn (e:iR):Nat:=if e.buf then 153 else 151
def Tryz.iR.val (e:iR):Value:= .func (.func e.fn) #[] #[.pointer (some ⟨e.X,0,none⟩)]
def Tryz.rM:List Int→Int
 | [] => 0
 | x::r=>if x=0 then rM r else x
theorem Tryz.NA: ∀(rs:List Int) (k:Nat),(∀j,j<k→rs.getD j 0=0)→rM rs=rM (rs.drop k)
 | [], k,_=>by simp
 | x::r,0,_=>rfl
 | x::r,k+1,h=>by
  have h0:=h 0 (by omega);simp only [List.getD_cons_zero] at h0;rw [rM,yak h0,List.drop_succ_cons];exact NA r k fun j hj=>by have:=h (j+1) (by omega);simpa using this
set_option maxRecDepth 100000 in
theorem Tryz.OO {w:World} {R o c:Nat} (es:List iR) (rs:List Int) (hlen:rs.length=es.length) (hrow:w.rangeAt R o (es.map iR.val)) (hl6:es.length≤64) (hR:R<w.heap.size)
    (hcall: ∀k (hk:k<es.length),∀w',Below w.heap.size w w'→Calls prog (es[k]'(hk)).fn #[.pointer (some ⟨(es[k]'(hk)).X,0,none⟩)] w' fun e w''=>e= .returned (.int .i64 (rs.getD k 0))∧Below w'.heap.size w' w''):
    Calls prog 107 #[.slice (some ⟨R,o,none⟩) es.length c] w fun e w'=>e= .returned (.int .i64 (rM rs))∧Below w.heap.size w w':=by
  replace hcall:aA (∀k (hk:k<es.length),∀w',Below w.heap.size w w'→Calls prog (es[k]'(hk)).fn #[.pointer (some ⟨(es[k]'(hk)).X,0,none⟩)] w' fun e w''=>e= .returned (.int .i64 (rs.getD k 0))∧Below w'.heap.size w' w''):=⟨hcall⟩;replace hlen:aA (rs.length=es.length):=⟨hlen⟩;go_enter func107,ntmps107;go_wp2;go_loopw [8] (fun c wr=> ∃i:Nat,i≤es.length∧c= .int .i64 i∧aA (∀j,j<i→rs.getD j 0=0)∧Below w.heap.size w wr) (fun c _=>es.length-(RowKit.intOf c).toNat)
  case atStart=>exact ⟨0,yar _,rfl,⟨fun j hj=>absurd hj (ydF j)⟩,yab _ _⟩
  case round=>
    obtain ⟨i,hi,rfl,hz,hb⟩:=hrel;by_cases hik:i<es.length
    · have hcl:=hcall.out i hik wr hb;have hc:wr.cell? ⟨R,o+i,none⟩=some (es[i]'(hik)).val:=by
        have:=aX hrow (hb.block R hR) i _ (by rw [ybf,yai hik];rfl);exact this
      have gZ:i<rs.length:=by rw [hlen.out];exact hik
      have hsplit:aA (rM rs=rM (rs.getD i 0::rs.drop (i+1))):=⟨by
        rw [NA rs i hz.out,ybx gZ,yaw,yai gZ];rfl⟩
      have hz1:aA (rs.getD i 0=0→ ∀j,j<i+1→rs.getD j 0=0):=⟨fun h0 j hj=>by
        by_cases e:j=i
        · exact e▸h0
        · exact hz.out j (by omega)⟩
      unfold iR.val iR.fn at hc;unfold iR.fn at hcl;clear hrow gZ;generalize es[i]'(hik)=e at hc hcl;generalize sH:rs.getD i 0=rv at hcl;replace sH:aA (rs.getD i 0=rv):=⟨sH⟩;obtain ⟨b,X⟩:=e;cases b
      all_goals
        simp only [ycD,ybW,yaW] at hc hcl;by_cases h0:rv=0
        · subst h0;go_wp2_with (first
            | (go_at_call 151;refine hcl.mono ?_;rintro en w1 ⟨rfl,hb1⟩)
            | (go_at_call 153;refine hcl.mono ?_;rintro en w1 ⟨rfl,hb1⟩)
            | go_in)
          exact ⟨⟨i+1,by omega,by push_cast;rfl,⟨hz1.out sH.out⟩,hb.trans (hb1.mono hb.size)⟩,by simp only [RowKit.intOf];omega⟩
        · go_wp2_with (first
            | (go_at_call 151;refine hcl.mono ?_;rintro en w1 ⟨rfl,hb1⟩)
            | (go_at_call 153;refine hcl.mono ?_;rintro en w1 ⟨rfl,hb1⟩)
            | go_in)
          go_ret;refine ⟨?_,hb.trans (hb1.mono hb.size)⟩;rw [hsplit.out,sH.out,rM,yah h0];rfl
    · have hik':i=es.length:=by omega
      have hf:aA (rM rs=0):=⟨by rw [NA rs i hz.out,List.drop_of_length_le (by rw [hlen.out];omega)];rfl⟩;subst hik';go_wp2;go_ret;exact ⟨by rw [hf.out];rfl,hb⟩
theorem Tryz.Uz {l:List Sg} {q:Nat} (h:q<l.length):dh (l.take (q+1))=dh (l.take q)++(iA (l[q]'(h))).bytes:=by
 unfold dh;rw [List.take_add_one,yai h,ycJ];simp
theorem Tryz.HZ (l:List Sg):(dh l).length=16*l.length:=by
 induction l with
 | nil=>rfl
 | cons s r ih=>
  unfold dh at ih ⊢;rw [ycc,yaC,ih,Pt.jv,yaX];omega
set_option maxRecDepth 100000 in
theorem Tryz.zpA {A:Nat→Prop} {w:World} {v:Value} {l:List Sg} (h:bC A w v l) (hl:l.length≤64) (he:eD l=0):
    Calls prog 116 #[v] w fun e w'=>(∃u,e= .returned (.tuple #[u,.int .i64 0])∧af 5 1 w' w.heap.size u (dh l).length (aN (dh l)))∧Below w.heap.size w w':=by
  have hinfo:=Qt;cases hi:prog.info? 5 with
  | none=>rw [hi] at hinfo;cases hinfo
  | some i=>
  rw [hi] at hinfo;simp only [yaJ,ybH,ycX] at hinfo;obtain ⟨i1,i2,i3⟩:=hinfo;have hbx:=(yab w.heap.size w).alloc (yaa _) (Obj.cells #[v] 49);have kb:=Cl.new w #[v] 49;have hbf:=zjp w v (by obtain ⟨sa,c,rfl,_⟩:=h;rfl);have R7: ∀w1,Below (w.heap.size+1) (w.alloc (Obj.cells #[v] 49)) w1→ ∀R,R<w1.heap.size→w1.rangeAt R 0 [(iR.mk true w.heap.size).val]→Calls prog 107 #[.slice (some ⟨R,0,none⟩) 1 1] w1 fun e w'=>e= .returned (.int .i64 0)∧Below w1.heap.size w1 w':=fun w1 hb1 R hR hr=>by
    have:=OO (w:=w1) (c:=1) [⟨true,w.heap.size⟩] [eD l] rfl hr (by show 1≤64;decide) hR (fun k hk w' hb'=>by
      have hk0:k=0:=by simp at hk;omega
      subst hk0;have h1:=(h.below (hbx.trans (hb1.mono (by omega)))).below (hb'.mono (yaa _));have k1:=(kb.kept (w':=w1) (hb1.block _ (by omega))).below hb' (by have:=hb1.size;simp at this;omega);exact V7 k1 h1)
    have e0:rM [eD l]=0:=by rw [he];rfl
    rw [e0] at this;exact this
  obtain ⟨sa,c,rfl,hok,hr⟩:=h;replace hok:aA (∀x∈l,x.ok):=⟨hok⟩;replace hr:aA (l= []∨ ∃R o,sa=some ⟨R,o,none⟩∧ ¬A R∧w.rangeAt R o (dA l)):=⟨hr⟩;clear he;go_enter func116,ntmps116;go_wp2_with (first
    | (go_at_call 112;refine hbf.mono ?_;rintro en w1 ⟨rfl,hw1⟩;have hw1:=hw1.symm;subst hw1)
    | (go_at_call 107;refine (R7 _ ((yab _ _).alloc (by simp) _) (w.heap.size+1) (by simp) (fun j y hy=>by
         have:=(Cl.new (w.alloc (Obj.cells #[Value.slice sa l.length c] 49)) #[(iR.mk true w.heap.size).val] 57).cell j y hy;rw [fw] at this;rwa [yaf])).mono ?_;rintro en w2 ⟨rfl,hb2⟩)
    | go_in)
  have hW:Below w.heap.size w w2:=((hbx.alloc hbx.size _).trans (hb2.mono (by simp;omega)));clear hb2 hbf R7 kb hbx;go_loopw [5,18] (fun c k wr=> ∃(q:Nat) (cv:Value),cv=c∧q≤l.length∧k= .int .i64 q∧af 5 1 wr w.heap.size cv (dh (l.take q)).length (aN (dh (l.take q)))∧Below w.heap.size w wr) (fun _ k _=>l.length-(RowKit.intOf k).toNat)
  case atStart=>exact ⟨0,_,rfl,yar _,rfl,by simpa [dh,aN] using af.nil 5 1 _ _,hW⟩
  case round=>
    obtain ⟨q,cv,hcv,hq,rfl,ho,hb⟩:=hrel;subst hcv;by_cases dx:q<l.length
    · obtain ⟨R,o,rfl,hA,hrg⟩:=hr.out.resolve_left (by intro e;rw [e] at dx;exact absurd dx (by simp));have hsg:=aX (xq hrg q dx) (hb.block R (tO hrg (by intro e;rw [e] at dx;exact absurd dx (by simp))));have l7:=hok.out _ (yaA dx);have htk:=Uz dx;have hol:=af.lt ho;have hlen:(dh (l.take q)).length≤1024:=by rw [HZ,ya1];omega
      generalize l[q]'(dx)=s at hsg l7 htk;have hpb:=fun w'=>IB (iA s) ⟨⟨l7.1,l7.2.1⟩,⟨l7.2.2.1,l7.2.2.2⟩,⟨by show (0:Int)≤0;decide,by show (0:Int)<65536;decide⟩,by show 0≤(if s.wr then (2:Int) else 0)∧(if s.wr then (2:Int) else 0)<65536;split<;>decide⟩ w';rw [ybz 3 q] at hsg;have s0:=hsg 0 _ rfl;have s1:=hsg 1 _ rfl;have s2:=hsg 2 _ rfl;rw [yaF] at s0;obtain ⟨sat,dM,rA⟩:=s;cases rA
      · skip
        go_wp2_with (first
          | (go_at_call 117;refine (hpb _).mono ?_;rintro en w3 ⟨X,hX,rfl,eO,hb3⟩;have hb4:Below wr.heap.size wr w3:=(((yab wr.heap.size wr).alloc (yaa _) _).alloc (by simp) _).trans (hb3.mono (by simp;omega));have ho3:=af.kept ho (w':=w3) fun b e=>hb4.block b (hol b e).2;have hnews: ∀j u,(aN (iA ⟨sat,dM,false⟩).bytes)[j]? =some u→w3.cell? ((⟨X,0,none⟩:Addr).add j)=some u:=fun j u hu=>by
               rw [Dw.addr_add];exact eO.cell (0+j) u (by rw [yaf];exact hu)
             have hbs:=hb.size;have Lu:=hb4.size)
          | (at_builtin;go_loud (refine ybk _ rfl _ _ 59 rfl w.heap.size 5 i _ 1 1 (by kernel_rfl) hi i1 i2 i3 rfl (by decide) cv _ (aN (dh (l.take q))) rfl ho3 ⟨X,0,none⟩ 16 16 (aN (iA ⟨sat,dM,false⟩).bytes) rfl (by rw [aN,yaK,Pt.jv]) hnews (by intro y hy;obtain ⟨x,_,rfl⟩:=yaY.1 hy;rfl) (by unfold maxLen;omega) (by omega) (by omega) ?_);intro u w' h2 h3 h4 h5;go_frame)
          | go_in)
        refine ⟨⟨q+1,u,rfl,by omega,by push_cast;rfl,?_,?_⟩,by simp only [RowKit.intOf];omega⟩
        · rw [htk,yaC,Pt.jv,show aN (dh (l.take q)++(iA ⟨sat,dM,false⟩).bytes)=aN (dh (l.take q))++aN (iA ⟨sat,dM,false⟩).bytes from ybA];exact h2
        · have hbw:=hb.trans (hb4.mono hbs);exact ⟨h3.os.trans hbw.os,h3.tape.trans hbw.tape,h3.output.trans hbw.output,yas hbw.size h3.size,fun y hy=>(h3.block y (yae hy hbw.size) (fun e=>by have:=(hol y e.symm).1;omega)).trans (hbw.block y hy)⟩
      · skip
        go_wp2_with (first
          | (go_at_call 117;refine (hpb _).mono ?_;rintro en w3 ⟨X,hX,rfl,eO,hb3⟩;have hb4:Below wr.heap.size wr w3:=(((yab wr.heap.size wr).alloc (yaa _) _).alloc (by simp) _).trans (hb3.mono (by simp;omega));have ho3:=af.kept ho (w':=w3) fun b e=>hb4.block b (hol b e).2;have hnews: ∀j u,(aN (iA ⟨sat,dM,true⟩).bytes)[j]? =some u→w3.cell? ((⟨X,0,none⟩:Addr).add j)=some u:=fun j u hu=>by
               rw [Dw.addr_add];exact eO.cell (0+j) u (by rw [yaf];exact hu)
             have hbs:=hb.size;have Lu:=hb4.size)
          | (at_builtin;go_loud (refine ybk _ rfl _ _ 59 rfl w.heap.size 5 i _ 1 1 (by kernel_rfl) hi i1 i2 i3 rfl (by decide) cv _ (aN (dh (l.take q))) rfl ho3 ⟨X,0,none⟩ 16 16 (aN (iA ⟨sat,dM,true⟩).bytes) rfl (by rw [aN,yaK,Pt.jv]) hnews (by intro y hy;obtain ⟨x,_,rfl⟩:=yaY.1 hy;rfl) (by unfold maxLen;omega) (by omega) (by omega) ?_);intro u w' h2 h3 h4 h5;go_frame)
          | go_in)
        refine ⟨⟨q+1,u,rfl,by omega,by push_cast;rfl,?_,?_⟩,by simp only [RowKit.intOf];omega⟩
        · rw [htk,yaC,Pt.jv,show aN (dh (l.take q)++(iA ⟨sat,dM,true⟩).bytes)=aN (dh (l.take q))++aN (iA ⟨sat,dM,true⟩).bytes from ybA];exact h2
        · have hbw:=hb.trans (hb4.mono hbs);exact ⟨h3.os.trans hbw.os,h3.tape.trans hbw.tape,h3.output.trans hbw.output,yas hbw.size h3.size,fun y hy=>(h3.block y (yae hy hbw.size) (fun e=>by have:=(hol y e.symm).1;omega)).trans (hbw.block y hy)⟩
    · have hqq:q=l.length:=by omega
      subst hqq;go_wp2;go_ret2;rw [ybE] at ho;exact ⟨⟨_,rfl,ho⟩,hb⟩
end Go.Proofs
end
