/-
  Proved: laws on the way to 'PdriveHoldsProof' (VdL0 VdL1 QaN QaO0 QaO); no condition.
-/
import Derived.Test.YtkemikknnokdhaaGreatM7
set_option linter.unusedSimpArgs false
set_option linter.unusedVariables false
set_option maxHeartbeats 4000000
noncomputable section
namespace Go.Proofs
open Go.Dw
def Tryz.zj9:List Ent:= []
def Tryz.zmP:List Sh:= [.ro [.int .u64 (.lit 0),.int .u64 (.lit 60000)]]
def Tryz.zka:List AV:= [.sl 1 0 1 (.known 1)]
def Tryz.zrN:List (SB×Bool):= []
def Tryz.zpr:List Leaf:= [
 ⟨.tup [.ptr 4 0,.int .i64 (.lit 0)],[(3,[.int .u64 (.lit 0),.int .u64 (.lit 60000)]),(4,[.sl 3 0 1 (.upto 0),.sl 7 0 1 (.upto 0)]),(5,(List.replicate 60000 (.int .u8 (.lit 0)))),(7,[.sl 5 0 60000 (.known 60000)])],[],0,[3,4,5,7]⟩]
def Tryz.ztO:List (List (SB×Bool)×Nat):= [
 ([], 0)]
theorem Tryz.zrM:(ev prog (zbf zj9) 100000 (.call 10 zka (zba 0 zmP) (zb8 zpr 0))).ways zrN=some ztO:=by kernel_rfl
theorem Tryz.ztP:(zaJ zmP&&zay zj9&&AV.smallL zka&&zaC zpr)=true:=by kernel_rfl
open Go.RowKit
theorem Tryz.zjP {ρ:Val} {lc:Nat→Dw.Loc}: ∀n:Nat,AV.valL ρ lc (List.replicate n (.int .u8 (.lit 0)))=List.replicate n (.int .u8 0)
 | 0=>rfl
 | n+1=>by
  rw [List.replicate_succ,List.replicate_succ,←zjP n];rfl
set_option maxRecDepth 10000 in
theorem Tryz.zps {w:World} {R:Nat} (c0:w.cell? ⟨R,0,none⟩=some (.int .u64 0)) (c1:w.cell? ⟨R,1,none⟩=some (.int .u64 60000)):
  Calls prog 10 #[.slice (some ⟨R,0,none⟩) 1 1] w fun e w'=> ∃P L Bs B,e= .returned (.tuple #[.pointer (some ⟨P,0,none⟩),.int .i64 0])∧RMm w' P L Bs B 60000 (fun _=>0)∧Below w.heap.size w w'∧w.heap.size≤P∧w.heap.size≤L∧w.heap.size≤Bs∧w.heap.size≤B:=by
 obtain ⟨ρ,hρ⟩: ∃ρ:Val,ρ=vof [] [] []:=⟨_,rfl⟩;have hj1:jOf [(R,0)] 1=some ⟨R,0,0,none⟩:=rfl;have r2:w.rangeAt R 0 [.int .u64 0,.int .u64 60000]:=fun j v hv=>by
  match j,hv with
  | 0,hv=>cases hv;exact c0
  | 1,hv=>cases hv;exact c1
 refine Calls.mono (zbJ (ρ:=ρ) (K:=fun _=>False) (g:=Gho.none) (bl:= [(R,0)]) (vals:= [.slice (some ⟨R,0,none⟩) 1 1]) mixed zrM ztP (fun b h=>h.elim)
  ⟨zdd r2 (by simp) (zav (zaG rfl) (zav (zaG rfl) RL.nil)) (fun h=>h),trivial⟩ ⟨fun hh=>(by cases hh),trivial⟩ za4 trivial (zav ⟨⟨R,0,0,none⟩,hj1,by simp [zvF],rfl⟩ RL.nil) (zaw.2 trivial)) fun e w' hh=> ?_
 obtain ⟨_,j,he⟩:=zjz hh;have hb:=zaL he (fun _ h=>h);have hr:=he.ret;simp only [AV.val,AV.valL,zal] at hr;have n4:=he.names 4 (by simp [AV.names,AV.namesL]);obtain ⟨f4,o4⟩:=he.fresh 4 (by simp) _ n4;have rw4:=he.rows.2.1 _ n4;have n3:=he.rnames.2.1 _ n4 3 (by simp [AV.names,AV.namesL]);have n7:=he.rnames.2.1 _ n4 7 (by simp [AV.names,AV.namesL]);obtain ⟨f3,o3⟩:=he.fresh 3 (by simp) _ n3;obtain ⟨f7,o7⟩:=he.fresh 7 (by simp) _ n7;have n5:=he.rnames.2.2.2.1 _ n7 5 (by simp [AV.names,AV.namesL]);obtain ⟨f5,o5⟩:=he.fresh 5 (by simp) _ n5;have w3:=(he.rows.1 _ n3).2 f3 o3;have w4:=rw4.2 f4 o4;have w7:=(he.rows.2.2.2.1 _ n7).2 f7 o7;have w5:=(he.rows.2.2.1 _ n5).2 f5 o5;simp only [AV.val,AV.valL,zal,o3,o5,o7] at w3 w4 w7;rw [show (5,List.replicate 60000 (AV.int IntKind.u8 (SE.lit 0))).2=List.replicate 60000 (AV.int IntKind.u8 (SE.lit 0)) from rfl,zjP] at w5;rw [o4] at hr;have z: ∀ {n m:Nat} (hn: ∃r∈ [(3,[AV.int IntKind.u64 (SE.lit 0),AV.int IntKind.u64 (SE.lit 60000)]),(4,[AV.sl 3 0 1 (CapI.upto 0),AV.sl 7 0 1 (CapI.upto 0)]),(5,List.replicate 60000 (AV.int IntKind.u8 (SE.lit 0))),(7,[AV.sl 5 0 60000 (CapI.known 60000)])],r.1=n) (hm: ∃r∈ [(3,[AV.int IntKind.u64 (SE.lit 0),AV.int IntKind.u64 (SE.lit 60000)]),(4,[AV.sl 3 0 1 (CapI.upto 0),AV.sl 7 0 1 (CapI.upto 0)]),(5,List.replicate 60000 (AV.int IntKind.u8 (SE.lit 0))),(7,[AV.sl 5 0 60000 (CapI.known 60000)])],r.1=m),n≠m→j n=some (lcOf j n)→j m=some (lcOf j m)→w.heap.size≤(lcOf j n).blk→(lcOf j n).blk≠(lcOf j m).blk:=fun hn hm hne h1 h2 h3 e=>by
  obtain ⟨r,hr,rfl⟩:=hn;obtain ⟨r',hr',rfl⟩:=hm;exact he.apart r hr r' hr' hne _ _ h1 h2 e (.inl h3)
 have g3:w.heap.size≤(lcOf j 3).blk:=f3.elim id False.elim;have g4:w.heap.size≤(lcOf j 4).blk:=f4.elim id False.elim;have g5:w.heap.size≤(lcOf j 5).blk:=f5.elim id False.elim;have g7:w.heap.size≤(lcOf j 7).blk:=f7.elim id False.elim;have q45:=z ⟨_,.tail _ (.head _),rfl⟩ ⟨_,.tail _ (.tail _ (.head _)),rfl⟩ (show (4:Nat)≠5 by decide) n4 n5 g4;have q35:=z ⟨_,.head _,rfl⟩ ⟨_,.tail _ (.tail _ (.head _)),rfl⟩ (show (3:Nat)≠5 by decide) n3 n5 g3;have q75:=z ⟨_,.tail _ (.tail _ (.tail _ (.head _))),rfl⟩ ⟨_,.tail _ (.tail _ (.head _)),rfl⟩ (show (7:Nat)≠5 by decide) n7 n5 g7;refine ⟨(lcOf j 4).blk,(lcOf j 3).blk,(lcOf j 7).blk,(lcOf j 5).blk,hr,⟨⟨_,zbR w4 (i:=0) rfl⟩,⟨_,zbR w4 (i:=1) rfl⟩,zbR w3 (i:=0) rfl,zbR w3 (i:=1) rfl,zbR w7 (i:=0) rfl,fun i hi=> ?_,fun i hi=> ?_,fun i=>⟨Int.le_refl _,by decide⟩,q45,q35,q75,zkw w5⟩,hb,g4,g3,g7,g5⟩
 ·exact zbR w5 (i:=i) (by rw [List.getElem?_replicate];simp [hi])
 ·obtain ⟨arr,t,e1,_⟩:=w5;simp [World.frozen?,e1]
open Go.Maps Go.Sort Go.Deep
structure Tryz.PkR (w0 w:World) (X T5 T6 T8 T12 b2 P L Bs B N:Nat) (g:Nat→Int) (r:Rg) (v:Value) (l:List Sg) (e at0:Int) (wp:Bool) (id ct:Int):Prop where
 cl:Cl w X [.pointer (some ⟨P,0,none⟩),v,.int .i64 0,.int .i64 e]
 own:OwnSeg w b2 v l
 rm:RMm w P L Bs B N g
 c5:Cl w T5 [.bool true,.int .i64 r.n,.int .u64 r.d,.int .u64 r.v,.int .u64 r.c]
 c6:Cl w T6 [.int .i64 at0,.bool wp]
 c8:Cl w T8 [.int .i64 0,.int .i64 0,.slice none 0 0]
 c12:Cl w T12 [.int .i64 id,.int .i64 ct,.slice none 0 0]
 old:Below w0.heap.size w0 w
 lo:X<b2∧T5<b2∧T6<b2∧T8<b2∧T12<b2∧P<b2∧L<b2∧Bs<b2∧B<b2
 hi:w0.heap.size≤X∧w0.heap.size≤T6∧w0.heap.size≤T12∧w0.heap.size≤T8
 ne:(X≠T5∧X≠T6∧X≠T8∧X≠T12)∧(T12≠T5∧T12≠T6∧T12≠T8)∧(T6≠T5∧T6≠T8)
 nx:X≠P∧X≠L∧X≠Bs∧X≠B
 n6:T6≠P∧T6≠L∧T6≠Bs∧T6≠B
 n12:T12≠P∧T12≠L∧T12≠Bs∧T12≠B
 b2:b2≤w.heap.size
section
variable {w0 w w':World} {X T5 T6 T8 T12 b2 P L Bs B N:Nat} {g:Nat→Int} {r:Tryz.Rg} {v v':Value} {l l':List Tryz.Sg} {e e' at0:Int} {wp:Bool} {id ct:Int}
theorem Tryz.PkR.below (h:PkR w0 w X T5 T6 T8 T12 b2 P L Bs B N g r v l e at0 wp id ct) (hb:Below w.heap.size w w'):PkR w0 w' X T5 T6 T8 T12 b2 P L Bs B N g r v l e at0 wp id ct:=
 ⟨h.cl.below hb h.cl.lt,h.own.kept fun b hh=>hb.block b (h.own.lt b hh).2.1,h.rm.below hb,h.c5.below hb h.c5.lt,h.c6.below hb h.c6.lt,h.c8.below hb h.c8.lt,h.c12.below hb h.c12.lt,h.old.trans (hb.mono h.old.size),h.lo,h.hi,h.ne,h.nx,h.n6,h.n12,Nat.le_trans h.b2 hb.size⟩
theorem Tryz.PkR.rd (h:PkR w0 w X T5 T6 T8 T12 b2 P L Bs B N g r v l e at0 wp id ct):RdW w w X b2 P L Bs B N g v v l 0 e:=
 ⟨h.cl,h.own,h.rm,⟨h.lo.1,h.lo.2.2.2.2.2⟩,h.nx,h.b2,Dw.Mv.refl _ _,fun _ q=> .inl q⟩
theorem Tryz.PkR.turn (h:PkR w0 w X T5 T6 T8 T12 b2 P L Bs B N g r v l e at0 wp id ct) (q:RdW w w' X b2 P L Bs B N g v v' l' 0 e'):PkR w0 w' X T5 T6 T8 T12 b2 P L Bs B N g r v' l' e' at0 wp id ct:=by
 obtain ⟨l1,l2,l3,l4,l5,l6,l7,l8,l9⟩:=h.lo;obtain ⟨⟨n1,n2,n3,n4⟩,⟨n5,n6,n7⟩,n8,n9⟩:=h.ne;have hv: ∀b,b<b2→v.ownBlock≠some b:=fun b hb hh=>by have:=(h.own.lt b hh).1;omega
 have kp: ∀b,b<w.heap.size→b≠X→b<b2→w'.heap[b]? =w.heap[b]? :=fun b h1 h2 h3=>q.mv.block b h1 fun hh=>by
  rcases hh with hh|hh
  ·exact h2 hh
  ·exact hv b h3 hh
 have hs:=h.old.size;have hi:=h.hi;refine ⟨q.cl,q.own,q.rm,h.c5.kept (kp T5 h.c5.lt (fun e=>n1 e.symm) l2),h.c6.kept (kp T6 h.c6.lt (fun e=>n2 e.symm) l3),h.c8.kept (kp T8 h.c8.lt (fun e=>n3 e.symm) l4),h.c12.kept (kp T12 h.c12.lt (fun e=>n4 e.symm) l5),⟨q.mv.os.trans h.old.os,q.mv.tape.trans h.old.tape,q.mv.output.trans h.old.output,Nat.le_trans hs q.mv.size,fun b hb=>(q.mv.block b (Nat.lt_of_lt_of_le hb hs) fun hh=> ?_).trans (h.old.block b hb)⟩,h.lo,h.hi,h.ne,h.nx,h.n6,h.n12,Nat.le_trans h.b2 q.mv.size⟩;rcases hh with hh|hh
 ·omega
 ·have:=(h.own.lt b hh).1;omega
theorem Tryz.PkR.set12 (h:PkR w0 w X T5 T6 T8 T12 b2 P L Bs B N g r v l e at0 wp id ct) {j:Nat} {x:Value} {id' ct':Int} (hj:j<3) (hx: [Value.int .i64 id,.int .i64 ct,.slice none 0 0].set j x= [.int .i64 id',.int .i64 ct',.slice none 0 0]):PkR w0 (w.setCell ⟨T12,j,none⟩ x) X T5 T6 T8 T12 b2 P L Bs B N g r v l e at0 wp id' ct':=by
 obtain ⟨l1,l2,l3,l4,l5,l6,l7,l8,l9⟩:=h.lo;obtain ⟨⟨n1,n2,n3,n4⟩,⟨n5,n6,n7⟩,n8,n9⟩:=h.ne;obtain ⟨m1,m2,m3,m4⟩:=h.n12;have kp: ∀b,b≠T12→(w.setCell ⟨T12,j,none⟩ x).heap[b]? =w.heap[b]? :=fun b hb=>Below.heap_setCell w ⟨T12,j,none⟩ x b hb;have hs:=h.old.size;have hi:=h.hi;refine ⟨h.cl.kept (kp X n4),h.own.kept fun b hh=>kp b fun e=>by have:=(h.own.lt b hh).1;omega,h.rm.kept (fun k hk hq=>kp k fun e=>by rcases hq with q|q|q|q<;>(rw [e] at q;contradiction)) (by simp),h.c5.kept (kp T5 fun e=>n5 e.symm),h.c6.kept (kp T6 fun e=>n6 e.symm),h.c8.kept (kp T8 fun e=>n7 e.symm),hx▸h.c12.set j x (by simpa using hj),⟨h.old.os,h.old.tape,h.old.output,by simpa using hs,fun b hb=>(kp b fun e=>by omega).trans (h.old.block b hb)⟩,h.lo,h.hi,h.ne,h.nx,h.n6,h.n12,by simpa using h.b2⟩
theorem Tryz.PkR.set6 (h:PkR w0 w X T5 T6 T8 T12 b2 P L Bs B N g r v l e at0 wp id ct) {at1:Int} {wp1:Bool}:PkR w0 ((w.setCell ⟨T6,0,none⟩ (.int .i64 at1)).setCell ⟨T6,1,none⟩ (.bool wp1)) X T5 T6 T8 T12 b2 P L Bs B N g r v l e at1 wp1 id ct:=by
 obtain ⟨l1,l2,l3,l4,l5,l6,l7,l8,l9⟩:=h.lo;obtain ⟨⟨n1,n2,n3,n4⟩,⟨n5,n6,n7⟩,n8,n9⟩:=h.ne;obtain ⟨m1,m2,m3,m4⟩:=h.n6;have kp: ∀b,b≠T6→((w.setCell ⟨T6,0,none⟩ (.int .i64 at1)).setCell ⟨T6,1,none⟩ (.bool wp1)).heap[b]? =w.heap[b]? :=fun b hb=>(Below.heap_setCell _ ⟨T6,1,none⟩ _ b hb).trans (Below.heap_setCell w ⟨T6,0,none⟩ _ b hb);have hs:=h.old.size;have hi:=h.hi;refine ⟨h.cl.kept (kp X n2),h.own.kept fun b hh=>kp b fun e=>by have:=(h.own.lt b hh).1;omega,h.rm.kept (fun k hk hq=>kp k fun e=>by rcases hq with q|q|q|q<;>(rw [e] at q;contradiction)) (by simp),h.c5.kept (kp T5 fun e=>n8 e.symm),(h.c6.set 0 (.int .i64 at1) (by simp)).set 1 (.bool wp1) (by simp),h.c8.kept (kp T8 fun e=>n9 e.symm),h.c12.kept (kp T12 n6),⟨h.old.os,h.old.tape,h.old.output,by simpa using hs,fun b hb=>(kp b fun e=>by omega).trans (h.old.block b hb)⟩,h.lo,h.hi,h.ne,h.nx,h.n6,h.n12,by simpa using h.b2⟩
end
end Go.Proofs
namespace Go.Proofs
set_option maxRecDepth 100000 in
theorem Tryz.zqE {t:Array Value} (h:t.size=134) {v5 v8 v9 v11 v12:Value} (h5:t.getD 5 undef=v5) (h8:t.getD 8 undef=v8) (h9:t.getD 9 undef=v9) (h11:t.getD 11 undef=v11) (h12:t.getD 12 undef=v12):
  ∃ j:Nat→Value,t= #[j 0,j 1,j 2,j 3,j 4,v5,j 6,j 7,v8,v9,j 10,v11,v12,j 13,j 14,j 15,j 16,j 17,j 18,j 19,j 20,j 21,j 22,j 23,j 24,j 25,j 26,j 27,j 28,j 29,j 30,j 31,j 32,j 33,j 34,j 35,j 36,j 37,j 38,j 39,j 40,j 41,j 42,j 43,j 44,j 45,j 46,j 47,j 48,j 49,j 50,j 51,j 52,j 53,j 54,j 55,j 56,j 57,j 58,j 59,j 60,j 61,j 62,j 63,j 64,j 65,j 66,j 67,j 68,j 69,j 70,j 71,j 72,j 73,j 74,j 75,j 76,j 77,j 78,j 79,j 80,j 81,j 82,j 83,j 84,j 85,j 86,j 87,j 88,j 89,j 90,j 91,j 92,j 93,j 94,j 95,j 96,j 97,j 98,j 99,j 100,j 101,j 102,j 103,j 104,j 105,j 106,j 107,j 108,j 109,j 110,j 111,j 112,j 113,j 114,j 115,j 116,j 117,j 118,j 119,j 120,j 121,j 122,j 123,j 124,j 125,j 126,j 127,j 128,j 129,j 130,j 131,j 132,j 133]:=by
 subst h5 h8 h9 h11 h12;obtain ⟨l⟩:=t;exact ⟨fun i=>(⟨l⟩:Array Value).getD i undef,zkY l h⟩
open Go.Dw Go.RowKit Go.Maps Go.Sort Go.Deep
def Tryz.pk10 (N:Nat) (g:Nat→Int) (n at0:Int) (tb:Bool) (w:World) (en:Ending) (w':World):Prop:=
 Below w.heap.size w w'∧ ∃e1 v,(e1=0↔(zdS N g n at0 tb).e=0)∧(e1=0→en= .returned (.tuple #[.agg #[.int .i64 (zdS N g n at0 tb).id,.int .i64 (zdS N g n at0 tb).ct,v],.int .i64 0])∧OwnSeg w' w.heap.size v (zdS N g n at0 tb).sg)∧(e1≠0→en= .returned (.tuple #[.agg #[.int .i64 0,.int .i64 0,.slice none 0 0],.int .i64 e1]))
set_option maxRecDepth 100000 in
theorem Tryz.zpq {w:World} {P L Bs B N:Nat} {g:Nat→Int} {r:Rg} (st:RMm w P L Bs B N g) (hN:N≤1048576) (hr:PgOk r) (hfit:4096+16*r.n≤N) {at0:Int} {wp:Bool} (ha:0≤at0∧at0<r.n) (tb:Bool):
    Calls prog 43 #[.pointer (some ⟨P,0,none⟩),r.pval,posV at0 wp,.bool tb] w fun en w'=>pk10 N g r.n at0 tb w en w':=by
  have hrf:=fun w'=>zlO hr P w';have hpc:=fun w'=>zlK (x:=wp) hr.bnd ha w';unfold Rg.pval at hrf ⊢;unfold posV;have k5:=((Cl.new w #[.bool true,.int .i64 r.n,.int .u64 r.d,.int .u64 r.v,.int .u64 r.c] 30).alloc (Obj.cells #[.int .i64 at0,.bool wp] 64)).alloc (Obj.cells #[.int .i64 0,.int .i64 0,.slice none 0 0] 102);have k6:=(Cl.new2 (w:=w.alloc (Obj.cells #[.bool true,.int .i64 r.n,.int .u64 r.d,.int .u64 r.v,.int .u64 r.c] 30)) (b:=w.heap.size+1) (arr:= #[.int .i64 at0,.bool wp]) (t:=64) (by simp)).alloc (Obj.cells #[.int .i64 0,.int .i64 0,.slice none 0 0] 102);have k8:=Cl.new2 (b:=w.heap.size+1+1) (arr:= #[.int .i64 0,.int .i64 0,.slice none 0 0]) (t:=102) (w:=(w.alloc (Obj.cells #[.bool true,.int .i64 r.n,.int .u64 r.d,.int .u64 r.v,.int .u64 r.c] 30)).alloc (Obj.cells #[.int .i64 at0,.bool wp] 64)) (by simp);have x0:=k5.cell 0 _ rfl;have x1:=k5.cell 1 _ rfl;have x2:=k5.cell 2 _ rfl;have x3:=k5.cell 3 _ rfl;have x4:=k5.cell 4 _ rfl;go_enter func43,ntmps43;go_wp2_with (first
    | (go_at_call 93;refine (hrf _).mono ?_;rintro en w1 ⟨rfl,hb1⟩;have j5:=k5.below hb1 k5.lt;have j6:=k6.below hb1 k6.lt;have j8:=k8.below hb1 k8.lt;have d50:=j5.cell 0 _ rfl;have d51:=j5.cell 1 _ rfl;have d60:=j6.cell 0 _ rfl;have d61:=j6.cell 1 _ rfl)
    | (go_at_call 92;refine (hpc _).mono ?_;rintro en w2 ⟨rfl,hb2⟩)
    | go_in)
  rename_i K hK;have hb02:Below w.heap.size w w2:=by
    have z:Below w.heap.size w (((w.alloc (Obj.cells #[.bool true,.int .i64 r.n,.int .u64 r.d,.int .u64 r.v,.int .u64 r.c] 30)).alloc (Obj.cells #[.int .i64 at0,.bool wp] 64)).alloc (Obj.cells #[.int .i64 0,.int .i64 0,.slice none 0 0] 102)):=(((Below.refl _ w).alloc (Nat.le_refl _) _).alloc (by simp) _).alloc (by simp;omega) _;exact (z.trans (hb1.mono z.size)).trans (hb2.mono (Nat.le_trans z.size hb1.size))
  have hs2:w.heap.size+3≤w2.heap.size:=by
    have h1:=hb1.size;have h2:=hb2.size;simp at h1;omega
  have i5:=j5.below hb2 j5.lt;have i6:=j6.below hb2 j6.lt;have i8:=j8.below hb2 j8.lt;have hb5:Below w2.heap.size w2 ((w2.alloc (Obj.cells #[.pointer (some ⟨P,0,none⟩),.slice none 0 0,.int .i64 0,.int .i64 0] 164)).alloc (Obj.cells #[.int .i64 0,.int .i64 0,.slice none 0 0] 102)):=((Below.refl _ w2).alloc (Nat.le_refl _) _).alloc (by simp) _;have kX:=(Cl.new w2 #[.pointer (some ⟨P,0,none⟩),.slice none 0 0,.int .i64 0,.int .i64 0] 164).alloc (Obj.cells #[.int .i64 0,.int .i64 0,.slice none 0 0] 102);have kT:=Cl.new2 (w:=w2.alloc (Obj.cells #[.pointer (some ⟨P,0,none⟩),.slice none 0 0,.int .i64 0,.int .i64 0] 164)) (b:=w2.heap.size+1) (arr:= #[.int .i64 0,.int .i64 0,.slice none 0 0]) (t:=102) (by simp);have e5:((w2.alloc (Obj.cells #[.pointer (some ⟨P,0,none⟩),.slice none 0 0,.int .i64 0,.int .i64 0] 164)).alloc (Obj.cells #[.int .i64 0,.int .i64 0,.slice none 0 0] 102)).heap.size=w2.heap.size+2:=by simp
  generalize (w2.alloc (Obj.cells #[.pointer (some ⟨P,0,none⟩),.slice none 0 0,.int .i64 0,.int .i64 0] 164)).alloc (Obj.cells #[.int .i64 0,.int .i64 0,.slice none 0 0] 102)=w5 at hb5 kX kT e5 ⊢;have lP:=st.pl;have lL:=st.ll;have lS:=st.sl;have lB:=st.bl;have hR0:PkR w w5 w2.heap.size w.heap.size (w.heap.size+1) (w.heap.size+1+1) (w2.heap.size+1) (w2.heap.size+2) P L Bs B N g r (.slice none 0 0) [] 0 at0 wp 0 0:=
    ⟨kX,OwnSeg.nil _ _,(st.kept (fun k hk _=>hb02.block k hk) hb02.size).below hb5,i5.below hb5 i5.lt,i6.below hb5 i6.lt,i8.below hb5 i8.lt,kT,hb02.trans (hb5.mono hb02.size),⟨by omega,by omega,by omega,by omega,by omega,by omega,by omega,by omega,by omega⟩,⟨by omega,by omega,by omega,by omega⟩,⟨⟨by omega,by omega,by omega,by omega⟩,⟨by omega,by omega,by omega⟩,by omega,by omega⟩,⟨by omega,by omega,by omega,by omega⟩,⟨by omega,by omega,by omega,by omega⟩,⟨by omega,by omega,by omega,by omega⟩,by omega⟩
  obtain ⟨X,hX⟩: ∃X,X=w2.heap.size:=⟨_,rfl⟩;obtain ⟨T12,hT⟩: ∃T,T=w2.heap.size+1:=⟨_,rfl⟩;rw [←hT] at hR0 ⊢;generalize w2.heap.size+2=b2 at hR0 e5;rw [←hX] at hR0 ⊢;clear hX hT kX kT i5 i6 i8 hb5 e5 hb02 hs2 hb1 hb2 j5 j6 j8 k5 k6 k8 x0 x1 x2 x3 x4 d50 d51 d60 d61 hrf hpc;obtain ⟨T5,hT5⟩: ∃X,X=w.heap.size:=⟨_,rfl⟩;obtain ⟨T6,hT6⟩: ∃X,X=w.heap.size+1:=⟨_,rfl⟩;obtain ⟨T8,hT8⟩: ∃X,X=w.heap.size+1+1:=⟨_,rfl⟩;have hold0:Below w.heap.size w w5:=hR0.old;have hsize:True:=trivial;rw [←hT8,←hT6] at hR0 ⊢;clear hT6 hT8;have hend: ∀(tm:Array Value) (w3:World) (v:Value) (l:List Sg) (e at1:Int) (wp1:Bool) (id ct:Int),tm.size=134→tm.getD 5 undef= .pointer (some ⟨w.heap.size,0,none⟩)→tm.getD 8 undef= .pointer (some ⟨T8,0,none⟩)→tm.getD 9 undef= .int .i64 0→tm.getD 11 undef= .pointer (some ⟨X,0,none⟩)→tm.getD 12 undef= .pointer (some ⟨T12,0,none⟩)→PkR w w3 X w.heap.size T6 T8 T12 b2 P L Bs B N g r v l e at1 wp1 id ct→
      ((¬ e=0∧(zbB N g r.n tb r.n.toNat at0 0 [] 0).e≠0)∨(e=0∧zbB N g r.n tb r.n.toNat at0 0 [] 0=⟨id,ct,l,0⟩∧(∀x∈l,x.ok)))→l.length≤1000→K ⟨tm,[]⟩ w3:=by
    intro tm w3 v l e at1 wp1 id ct y1 y5 y8 y9 y11 y12 hR hfin hlen;refine hK _ _ ?_;clear hK;obtain ⟨jf,hjf⟩:=zqE (t:=tm) y1 y5 y8 y9 y11 y12;rw [hjf];clear hjf;have hb2w:w.heap.size≤b2:=by have:=hR.hi;have:=hR.lo;omega
    refine wp_seq_k (fun K2 hK2=> ?_);have hend2: ∀(tm:Array Value) (w4:World) (e2:Int),tm.size=134→tm.getD 5 undef= .pointer (some ⟨w.heap.size,0,none⟩)→tm.getD 8 undef= .pointer (some ⟨T8,0,none⟩)→tm.getD 9 undef= .int .i64 0→tm.getD 11 undef= .pointer (some ⟨X,0,none⟩)→tm.getD 12 undef= .pointer (some ⟨T12,0,none⟩)→PkR w w4 X w.heap.size T6 T8 T12 b2 P L Bs B N g r v l e2 at1 wp1 id ct→
        ((¬ e2=0∧(zdS N g r.n at0 tb).e≠0)∨(e2=0∧zdS N g r.n at0 tb=(if zgq N l≠0 then ⟨0,0,[],zgq N l⟩ else ⟨id,ct,l,0⟩)∧(∀x∈l,x.ok)))→K2 ⟨tm,[]⟩ w4:=by
      clear hfin hR;intro tm w4 e2 y1 y5 y8 y9 y11 y12 hR hfin;refine hK2 _ _ ?_;clear hK2;obtain ⟨jf,hjf⟩:=zqE (t:=tm) y1 y5 y8 y9 y11 y12;rw [hjf];clear hjf;have hen:=zrQ hR.rd hN (fun q=>by
        rcases hfin with ⟨h1,_⟩|⟨_,_,h3⟩
        · exact absurd q h1
        · exact h3) (by omega)
      obtain ⟨E1,hE1⟩: ∃E1,E1=(if e2=0 then zgq N l else e2):=⟨_,rfl⟩;have hen':Calls prog 99 #[.pointer (some ⟨X,0,none⟩)] w4 fun en w'=>en= .returned (.tuple #[if E1=0 then v else .slice none 0 0,.int .i64 E1])∧RdW w4 w' X b2 P L Bs B N g v v l 0 E1:=hen.mono fun en w' hh=>by
        obtain ⟨e1,h1,h2,h3⟩:=hh;rw [←hE1] at h1;subst h1;exact ⟨h2,h3⟩
      clear hen;have hiff:E1=0→zdS N g r.n at0 tb=⟨id,ct,l,0⟩:=fun q=>by
        rcases hfin with ⟨h1,h2⟩|⟨h1,h2,_⟩
        · rw [if_neg h1] at hE1;exact absurd (hE1.symm.trans q) h1
        · rw [if_pos h1] at hE1;rw [h2,if_neg (by rw [←hE1];exact fun z=>z q)]
      have hiff2:E1≠0→(zdS N g r.n at0 tb).e≠0:=fun q=>by
        rcases hfin with ⟨h1,h2⟩|⟨h1,h2,_⟩
        · exact h2
        · rw [if_pos h1] at hE1;rw [h2,if_pos (by rw [←hE1];exact q)];rw [←hE1];exact q
      clear hE1 hfin;obtain ⟨sa,c,rfl,_⟩:=hR.own.slice;by_cases h0:E1=0
      · have hpk:=hiff h0;rw [if_pos h0,h0] at hen';clear hiff hiff2;go_wp2_with (first
          | (go_at_call 99;refine hen'.mono ?_;rintro en w6 ⟨rfl,hrd⟩;have h5:=hR.turn hrd;have n128:=h5.ne.2.1.2.2;have s12:=h5.c12.set 2 (.slice sa l.length c) (by simp);have q2:=h5.c12.cell 2 _ rfl;have g2:=h5.c12.free 2;have a0:=s12.cell 0 _ rfl;have a1:=s12.cell 1 _ rfl;have a2:=s12.cell 2 _ rfl;have s8:=h5.c8.kept (Below.heap_setCell w6 ⟨T12,2,none⟩ (.slice sa l.length c) T8 (fun e=>n128 e.symm));have b0:=s8.cell 0 _ rfl;have b1:=s8.cell 1 _ rfl;have b2':=s8.cell 2 _ rfl;have r0:=s8.free 0;have r1:=s8.free 1;have r2:=s8.free 2)
          | go_in)
        have sf:=((s8.set 0 (.int .i64 id) (by simp)).set 1 (.int .i64 ct) (by simp)).set 2 (.slice sa l.length c) (by simp);have kp: ∀b,b≠T12→b≠T8→((((w6.setCell ⟨T12,2,none⟩ (.slice sa l.length c)).setCell ⟨T8,0,none⟩ (.int .i64 id)).setCell ⟨T8,1,none⟩ (.int .i64 ct)).setCell ⟨T8,2,none⟩ (.slice sa l.length c)).heap[b]? =w6.heap[b]? :=fun b h1 h2=>(Below.heap_setCell _ ⟨T8,2,none⟩ _ b h2).trans ((Below.heap_setCell _ ⟨T8,1,none⟩ _ b h2).trans ((Below.heap_setCell _ ⟨T8,0,none⟩ _ b h2).trans (Below.heap_setCell _ ⟨T12,2,none⟩ _ b h1)));have hlo:=h5.lo;have hhi:=h5.hi;have hos:=h5.old;have hob:=h5.own;refine bodyPost_ret (zaB rfl _ _ T8 [.int .i64 id,.int .i64 ct,.slice sa l.length c] _ rfl (fun j y hy=>by rw [Nat.zero_add];exact sf.cell j y hy) underlying102 rfl (by kernel_rfl)) rfl ?_;refine ⟨⟨hos.os,hos.tape,hos.output,by simpa using hos.size,fun b hb=>(kp b (fun e=>by omega) (fun e=>by omega)).trans (hos.block b hb)⟩,0,.slice sa l.length c,⟨fun _=>by rw [hpk],fun _=>rfl⟩,fun _=>⟨by rw [hpk];rfl,?_⟩,fun q=>absurd rfl q⟩;rw [hpk];exact OwnSeg.mono (hob.kept fun b e=>kp b (fun q=>by have:=(hob.lt b e).1;omega) (fun q=>by have:=(hob.lt b e).1;omega)) hb2w
      · have hpk:=hiff2 h0;rw [if_neg h0] at hen';clear hiff hiff2;go_wp2_with (first
          | (go_at_call 99;refine hen'.mono ?_;rintro en w6 ⟨rfl,hrd⟩;have h5:=hR.turn hrd;have n128:=h5.ne.2.1.2.2;have s12:=h5.c12.set 2 (.slice none 0 0) (by simp);have q2:=h5.c12.cell 2 _ rfl;have g2:=h5.c12.free 2;have a0:=s12.cell 0 _ rfl;have a1:=s12.cell 1 _ rfl;have a2:=s12.cell 2 _ rfl;have s8:=h5.c8.kept (Below.heap_setCell w6 ⟨T12,2,none⟩ (.slice none 0 0) T8 (fun e=>n128 e.symm));have b0:=s8.cell 0 _ rfl;have b1:=s8.cell 1 _ rfl;have b2':=s8.cell 2 _ rfl;have r0:=s8.free 0;have r1:=s8.free 1;have r2:=s8.free 2)
          | go_in)
        have sf:=((s8.set 0 (.int .i64 0) (by simp)).set 1 (.int .i64 0) (by simp)).set 2 (.slice none 0 0) (by simp);have kp: ∀b,b≠T12→b≠T8→((((w6.setCell ⟨T12,2,none⟩ (.slice none 0 0)).setCell ⟨T8,0,none⟩ (.int .i64 0)).setCell ⟨T8,1,none⟩ (.int .i64 0)).setCell ⟨T8,2,none⟩ (.slice none 0 0)).heap[b]? =w6.heap[b]? :=fun b h1 h2=>(Below.heap_setCell _ ⟨T8,2,none⟩ _ b h2).trans ((Below.heap_setCell _ ⟨T8,1,none⟩ _ b h2).trans ((Below.heap_setCell _ ⟨T8,0,none⟩ _ b h2).trans (Below.heap_setCell _ ⟨T12,2,none⟩ _ b h1)));have hlo:=h5.lo;have hhi:=h5.hi;have hos:=h5.old;have hob:=h5.own;refine bodyPost_ret (zaB rfl _ _ T8 [.int .i64 0,.int .i64 0,.slice none 0 0] _ rfl (fun j y hy=>by rw [Nat.zero_add];exact sf.cell j y hy) underlying102 rfl (by kernel_rfl)) rfl ?_;exact ⟨⟨hos.os,hos.tape,hos.output,by simpa using hos.size,fun b hb=>(kp b (fun e=>by omega) (fun e=>by omega)).trans (hos.block b hb)⟩,E1,.slice none 0 0,⟨fun q=>absurd q h0,fun q=>absurd q hpk⟩,fun q=>absurd q h0,fun _=>rfl⟩
    clear hK2;have c50:=hR.c5.cell 1 _ rfl;have c120:=hR.c12.cell 0 _ rfl;by_cases hid:r.n≤id
    · have hsp:=zdK X (.pointer (some ⟨P,0,none⟩)) v 0 e 4 w3 hR.cl;go_wp2_with (first
        | (go_at_call 94;refine hsp.mono ?_;rintro en w4 ⟨rfl,hc4,hm4⟩)
        | go_in)
      refine hend2 _ _ (stE e 4) rfl rfl rfl rfl rfl rfl (hR.turn (hR.rd.stopped hc4 hm4)) (.inl ⟨?_,?_⟩)
      · unfold stE;split
        · decide
        · assumption
      · unfold zdS;rcases hfin with ⟨h1,h2⟩|⟨h1,h2,_⟩
        · simp only [];rw [if_pos h2];exact h2
        · simp only [h2];rw [if_neg (by simp),if_pos hid];decide
    · go_wp2_with fail;refine hend2 _ _ e rfl rfl rfl rfl rfl rfl hR ?_;rcases hfin with ⟨h1,h2⟩|⟨h1,h2,h3⟩
      · refine .inl ⟨h1,?_⟩;unfold zdS;simp only [];rw [if_pos h2];exact h2
      · refine .inr ⟨h1,?_,h3⟩;unfold zdS;simp only [h2];rw [if_neg (by simp),if_neg (show¬r.n≤id by omega)]
  clear hK;have hn1:=hr.bnd;obtain ⟨m,hm⟩: ∃m:Nat,r.n=m:=⟨r.n.toNat,by omega⟩;have hmt:r.n.toNat=m:=by rw [hm];rfl
  have hd0:r.d=4096:=hr.d;rw [hmt] at hend;have Hm:(fun _:Unit=>r.n)=fun _=>(m:Int):=by rw [hm]
  have hm1:r.n≤m:=by omega
  have hm2:(m:Int)≤r.n:=by omega
  have hda: ∀x:Int,r.d+16*x=4096+16*x:=fun x=>by rw [hd0]
  clear hm hmt hd0;go_loopw [13] (fun _ wr=> ∃(v:Value) (l:List Sg) (at1:Int) (wp1:Bool) (id:Int) (c:Nat),PkR w wr X w.heap.size T6 T8 T12 b2 P L Bs B N g r v l 0 at1 wp1 id c∧c≤m∧l.length=c∧(∀x∈l,x.ok)∧(0≤at1∧at1<r.n)∧(fun _:Unit=>zbB N g r.n tb m at0 0 [] 0)=fun _=>zbB N g r.n tb (m-c) at1 c l id) (fun _ wr=>match wr.cell? ⟨T12,1,none⟩ with|some (.int _ x)=>m-x.toNat|_=>0)
  case atStart=>exact ⟨.slice none 0 0,[],at0,wp,0,0,hR0,Nat.zero_le _,rfl,fun x hx=>(by cases hx),ha,rfl⟩
  case round=>
    obtain ⟨v,l,at1,wp1,id,c,hR,hc,hl,hok,hat,heq⟩:=hrel;have y50:=hR.c5.cell 1 _ rfl;have y51:=hR.c5.cell 2 _ rfl;have y60:=hR.c6.cell 0 _ rfl;have y12:=hR.c12.cell 1 _ rfl;by_cases hcm:c=m
    · have hcm':(c:Int)=r.n:=by omega
      have hsp:=zdK X (.pointer (some ⟨P,0,none⟩)) v 0 0 4 wr hR.cl;go_wp2_with (first
        | (go_at_call 94;refine hsp.mono ?_;rintro en w4 ⟨rfl,hc4,hm4⟩)
        | go_in)
      refine hend _ _ v l 4 at1 wp1 id c rfl rfl rfl rfl rfl rfl (hR.turn (hR.rd.stopped hc4 hm4)) (.inl ⟨by decide,?_⟩) (by omega);rw [congrFun heq (),hcm,Nat.sub_self];show (4:Int)≠0;decide
    · have hcm': ¬(c:Int)=r.n:=by omega
      have hcl:c<m:=by omega
      obtain ⟨a,haa⟩: ∃a:Nat,4096+16*at1=a:=⟨(4096+16*at1).toNat,by omega⟩;have hat2:(4096+16*at1).toNat=a:=by rw [haa];rfl
      have hbyte:=hR.rm.byte;have haN:a+16≤N:=by omega
      have hstep:zbB N g r.n tb (m-c) at1 c l id=(if zac g (a+14) 2/4%2=1 then (if tb=false∨1<(c:Int)+1∨zac g (a+14) 2%2=1 then ⟨zac g (a+12) 2,(c:Int)+1,l,4⟩ else ⟨zac g (a+12) 2,(c:Int)+1,(zbx N g (zac g a 8) (zac g (a+8) 4)).1,(zbx N g (zac g a 8) (zac g (a+8) 4)).2⟩) else if zac g (a+14) 2%2=0 then ⟨zac g (a+12) 2,(c:Int)+1,l++ [pSeg g a],0⟩ else zbB N g r.n tb (m-(c+1)) (zaH r.n at1 true 1).1 ((c:Int)+1) (l++ [pSeg g a]) (zac g (a+12) 2)):=by
        rw [show m-c=(m-(c+1))+1 by omega,←hat2];rfl
      have hpseg:pSeg g a=⟨zac g a 8,zac g (a+8) 4,zac g (a+14) 2/2%2*2 !=0⟩:=rfl;have hpok:=zpY hbyte a;rw [hpseg] at hstep hpok;have heq2:=congrFun heq ();rw [hstep] at heq2;clear hstep heq hpseg hat2;have hpos:(zaH r.n at1 true 1).1=(zaH r.n at1 wp1 1).1:=by unfold zaH;split<;>rfl
      have hposb:0≤(zaH r.n at1 wp1 1).1∧(zaH r.n at1 wp1 1).1<r.n:=by unfold zaH;split<;>exact ⟨by simp only [];omega,by simp only [];omega⟩
      rw [hpos] at heq2;clear hpos;have hrd:=zmO P L Bs B N a 16 g wr hR.rm hN (by decide) haN;have hrp:=fun X' c' w' (hq:w'.rangeAt X' 0 (row g a 16))=>zdL hbyte a X' 0 c' w' hq;have hgo:=fun w'=>zlM (x:=wp1) (show 1≤r.n∧r.n≤32768 by omega) hat (show (0:Int)≤1∧(1:Int)≤r.n by omega) w';have bA:=zaq g hbyte a 8;have bL:=zaq g hbyte (a+8) 4;have bI:=zaq g hbyte (a+12) 2;have bF:=zaq g hbyte (a+14) 2;rw [show (256:Int)^8=18446744073709551616 from by decide] at bA;rw [show (256:Int)^4=4294967296 from by decide] at bL;rw [show (256:Int)^2=65536 from by decide] at bI bF;unfold zi4 at hrp;unfold posV at hgo;generalize zaH r.n at1 wp1 1=pg at hgo hposb heq2;generalize zac g a 8=A1 at hrp heq2 hpok bA;generalize zac g (a+8) 4=L1 at hrp heq2 hpok bL;generalize zac g (a+12) 2=I1 at hrp heq2 bI;generalize zac g (a+14) 2=F1 at hrp heq2 hpok bF;obtain ⟨a8,rfl⟩:=Int.eq_ofNat_of_zero_le bA.1;have w1':IntKind.wrap .u64 at1=at1:=zaN (by omega) (by omega);have w2':IntKind.wrap .u64 (16*at1)=16*at1:=zaN (by omega) (by omega);have w3':IntKind.wrap .u64 (r.d+16*at1)=a:=by rw [hda,haa];exact zaN (by omega) (by omega)
      have w4':IntKind.wrap .i64 I1=I1:=zaT (by omega) (by omega);have hbt4:bits .and .u16 F1 4=F1/4%2*4:=by have:=zjL F1 2 (by decide) bF.1 bF.2;simpa using this
      have hbt1:bits .and .u16 F1 1=F1%2:=by have:=zjL F1 0 (by decide) bF.1 bF.2;simpa using this
      clear haa hda;have hD:=fun w2=>Cl.new w2 #[.int .u64 (a8:Int),.int .u32 L1,.int .u16 I1,.int .u16 F1] 74;have hsp:=fun w' (h:Cl w' X [.pointer (some ⟨P,0,none⟩),v,.int .i64 0,.int .i64 0])=>zdK X (.pointer (some ⟨P,0,none⟩)) v 0 0 4 w' h;have hcases:(F1/4%2=1∧tb=false∧(fun _:Unit=>zbB N g r.n tb m at0 0 [] 0)=fun _=>⟨I1,(c:Int)+1,l,4⟩)∨(F1/4%2=1∧tb=true∧(1:Int)<(c:Int)+1∧(fun _:Unit=>zbB N g r.n tb m at0 0 [] 0)=fun _=>⟨I1,(c:Int)+1,l,4⟩)∨(F1/4%2=1∧tb=true∧ ¬(1:Int)<(c:Int)+1∧F1%2=1∧(fun _:Unit=>zbB N g r.n tb m at0 0 [] 0)=fun _=>⟨I1,(c:Int)+1,l,4⟩)∨
          (F1/4%2=1∧tb=true∧ ¬(1:Int)<(c:Int)+1∧F1%2=0∧l= []∧(fun _:Unit=>zbB N g r.n tb m at0 0 [] 0)=fun _=>⟨I1,(c:Int)+1,(zbx N g a8 L1).1,(zbx N g a8 L1).2⟩)∨(F1/4%2=0∧F1%2=0∧(fun _:Unit=>zbB N g r.n tb m at0 0 [] 0)=fun _=>⟨I1,(c:Int)+1,l++ [⟨a8,L1,F1/2%2*2 !=0⟩],0⟩)∨(F1/4%2=0∧F1%2=1∧(fun _:Unit=>zbB N g r.n tb m at0 0 [] 0)=fun _=>zbB N g r.n tb (m-(c+1)) pg.1 ((c:Int)+1) (l++ [⟨a8,L1,F1/2%2*2 !=0⟩]) I1):=by
        rw [heq2];by_cases hF4:F1/4%2=1
        · rw [if_pos hF4];cases tb with
          | false=>exact .inl ⟨hF4,rfl,by rw [if_pos (.inl rfl)]⟩
          | true=>
            by_cases h1:(1:Int)<(c:Int)+1
            · exact .inr (.inl ⟨hF4,rfl,h1,by rw [if_pos (.inr (.inl h1))]⟩)
            · by_cases h2:F1%2=1
              · exact .inr (.inr (.inl ⟨hF4,rfl,h1,h2,by rw [if_pos (.inr (.inr h2))]⟩))
              · exact .inr (.inr (.inr (.inl ⟨hF4,rfl,h1,by omega,List.length_eq_zero_iff.1 (by omega),by rw [if_neg (by intro q;rcases q with q|q|q;cases q;exact h1 q;exact h2 q)]⟩)))
        · rw [if_neg hF4];by_cases h2:F1%2=0
          · exact .inr (.inr (.inr (.inr (.inl ⟨by omega,h2,by rw [if_pos h2]⟩))))
          · exact .inr (.inr (.inr (.inr (.inr ⟨by omega,by omega,by rw [if_neg h2]⟩))))
      clear heq2;rcases hcases with ⟨k1,rfl,k4⟩|⟨k1,rfl,k2,k4⟩|⟨k1,rfl,k2,k3,k4⟩|⟨k1,rfl,k2,k3,rfl,k4⟩|⟨k1,k3,k4⟩|⟨k1,k3,k4⟩
      all_goals
        go_wp2_with (first
          | (go_at_call 95;refine hrd.mono ?_;rintro en w1 ⟨vb,rfl,hrow,hb1⟩;obtain ⟨G,cp,rfl,hr16⟩:=zud hrow)
          | (go_at_call 96;refine (hrp _ _ _ hr16).mono ?_;rintro en w2 ⟨rfl,hb2⟩;have hR3:=((hR.below hb1).below hb2).below ((Below.refl _ w2).alloc (Nat.le_refl _) (Obj.cells #[.int .u64 (a8:Int),.int .u32 L1,.int .u16 I1,.int .u16 F1] 74));have kD:=hD w2;have z0:=kD.cell 2 _ rfl;have t0:=hR3.c12.cell 0 _ rfl;have t1:=hR3.c12.cell 1 _ rfl;have f0:=hR3.c12.free 0;have f1:=hR3.c12.free 1;have hR4a:=hR3.set12 (j:=0) (x:= .int .i64 I1) (id':=I1) (ct':=c) (by decide) rfl;have t2:=hR4a.c12.cell 1 _ rfl;have f2:=hR4a.c12.free 1;have hR4:=hR4a.set12 (j:=1) (x:= .int .i64 ((c:Int)+1)) (id':=I1) (ct':=(c:Int)+1) (by decide) rfl;have p0:=hR4.c6.cell 0 _ rfl;have p1:=hR4.c6.cell 1 _ rfl;have n1':=hR4.c5.cell 1 _ rfl;have hDT:w2.heap.size≠T12:=(by have:=hR.lo;have:=hR.b2;have:=hb1.size;have:=hb2.size;omega);have hDT6:w2.heap.size≠T6:=(by have:=hR.lo;have:=hR.b2;have:=hb1.size;have:=hb2.size;omega);have kD4:=(kD.kept (Below.heap_setCell _ ⟨T12,0,none⟩ (.int .i64 I1) w2.heap.size hDT)).kept (Below.heap_setCell _ ⟨T12,1,none⟩ (.int .i64 ((c:Int)+1)) w2.heap.size hDT))
          | (go_at_call 40;refine (hgo _).mono ?_;rintro en w5 ⟨rfl,hb5⟩;have hR5:=hR4.below hb5;have kD5:=kD4.below hb5 kD4.lt;have q0:=hR5.c6.cell 0 _ rfl;have q1:=hR5.c6.cell 1 _ rfl;have g0:=hR5.c6.free 0;have g1:=hR5.c6.free 1;have hR6:=hR5.set6 (at1:=pg.1) (wp1:=pg.2);have kD6:=(kD5.kept (Below.heap_setCell _ ⟨T6,0,none⟩ (.int .i64 pg.1) w2.heap.size hDT6)).kept (Below.heap_setCell _ ⟨T6,1,none⟩ (.bool pg.2) w2.heap.size hDT6);have d0:=kD6.cell 0 _ rfl;have d1:=kD6.cell 1 _ rfl;have d3:=kD6.cell 3 _ rfl;have t6:=hR6.c12.cell 1 _ rfl)
          | (go_at_call 94;refine (hsp _ hR6.cl).mono ?_;rintro en w7 ⟨rfl,hc7,hm7⟩)
          | (go_at_call 97;refine (zrK hR6.rd hN bA.2 bL).mono ?_;rintro en w7 ⟨rfl,v7,l7,e7,hrd7,hlen7,he7,hl7⟩)
          | (go_at_call 98;refine (zpp X b2 (.pointer (some ⟨P,0,none⟩)) v 0 0 a8 L1 F1 l _ hR6.cl hR6.own hR6.b2 hR6.lo.1 (by omega) bF).mono ?_;rintro en w7 ⟨rfl,v7,hc7,ho7,hm7,hv7⟩;have hR7:=hR6.turn (hR6.rd.segd hc7 ho7 hm7 hv7);have kD7:Cl w7 w2.heap.size _:=kD6.kept (hm7.block _ kD6.lt fun q=>by
               have u1:=hR.lo;have u2:=hR.b2;have u3:=hb1.size;have u4:=hb2.size;rcases q with q|q
               · omega
               · have:=(hR.own.lt _ q).2.1;omega)
             have d37:=kD7.cell 3 _ rfl)
          | go_in)
      · refine hend _ _ v l 4 pg.1 pg.2 I1 ((c:Int)+1) rfl rfl rfl rfl rfl rfl (hR6.turn (hR6.rd.stopped hc7 hm7)) (.inl ⟨by decide,?_⟩) (by omega);rw [congrFun k4 ()];show (4:Int)≠0;decide
      · refine hend _ _ v l 4 pg.1 pg.2 I1 ((c:Int)+1) rfl rfl rfl rfl rfl rfl (hR6.turn (hR6.rd.stopped hc7 hm7)) (.inl ⟨by decide,?_⟩) (by omega);rw [congrFun k4 ()];show (4:Int)≠0;decide
      · refine hend _ _ v l 4 pg.1 pg.2 I1 ((c:Int)+1) rfl rfl rfl rfl rfl rfl (hR6.turn (hR6.rd.stopped hc7 hm7)) (.inl ⟨by decide,?_⟩) (by omega);rw [congrFun k4 ()];show (4:Int)≠0;decide
      · refine hend _ _ v7 l7 e7 pg.1 pg.2 I1 ((c:Int)+1) rfl rfl rfl rfl rfl rfl (hR6.turn hrd7) ?_ (by omega);rw [congrFun k4 ()];by_cases h0:e7=0
        · refine .inr ⟨h0,?_,?_⟩
          · rw [hl7 h0,←he7,h0]
          · rw [hl7 h0];exact (zn9 hbyte bL.1).1
        · refine .inl ⟨h0,?_⟩;show (zbx N g a8 L1).2≠0;rw [←he7];exact h0
      · refine hend _ _ v7 _ 0 pg.1 pg.2 I1 ((c:Int)+1) rfl rfl rfl rfl rfl rfl hR7 (.inr ⟨rfl,congrFun k4 (),fun x hx=> ?_⟩) (by simp;omega);rcases List.mem_append.1 hx with hx|hx
        · exact hok x hx
        · rw [List.mem_singleton] at hx;subst hx;exact hpok
      · refine ⟨⟨v7,l++ [⟨a8,L1,F1/2%2*2 !=0⟩],pg.1,pg.2,I1,c+1,by push_cast;exact hR7,by omega,by simp;omega,fun x hx=> ?_,hposb,by push_cast;exact k4⟩,?_⟩
        · rcases List.mem_append.1 hx with hx|hx
          · exact hok x hx
          · rw [List.mem_singleton] at hx;subst hx;exact hpok
        · have e1:=hR7.c12.cell 1 _ rfl;rw [e1,y12];simp only [];omega
end Go.Proofs
end
