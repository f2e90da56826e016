/-
  Proved: laws on the way to 'PdriveHoldsProof' (texts PsC PsD0 PsD PsE PsG0 PsG WkL WkM PsH XaA WkN WkO WkP WkQ WkR WkS0 WkS1 WkS WkT DwOrc Orc WkU XaB DwArgs DwVal SvJ SvK XaC XaD XaE XaF0 XaF XaG XaH XaI XaJ XaK XaL XaM0 XaM XaN XaO XaP XcA XcB XcC XcD XcE XaR XaS0 XaS XaT XaU XaV XaW XaX XaY XaZ XbA XbB XcF XbC XbD XbH XcG XcH PsI PsJ PsK0 PsK PsL PsM PsF PsN PsO PsP0 PsP PsQ PsR0 PsR PsS PsT PsU PsX PsY PtA0 PtA PtB PtC PtD PsV PsW PtE0 PtE PtF PtG VaA VaB QaE0 QaA QaB QaC QaD QaE QaF QaG QaH XcR XcM XcJ XcK XcL XcN XcO XcS XcT XcU XcV XcW XcX XcY XcZ XdA XdB0 XdB XdC XdD XbI XbK XbM XbN XbF XbG XbE XbO XbP XbQ XbR XcP XdE XdF XdG0 XdG XdH XdI XdJ); no condition.
-/
import Derived.Test.YtkemikknnokdhaaGreatM4
import Derived.Shelf.SlIterI.Nil
import Derived.Shelf.SlIterI.Sorted
import Derived.Lib.SlKeysI
import Derived.Test.YtkemikknnokdhaaGreatProg
import Derived.Shelf.SortM.Plain
import Derived.Shelf.SortM.SortNone
import Derived.KernelRfl
import Derived.Sort.OwnSortedInts
import Derived.Carry
import Derived.OpenShut
import Derived.ProofKit
import Derived.Deep.RegionWith
import Derived.Deep.RegionHeld3
import Derived.Laws.IdiomCopy
import Derived.Lib.LaidU8
import Derived.Deep.DrawnRows
set_option linter.unusedSimpArgs false
set_option linter.unusedVariables false
set_option maxHeartbeats 4000000
noncomputable section
namespace Go.Proofs
open Go.Dw Go.RowKit
theorem Tryz.zqQ {ρ:Val} {a b:SB}:SB.den ρ (.beq a b)=(a.den ρ==b.den ρ):=rfl
theorem Tryz.zq8 {ρ:Val} {i s:Nat} {f:Int} (e:ρ.i i=f) (h:0≤f∧f<65536):SE.den ρ (.flds [⟨i,0,65535,s,1,s⟩] 0)=f/(2^s:Nat)%2*(2^s:Nat):=by
 have:=zjC (ρ:=ρ) (i:=i) (lo:=0) (hi:=65535) (fr:=s) (n:=1) (sh:=s) (by rw [e];exact h.1) (by rw [e];show f≤65535;omega)
 rw [e] at this
 exact this
theorem Tryz.znL {ρ:Val} {i hi n k:Nat} {f:Int} (e:ρ.i i=f) (h0:0≤f) (h1:f≤(hi:Int)) (h2:f<((2^n:Nat):Int)) {c:Nat} (hc:c=k<<<n):SE.den ρ (.flds [⟨i,0,hi,0,n,0⟩] c)=f+((k*2^n:Nat):Int):=by
 subst hc
 obtain ⟨x,hx⟩:=Int.eq_ofNat_of_zero_le h0
 subst hx
 simp only [SE.den,zab,Fld.den,e,Int.toNat_natCast]
 have e1:max 0 (min x hi)=x:=by omega
 have h2:x<2^n:=by omega
 rw [e1,Nat.shiftRight_zero,Nat.mod_eq_of_lt h2,Nat.shiftLeft_zero,Nat.or_comm,←Nat.shiftLeft_add_eq_or_of_lt h2,Nat.shiftLeft_eq]
 show ((k*2^n+x:Nat):Int)=x+((k*2^n:Nat):Int)
 omega
def Tryz.zpX (n a c b:Int) (x y:Bool):Val:=vof [n,0,0,0,a,c,b] [x,y] []
structure Tryz.PcD (ρ:Val) (n a c b:Int) (x y:Bool):Prop where
 d0:(szv 0).den ρ=n
 d4:(lnv 4).den ρ=a
 d5:(lnv 5).den ρ=c
 d6:(lnv 6).den ρ=b
 i4:ρ.i 4=a
 i6:ρ.i 6=b
 b0:ρ.b 0=x
 b1:ρ.b 1=y
theorem Tryz.pcD {n a c b:Int} {x y:Bool} (hn:1≤n∧n≤32768) (ha:0≤a∧a<32768) (hc:0≤c∧c≤32768) (hb:0≤b∧b<32768):PcD (zpX n a c b x y) n a c b x y:=
 ⟨zmr hn.1 hn.2,zdw ha.1 (by show a<_;omega),zdw hc.1 (by show c<_;omega),zdw hb.1 (by show b<_;omega),rfl,rfl,rfl,rfl⟩
def Tryz.posV (a:Int) (x:Bool):Value:= .agg #[.int .i64 a,.bool x]
theorem Tryz.zqA {n a c:Int} {x:Bool} (hn:1≤n∧n≤32768) (ha:0≤a∧a<n) (hc:0≤c∧c≤n) (w:World):
  Calls prog 113 #[posV a x,.int .i64 c,.int .i64 n] w fun e w'=>e= .returned (.tuple #[posV (zaH n a x c).1 (zaH n a x c).2,.int .i64 0])∧Below w.heap.size w w':=by
 have D:=pcD (n:=n) (a:=a) (c:=c) (b:=0) (x:=x) (y:=false) hn ⟨ha.1,by omega⟩ ⟨hc.1,by omega⟩ ⟨by decide,by decide⟩
 generalize zpX n a c 0 x false=ρ at D
 refine Calls.mono (zbJ (ρ:=ρ) (K:=fun _=>False) (g:=Gho.none) (bl:= []) (vals:= [posV a x,.int .i64 c,.int .i64 n]) mixed ztG zva (fun b h=>h.elim) trivial trivial za4 trivial (zav (zlv (zav (zaG D.d4) (zav (zcA D.b0) RL.nil))) (zav (zaG D.d5) (zav (zaG D.d0) RL.nil))) (zaw.2 trivial)) fun e w' hh=> ?_
 obtain ⟨p,hpm,hto,l,hl,j,he⟩:=hh
 have hb:=zaL he (fun _ h=>h)
 have w1:IntKind.wrap .i64 (a+c)=a+c:=zaT (by omega) (by omega)
 have w2:IntKind.wrap .i64 (a+c-n)=a+c-n:=zaT (by omega) (by omega)
 unfold zs9 at hpm
 simp only [List.mem_cons,List.not_mem_nil,or_false] at hpm
 rcases hpm with rfl|rfl|rfl|rfl
 all_goals
  simp only [zad,zaw,znM,zeB,den_add,D.d0,D.d4,D.d5,w1,decide_eq_true_eq,decide_eq_false_iff_not,and_true] at hto
  cases hl
  refine ⟨?_,hb⟩
 ·omega
 ·omega
 ·rw [he.ret]
  have e1:zaH n a x c=(a+c-n,!x):=by unfold zaH;rw [if_neg (by omega)]
  rw [e1]
  simp only [AV.val,AV.valL,den_add,za2,zal,zqP,zdB,D.d0,D.d4,D.d5,D.b0,w1,w2]
  rfl
 ·rw [he.ret]
  have e1:zaH n a x c=(a+c,x):=by unfold zaH;rw [if_pos (by omega)]
  rw [e1]
  simp only [AV.val,AV.valL,den_add,zal,zdB,D.d4,D.d5,D.b0,w1]
  rfl
theorem Tryz.zlM {n a c:Int} {x:Bool} (hn:1≤n∧n≤32768) (ha:0≤a∧a<n) (hc:0≤c∧c≤n) (w:World):
  Calls prog 40 #[posV a x,.int .i64 c,.int .i64 n] w fun e w'=>e= .returned (.tuple #[posV (zaH n a x c).1 (zaH n a x c).2,.int .i64 0])∧Below w.heap.size w w':=by
 have D:=pcD (n:=n) (a:=a) (c:=c) (b:=0) (x:=x) (y:=false) hn ⟨ha.1,by omega⟩ ⟨hc.1,by omega⟩ ⟨by decide,by decide⟩
 generalize zpX n a c 0 x false=ρ at D
 refine Calls.mono (zbJ (ρ:=ρ) (K:=fun _=>False) (g:=Gho.none) (bl:= []) (vals:= [posV a x,.int .i64 c,.int .i64 n]) mixed ztR zvj (fun b h=>h.elim) trivial trivial za4 trivial (zav (zlv (zav (zaG D.d4) (zav (zcA D.b0) RL.nil))) (zav (zaG D.d5) (zav (zaG D.d0) RL.nil))) (zaw.2 trivial)) fun e w' hh=> ?_
 obtain ⟨p,hpm,hto,l,hl,j,he⟩:=hh
 have hb:=zaL he (fun _ h=>h)
 have w1:IntKind.wrap .i64 (a+c)=a+c:=zaT (by omega) (by omega)
 have w2:IntKind.wrap .i64 (a+c-n)=a+c-n:=zaT (by omega) (by omega)
 unfold ztd at hpm
 simp only [List.mem_cons,List.not_mem_nil,or_false] at hpm
 rcases hpm with rfl|rfl|rfl|rfl
 all_goals
  simp only [zad,zaw,znM,zeB,den_add,D.d0,D.d4,D.d5,w1,decide_eq_true_eq,decide_eq_false_iff_not,and_true] at hto
  cases hl
  refine ⟨?_,hb⟩
 ·omega
 ·omega
 ·rw [he.ret]
  have e1:zaH n a x c=(a+c-n,!x):=by unfold zaH;rw [if_neg (by omega)]
  rw [e1]
  simp only [AV.val,AV.valL,den_add,za2,zal,zqP,zdB,D.d0,D.d4,D.d5,D.b0,w1,w2]
  rfl
 ·rw [he.ret]
  have e1:zaH n a x c=(a+c,x):=by unfold zaH;rw [if_pos (by omega)]
  rw [e1]
  simp only [AV.val,AV.valL,den_add,zal,zdB,D.d4,D.d5,D.b0,w1]
  rfl
theorem Tryz.zsq {n a b c:Int} {x y:Bool} (hn:1≤n∧n≤32768) (ha:0≤a∧a<n) (hb:0≤b∧b<n) (hc:0≤c∧c≤n) (w:World):
  Calls prog 122 #[posV a x,posV b y,.int .i64 c,.int .i64 n] w fun e w'=>e= .returned (.tuple #[.bool (zp9 n a x b y c),.int .i64 0])∧Below w.heap.size w w':=by
 have D:=pcD (n:=n) (a:=a) (c:=c) (b:=b) (x:=x) (y:=y) hn ⟨ha.1,by omega⟩ ⟨hc.1,by omega⟩ ⟨hb.1,by omega⟩
 generalize zpX n a c b x y=ρ at D
 refine Calls.mono (zbJ (ρ:=ρ) (K:=fun _=>False) (g:=Gho.none) (bl:= []) (vals:= [posV a x,posV b y,.int .i64 c,.int .i64 n]) mixed ztC zu8 (fun b h=>h.elim) trivial trivial za4 trivial (zav (zlv (zav (zaG D.d4) (zav (zcA D.b0) RL.nil))) (zav (zlv (zav (zaG D.d6) (zav (zcA D.b1) RL.nil))) (zav (zaG D.d5) (zav (zaG D.d0) RL.nil)))) (zaw.2 trivial)) fun e w' hh=> ?_
 obtain ⟨p,hpm,hto,l,hl,j,he⟩:=hh
 have hbl:=zaL he (fun _ h=>h)
 have q4:SE.den ρ (.flds [⟨4,0,4611686018427387903,0,16,0⟩] 0)=a:=(zjC (by rw [D.i4];exact ha.1) (by rw [D.i4];show a≤4611686018427387903;omega)).trans (by rw [D.i4];show a/1%65536*1=a;omega)
 have q6:SE.den ρ (.flds [⟨6,0,4611686018427387903,0,16,0⟩] 0)=b:=(zjC (by rw [D.i6];exact hb.1) (by rw [D.i6];show b≤4611686018427387903;omega)).trans (by rw [D.i6];show b/1%65536*1=b;omega)
 have w1:IntKind.wrap .i64 (a-n)=a-n:=zaT (by omega) (by omega)
 have w2:IntKind.wrap .i64 (b-c)=b-c:=zaT (by omega) (by omega)
 unfold zs7 at hpm
 simp only [List.mem_cons,List.not_mem_nil,or_false] at hpm
 rcases hpm with rfl|rfl|rfl|rfl|rfl
 all_goals
  simp only [zad,zaw,znM,zeB,zqQ,zdB,D.d0,D.d4,D.d5,D.d6,D.b0,D.b1,decide_eq_true_eq,decide_eq_false_iff_not,beq_iff_eq,beq_eq_false_iff_ne,ne_eq,and_true] at hto
  cases hl
  refine ⟨?_,hbl⟩
 ·omega
 ·omega
 ·omega
 ·rw [he.ret]
  simp only [AV.val,AV.valL,zbE,za2,znK,zal,D.d0,D.d4,D.d5,D.d6,q4,q6,w1,w2,zjR]
  unfold zp9
  rw [if_neg hto.2.2.2]
  congr 5
  exact decide_eq_decide.2 (by omega)
 ·rw [he.ret]
  simp only [AV.val,AV.valL,zbE,za2,znK,zal,D.d0,D.d4,D.d5,D.d6,q4,q6,w1,w2,zjR]
  unfold zp9
  rw [if_pos hto.2.2.2]
  congr 5
  exact decide_eq_decide.2 (by omega)
theorem Tryz.zr8 {a:Int} {x:Bool} (ha:0≤a∧a<32768) (w:World):
  Calls prog 158 #[posV a x] w fun e w'=>e= .returned (.int .u16 (posW a x))∧Below w.heap.size w w':=by
 have D:=pcD (n:=1) (a:=a) (c:=0) (b:=0) (x:=x) (y:=false) ⟨by decide,by decide⟩ ha ⟨by decide,by decide⟩ ⟨by decide,by decide⟩
 generalize zpX 1 a 0 0 x false=ρ at D
 refine Calls.mono (zbJ (ρ:=ρ) (K:=fun _=>False) (g:=Gho.none) (bl:= []) (vals:= [posV a x]) mixed zty zu5 (fun b h=>h.elim) trivial trivial za4 trivial (zav (zlv (zav (zaG D.d4) (zav (zcA D.b0) RL.nil))) RL.nil) (zaw.2 trivial)) fun e w' hh=> ?_
 obtain ⟨p,hpm,hto,l,hl,j,he⟩:=hh
 have hbl:=zaL he (fun _ h=>h)
 unfold zs4 at hpm
 simp only [List.mem_cons,List.not_mem_nil,or_false] at hpm
 rcases hpm with rfl|rfl
 all_goals
  simp only [zad,zaw,zdB,D.b0,and_true] at hto
  cases hl
  refine ⟨?_,hbl⟩
  rw [he.ret]
  simp only [AV.val]
 ·rw [znL (k:=1) (n:=15) (hi:=4611686018427387903) (c:=32768) D.i4 ha.1 (by show a≤4611686018427387903;omega) ha.2 rfl,hto];rfl
 ·rw [znL (k:=0) (n:=15) (hi:=4611686018427387903) (c:=0) D.i4 ha.1 (by show a≤4611686018427387903;omega) ha.2 rfl,hto];rfl
def Tryz.prg:AV:= .agg [.bool (.lit true),.int .i64 (szv 0),.int .u64 (u64v 1),.int .u64 (u64v 2),.int .u64 (u64v 3)]
section
variable {A:Nat→Prop} {w w':World} {S P L Bs B M N:Nat} {r:Tryz.Rg} {s s':Tryz.PS} {g g':Nat→Int}
end
theorem Tryz.PgOk.nums {r:Rg} (h:PgOk r):(1≤r.n∧r.n≤32768)∧(0≤r.d∧r.d<18446744073709551616)∧(0≤r.v∧r.v<18446744073709551616)∧(0≤r.c∧r.c<18446744073709551616):=by
 have h1:=h.bnd
 have h2:=h.d
 have h3:=h.v
 have h4:=h.c
 omega
section
variable {ρ:Val} {w0:World} {K:Nat→Prop} {P L Bs B N:Nat} {g:Nat→Int} {gs:List (Nat→Int)}
end
end Go.Proofs
namespace Go.Proofs
open Go.Dw Go.RowKit
structure Tryz.WS where
 segs:List Sg
 n:Int
 e:Int
def Tryz.OwnSeg (w:World) (b2:Nat) (v:Value) (l:List Sg):Prop:=w.ownsRow b2 137 3 v l.length (zan l)
theorem Tryz.OwnSeg.kept {w w':World} {b2:Nat} {v:Value} {l:List Sg} (h:OwnSeg w b2 v l) (hb: ∀b,v.ownBlock=some b→w'.heap[b]? =w.heap[b]?):OwnSeg w' b2 v l:=by
 obtain ⟨h1,h2⟩:=h
 refine ⟨h1,?_⟩
 rcases h2 with h2|⟨G,cap,cur,e,h3,h4,h5⟩
 ·exact .inl h2
 ·exact .inr ⟨G,cap,cur,e,h3,by rw [hb G (by rw [e];rfl)];exact h4,h5⟩
theorem Tryz.OwnSeg.lt {w:World} {b2:Nat} {v:Value} {l:List Sg} (h:OwnSeg w b2 v l): ∀b,v.ownBlock=some b→b2≤b∧b<w.heap.size∧ ∃cur e fr,w.heap[b]? =some (.cells cur e fr):=fun b hb=>by
 obtain ⟨h1,h2⟩:=h
 rcases h2 with ⟨rfl,_⟩|⟨G,cap,cur,rfl,h3,h4,h5⟩
 ·cases hb
 ·cases hb;exact ⟨h3,(Array.getElem?_eq_some_iff.1 h4).1,_,_,_,h4⟩
theorem Tryz.OwnSeg.segV {w:World} {b2:Nat} {v:Value} {l:List Sg} (h:OwnSeg w b2 v l) (hok: ∀x∈l,x.ok) {A:Nat→Prop} (hA: ∀b,b2≤b→ ¬A b):SegV A w v l:=by
 obtain ⟨h1,h2⟩:=h
 rcases h2 with ⟨rfl,h2⟩|⟨G,cap,cur,rfl,h3,h4,h5,h6,h7,h8⟩
 ·have:l= []:=List.length_eq_zero_iff.1 h2
  subst this
  exact SegV.none
 ·refine ⟨_,cap,rfl,hok,.inr ⟨G,0,rfl,hA G h3,fun i y hy=> ?_⟩⟩
  have hlt:i<(zan l).length:=(List.getElem?_eq_some_iff.1 hy).1
  rw [←h8] at hy
  have hi:i<l.length*3:=by rw [zbI] at hlt;omega
  rw [List.getElem?_take_of_lt hi] at hy
  simp only [World.cell?,h4,Nat.zero_add]
  simpa using hy
structure Tryz.V6 where
 E:Nat
 Mb:Nat
 Nn:Nat
 Tb:Nat
 Fb:Nat
 Lc:Nat
theorem Tryz.zsf {j:J} {n:Nat} {u:Value}:opqs (jq j n [u]) n=some u:=by
 unfold opqs jq
 rw [if_pos ⟨Nat.le_refl _,by simp⟩]
 simp
section
variable {ρ:Val} {P L Bs B N:Nat} {at0 size k e n A Ln F Nx cnt x rerr e3 n3:Int} {inner table:Bool} {v:Value} {g:Nat→Int} {b2 W0:Nat} {l l3:List Tryz.Sg} {a:Nat} {w0:World} {K:Nat→Prop}
theorem Tryz.zmh:(prog.info? 137).map (fun i=>(i.zero,i.size,i.bytes))=some (some (.agg #[.int .u64 0,.int .u32 0,.bool false]),3,16):=by kernel_rfl
end
end Go.Proofs
namespace Go.Proofs
open Go.Dw Go.RowKit
def Tryz.zi4 (g:Nat→Int) (a:Nat):Value:= .agg #[.int .u64 (zac g a 8),.int .u32 (zac g (a+8) 4),.int .u16 (zac g (a+12) 2),.int .u16 (zac g (a+14) 2)]
section
variable {ρ:Val} {P L Bs B N:Nat} {n d v c i ct id nx e:Int} {tb wr nwr:Bool} {sv:Value} {g:Nat→Int} {b2 W0:Nat} {l l3:List Tryz.Sg} {a q1 q2 q3:Nat} {w0:World} {K:Nat→Prop}
end
end Go.Proofs
namespace Go.Proofs
open Go.Dw Go.RowKit
theorem Tryz.zo4 (a m:Int) (hm:0<m):((if a.tmod m<0 then a.tmod m+m else a.tmod m)=a%m)∧ -m<a.tmod m∧a.tmod m<m:=by
 rw [Int.tmod_eq_emod]
 have h1:=Int.emod_nonneg a (Int.ne_of_gt hm)
 have h2:=Int.emod_lt_of_pos a hm
 have h3:((m.natAbs:Nat):Int)=m:=Int.natAbs_of_nonneg (Int.le_of_lt hm)
 by_cases h:0≤a∨m ∣ a
 ·rw [if_pos h];simp only [Int.sub_zero,Int.ofNat_zero];refine ⟨?_,?_,?_⟩<;>first|omega|(split<;>omega)
 ·rw [if_neg h,h3]
  have h4:a%m≠0:=fun h0=>h (.inr (Int.dvd_of_emod_eq_zero h0))
  refine ⟨?_,?_,?_⟩<;>first|omega|(split<;>omega)
set_option maxRecDepth 100000 in
theorem Tryz.zm7 (a m:Int) (hm:1≤m∧m≤1000000) (w:World):
  Calls prog 7 #[.int .i64 a,.int .i64 m] w fun e w'=>e= .returned (.int .i64 (a%m))∧w'=w:=by
 obtain ⟨hr,hlo,hhi⟩:=zo4 a m (by omega)
 have hq:IntKind.i64.wrap (a.tmod m)=a.tmod m:=zaT (by omega) (by omega)
 have hm0:m≠0:=by omega
 have hm1: ¬m<1:=by omega
 by_cases h0:a.tmod m<0
 ·rw [if_pos h0] at hr
  have hq2:IntKind.i64.wrap (a.tmod m+m)=a.tmod m+m:=zaT (by omega) (by omega)
  rw [←hr]
  go_enter func7,ntmps7
  go_wp2
  go_ret
  exact ⟨rfl,rfl⟩
 ·rw [if_neg h0] at hr
  rw [←hr]
  go_enter func7,ntmps7
  go_wp2
  go_ret
  exact ⟨rfl,rfl⟩
section
variable {w:World} {a:Act} {P L Bs B N:Nat} {g:Nat→Int} {b2:Nat} {x:Tryz.V6} {table:Bool} {v:Value} {s:Tryz.WS} {M:Nat} {at0 size k:Int} {inner:Bool} {seen:List Int} {ρ:Val} {A Ln F Nx cnt xx rerr e3 n3:Int} {l3:List Tryz.Sg} {aa:Nat}
end
end Go.Proofs
namespace Go.Proofs
open Go.Dw Go.RowKit
section
variable {w:World} {a:Act} {P L Bs B N:Nat} {g:Nat→Int} {b2:Nat} {x:Tryz.V6} {table:Bool} {v:Value} {s:Tryz.WS} {M:Nat} {at0 size k:Int} {inner:Bool} {seen:List Int} {f:Nat} {tab:Int→Int→Int→Tryz.WS→Tryz.WS}
theorem Tryz.zug {ρ:Val} {j:J} {n:Nat} {u:Value} (hu:opqs j n=some u):(AV.opq n none).val ρ (lcOf j)=u:=by
 unfold opqs at hu
 show (lcOf j n).q.getD undef=u
 unfold lcOf
 cases hj:j n with
 | none=>rw [hj] at hu;cases hu
 | some Lq=>
  rw [hj] at hu
  have hu:Lq.q=some u:=hu
  show Lq.q.getD undef=u
  rw [hu];rfl
end
end Go.Proofs
namespace Go.Proofs
open Go.Dw Go.RowKit
theorem Tryz.OwnSeg.nil (w:World) (b2:Nat):OwnSeg w b2 (.slice none 0 0) []:=⟨rfl,.inl ⟨rfl,rfl⟩⟩
theorem Tryz.OwnSeg.mono {w:World} {b1 b2:Nat} {v:Value} {l:List Sg} (h:OwnSeg w b2 v l) (hb:b1≤b2):OwnSeg w b1 v l:=by
 obtain ⟨h1,h2⟩:=h
 refine ⟨h1,?_⟩
 rcases h2 with h2|⟨G,cap,cur,e,h3,h4⟩
 ·exact .inl h2
 ·exact .inr ⟨G,cap,cur,e,Nat.le_trans hb h3,h4⟩
theorem Tryz.OwnSeg.slice {w:World} {b2:Nat} {v:Value} {l:List Sg} (h:OwnSeg w b2 v l): ∃sa c,v= .slice sa l.length c∧ ∀R o,sa=some ⟨R,o,none⟩→v.ownBlock=some R:=by
 obtain ⟨h1,h2⟩:=h
 rcases h2 with ⟨rfl,h2⟩|⟨G,cap,cur,rfl,_⟩
 ·exact ⟨none,0,by rw [h2],fun R o h=>by cases h⟩
 ·exact ⟨_,cap,rfl,fun R o h=>by cases h;rfl⟩
open Go.Maps Go.Sort
section
variable {A:Nat→Prop} {w:World} {S P M:Nat} {r:Tryz.Rg} {s:Tryz.SS}
end
end Go.Proofs
namespace Go.Proofs
open Go.Dw Go.RowKit
section
variable {A:Nat→Prop} {w:World} {S P L Bs B M N:Nat} {r:Tryz.Rg} {s:Tryz.SS} {g:Nat→Int}
end
end Go.Proofs
namespace Go.Dw
abbrev KE:=SE×Nat×Nat
section
variable {P:Program} {ρ:Val} {w0:Cx} {j:J} {H:Heap} {w w':World}
structure ztr (P:Program) (f:FuncId):Prop where
 enters:Enters P f
 runs: ∀w,Calls P f #[] w fun e w'=>e= .returned (.bool true)∧RowKit.Below w.heap.size w w'
def zj0:World:=default
theorem zoj {P:Program} (hmo:P.follows .mixedOrders=true) {orc:FuncId→List AV→Heap→Option (List (AV×Heap))} (hor: ∀w,zlw P Val.zero (Cx.plain w) orc) {n:Nat} {f:FuncId} (h:(ev P orc n (.call f [] heap0 isTrue)).good=true):ztr P f:=
  ⟨((zjw (ρ:=Val.zero) (w0:=Cx.plain zj0) (hor zj0) (fun n rec hg=>zkn hmo hg) n).call f [] heap0 isTrue (Ob.den_of_good h)).1,
   fun w=>zoP (ρ:=Val.zero) hmo (hor w) (inv0 w) RL.nil (Ob.den_of_good h)⟩
end
end Go.Dw
namespace Go.Proofs
open Go.Shelf Go.RowKit Go.Maps Go.Sort
def Tryz.zpb:Go.Shelf.Ren:=⟨fun|5=>90|8=>139|7=>138|19=>169|20=>170|10=>160|11=>161|12=>162|13=>163|14=>164|15=>165|16=>166|17=>167|18=>168|30=>174|31=>175|32=>176|33=>177|34=>178|35=>179|40=>180|n=>n,fun|23=>82|25=>3|3=>3|32=>153|22=>82|0=>0|44=>50|46=>28|4=>4|36=>222|35=>221|41=>206|5=>5|9=>9|53=>232|57=>236|63=>238|64=>151|n=>n,fun|n=>n⟩
theorem Tryz.zu7:Go.Proofs.SlLaysM.n5 prog zpb:= {
 mixed:=by kernel_rfl
 f5:=⟨f90.name,by decide,func90.trans (congrArg some (by kernel_rfl))⟩
 f7:=⟨f138.name,by decide,func138.trans (congrArg some (by kernel_rfl))⟩
 f8:=func139.trans (congrArg some (by kernel_rfl))
 f10:=⟨f160.name,by decide,func160.trans (congrArg some (by kernel_rfl))⟩
 f11:=⟨f161.name,by decide,func161.trans (congrArg some (by kernel_rfl))⟩
 f12:=⟨f162.name,by decide,func162.trans (congrArg some (by kernel_rfl))⟩
 f13:=⟨f163.name,by decide,func163.trans (congrArg some (by kernel_rfl))⟩
 f14:=⟨f164.name,by decide,func164.trans (congrArg some (by kernel_rfl))⟩
 f15:=⟨f165.name,by decide,func165.trans (congrArg some (by kernel_rfl))⟩
 f16:=⟨f166.name,by decide,func166.trans (congrArg some (by kernel_rfl))⟩
 f17:=⟨f167.name,by decide,func167.trans (congrArg some (by kernel_rfl))⟩
 f18:=⟨f168.name,by decide,func168.trans (congrArg some (by kernel_rfl))⟩
 f19:=func169.trans (congrArg some (by kernel_rfl))
 f20:=func170.trans (congrArg some (by kernel_rfl))
 f30:=⟨f174.name,by decide,func174.trans (congrArg some (by kernel_rfl))⟩
 f31:=func175.trans (congrArg some (by kernel_rfl))
 f32:=func176.trans (congrArg some (by kernel_rfl))
 f33:=⟨f177.name,by decide,func177.trans (congrArg some (by kernel_rfl))⟩
 f34:=⟨f178.name,by decide,func178.trans (congrArg some (by kernel_rfl))⟩
 f35:=⟨f179.name,by decide,func179.trans (congrArg some (by kernel_rfl))⟩
 f40:=⟨f180.name,by decide,func180.trans (congrArg some (by kernel_rfl))⟩
 t0:=underlying0
 a0:=isAgg0
 z0:=sizeOf0
 v0:=zeroValue0
 t3:=underlying3
 a3:=isAgg3
 z3:=sizeOf3
 v3:=zeroValue3
 t4:=underlying4
 a4:=isAgg4
 z4:=sizeOf4
 v4:=zeroValue4
 t5:=underlying5
 a5:=isAgg5
 z5:=sizeOf5
 v5:=zeroValue5
 t9:=underlying9
 a9:=isAgg9
 z9:=sizeOf9
 v9:=zeroValue9
 t22:=underlying82
 a22:=isAgg82
 z22:=sizeOf82
 v22:=zeroValue82
 t23:=underlying82
 a23:=isAgg82
 z23:=sizeOf82
 v23:=zeroValue82
 t25:=underlying3
 a25:=isAgg3
 z25:=sizeOf3
 v25:=zeroValue3
 t32:=underlying153
 a32:=isAgg153
 z32:=sizeOf153
 v32:=zeroValue153
 t35:=underlying221
 a35:=isAgg221
 z35:=sizeOf221
 v35:=zeroValue221
 t36:=underlying222
 a36:=isAgg222
 z36:=sizeOf222
 v36:=zeroValue222
 t41:=underlying206
 a41:=isAgg206
 z41:=sizeOf206
 v41:=zeroValue206
 t44:=underlying50
 a44:=isAgg50
 z44:=sizeOf50
 v44:=zeroValue50
 t46:=underlying28
 a46:=isAgg28
 z46:=sizeOf28
 v46:=zeroValue28
 t53:=underlying232
 a53:=isAgg232
 z53:=sizeOf232
 v53:=zeroValue232
 t57:=underlying236
 a57:=isAgg236
 z57:=sizeOf236
 v57:=zeroValue236
 t63:=underlying238
 a63:=isAgg238
 z63:=sizeOf238
 v63:=zeroValue238
 t64:=underlying151
 a64:=isAgg151
 z64:=sizeOf151
 v64:=zeroValue151 }
end Go.Proofs
namespace Go.Dw
open Go.RowKit Go.WideShapes Go.ChangeShapes
theorem trodAll_stays {H:Type} {enc:TypeId×Value→H} {P:Program} {W W':World} (hl:laidOutB P=true) (hb:Below W.heap.size W W') {sp:Nat→Bool}: ∀ {ts:List TypeId} {vs:List Value} {ds:List (DataW H)} {ps:List MemPlace},
  (∀ t∈ts,P.readableRec t=true∧t<P.types.size)→DataW.TrodAll enc P W 0 (fun _=>true) true ts vs ds ps→(∀x∈ps,x.block<W.heap.size)→(∀x∈ps,sp x.block=true)→DataW.TrodAll enc P W' 0 sp true ts vs ds ps
 | [], vs,ds,ps,_,h,_,_=>by
  obtain ⟨rfl,rfl,rfl⟩:=trodAll_nil h
  exact trodAll_mk0
 | t::ts,vs,ds,ps,ht,h,hlt,hsp=>by
  obtain ⟨v,vs',d,ds',p,q,rfl,rfl,rfl,h0,h1⟩:=trodAll_cons h
  have ht0:=ht t (List.mem_cons_self ..)
  refine trodAll_cons_mk (WideElems.Trod_stays hl ht0.1 ht0.2 h0 (fun x hx=>hb.same (hlt x (List.mem_append_left _ hx))) (fun x hx=>hsp x (List.mem_append_left _ hx))) ?_
  exact trodAll_stays hl hb (fun u hu=>ht u (List.mem_cons_of_mem _ hu)) h1 (fun x hx=>hlt x (List.mem_append_right _ hx)) (fun x hx=>hsp x (List.mem_append_right _ hx))
theorem okWide_bools3 {P:Program} {w:World} {r:Reach} {base:Nat} {t b:TypeId} {fs:Array Field} {v:Value} (ht:P.underlying t=some (.struct fs)) (hn:P.cellsOf t=3) (hc:P.cellTypes P.depth t=some [b,b,b])
  (hb:P.underlying b=some .bool) (h:Value.okWide P w r base t v): ∃x y z,v= .agg #[.bool x,.bool y,.bool z]:=by
 simp only [Value.okWide,ht] at h
 obtain ⟨cs,rfl,hsz,ts,hts,_,hcell⟩:=h
 rw [hc] at hts
 cases hts
 rw [hn] at hsz
 have cell: ∀i v,i<3→cs[i]? =some v→ ∃x,v= .bool x:=fun i v hi hv=>by
  obtain ⟨u,hu,hok⟩:=hcell i v hv
  have e:u=b:=by
   have hi':i% [b,b,b].length=i:=Nat.mod_eq_of_lt (by simpa using hi)
   rw [hi'] at hu
   match i,hi with
   | 0,_=>simpa using hu.symm
   | 1,_=>simpa using hu.symm
   | 2,_=>simpa using hu.symm
  subst e
  simp only [Cell.okWide,hb] at hok
  cases v<;>simp_all [Cell.ok]
 obtain ⟨x,hx⟩:=cell 0 cs[0] (by omega) (Array.getElem?_eq_getElem (by omega))
 obtain ⟨y,hy⟩:=cell 1 cs[1] (by omega) (Array.getElem?_eq_getElem (by omega))
 obtain ⟨z,hz⟩:=cell 2 cs[2] (by omega) (Array.getElem?_eq_getElem (by omega))
 refine ⟨x,y,z,?_⟩
 congr 1
 apply Array.ext
 ·rw [hsz];rfl
 ·intro i h1 h2
  match i,h2 with
  | 0,_=>exact hx
  | 1,_=>exact hy
  | 2,_=>exact hz
end Go.Dw
namespace Go.Dw
open Go.RowKit
mutual
def clo:AV→Option Value
 | .bool (.lit b)=>some (.bool b)
 | .int k (.lit n)=>some (.int k n)
 | .nilp=>some (.pointer none)
 | .nils=>some (.slice none 0 0)
 | .agg l=>match cloL l with|some m=>some (.agg m.toArray)|none=>none
 | .tup l=>match cloL l with|some m=>some (.tuple m.toArray)|none=>none
 | _=>none
def cloL:List AV→Option (List Value)
 | [] => some []
 | a::l=>match clo a,cloL l with|some v,some m=>some (v::m)|_,_=>none
end
mutual
theorem clo_sound {ρ:Val} {j:J}: ∀ {a:AV} {x u:Value},clo a=some x→R ρ j a u→u=x
 | .bool (.lit b),x,u,h,r=>by cases h;exact r
 | .int k (.lit n),x,u,h,r=>by cases h;exact r
 | .nilp,x,u,h,r=>by cases h;exact r
 | .nils,x,u,h,r=>by cases h;exact r
 | .agg l,x,u,h,r=>by
  obtain ⟨m,rfl,hm⟩:=r
  rw [clo] at h
  cases hl:cloL l with
  | none=>rw [hl] at h;cases h
  | some m'=>rw [hl] at h;cases h;rw [cloL_sound hl hm]
 | .tup l,x,u,h,r=>by
  obtain ⟨m,rfl,hm⟩:=r
  rw [clo] at h
  cases hl:cloL l with
  | none=>rw [hl] at h;cases h
  | some m'=>rw [hl] at h;cases h;rw [cloL_sound hl hm]
theorem cloL_sound {ρ:Val} {j:J}: ∀ {l:List AV} {m us:List Value},cloL l=some m→RL ρ j l us→us=m
 | [], m,us,h,r=>by cases h;exact r
 | a::l,m,us,h,r=>by
  obtain ⟨v,m',rfl,hv,hm⟩:=r
  rw [cloL] at h
  cases ha:clo a with
  | none=>rw [ha] at h;cases h
  | some x=>
   cases hl:cloL l with
   | none=>rw [ha,hl] at h;cases h
   | some y=>rw [ha,hl] at h;cases h;rw [clo_sound ha hv,cloL_sound hl hm]
end
def eqB (a b:Bool):Bool:=match a with|true=>b|false=>match b with|true=>false|false=>true
mutual
def eqAV:AV→AV→Bool
 | .bool (.lit a),.bool (.lit b)=>eqB a b
 | .int k (.lit a),.int k' (.lit b)=>match decide (k=k') with|true=>decide (a=b)|false=>false
 | .nilp,.nilp=>true
 | .nils,.nils=>true
 | .agg l,.agg m=>eqAVL l m
 | .tup l,.tup m=>eqAVL l m
 | _,_=>false
def eqAVL:List AV→List AV→Bool
 | [], [] => true
 | a::l,b::m=>match eqAV a b with|true=>eqAVL l m|false=>false
 | _,_=>false
end
theorem zvz {a b:Bool} (h:eqB a b=true):a=b:=by cases a<;>cases b<;>first|rfl|cases h
mutual
theorem eqAV_eq: ∀ {a b:AV},eqAV a b=true→a=b
 | .bool (.lit a),.bool (.lit b),h=>by rw [zvz (a:=a) (b:=b) h]
 | .int k (.lit a),.int k' (.lit b),h=>by
  rw [eqAV] at h
  split at h
  ·rename_i hk
   rw [of_decide_eq_true hk,of_decide_eq_true h]
  ·cases h
 | .nilp,.nilp,_=>rfl
 | .nils,.nils,_=>rfl
 | .agg l,.agg m,h=>by rw [eqAVL_eq (l:=l) (m:=m) h]
 | .tup l,.tup m,h=>by rw [eqAVL_eq (l:=l) (m:=m) h]
theorem eqAVL_eq: ∀ {l m:List AV},eqAVL l m=true→l=m
 | [], [], _=>rfl
 | a::l,b::m,h=>by
  rw [eqAVL] at h
  split at h
  ·rename_i ha
   rw [eqAV_eq ha,eqAVL_eq h]
  ·cases h
end
def isAV (x : AV) (v : AV) (_ : Heap) : Ob := match eqAV v x with | true => .ok | false => .bad 96 "other"
theorem zpo {P:Program} (hmo:P.follows .mixedOrders=true) {n:Nat} {f:FuncId} {args:List AV} {vals:List Value} {x:AV} {u:Value} (hx:clo x=some u) (ha:RL Val.zero (fun _=>none) args vals)
  (h:(ev P zot n (.call f args heap0 (isAV x))).good=true) (w:World):
  Calls P f vals.toArray w fun e w'=>e= .returned u∧Below w.heap.size w w':=by
 have hg:=zjw (P:=P) (ρ:=Val.zero) (w0:=Cx.plain w) (orc:=zot) znf (fun n rec hg=>zkn hmo hg) n
 refine Calls.mono ((hg.call f args heap0 (isAV x) (Ob.den_of_good h)).2 (fun _=>none) w vals (inv0 w) ha) fun e w' he=> ?_
 obtain ⟨u',rfl,v,H',j',h1,h2,h3,h4⟩:=he
 have hv:v=x:=by
  unfold isAV at h4
  split at h4
  ·rename_i e
   exact eqAV_eq e
  ·exact h4.elim
 rw [hv] at h1
 rw [clo_sound hx h1]
 exact ⟨rfl,h2.fr.below⟩
theorem ztu {ρ:Val} {j:J} {k:IntKind} {n:Int} {l:List AV} {m:List Value} (h:RL ρ j l m):RL ρ j (.int k (.lit n)::l) (.int k n::m):=⟨_,_,rfl,rfl,h⟩
theorem zuW {ρ:Val} {j:J} {b:Bool} {l:List AV} {m:List Value} (h:RL ρ j l m):RL ρ j (.bool (.lit b)::l) (.bool b::m):=⟨_,_,rfl,rfl,h⟩
end Go.Dw
namespace Go.Proofs
open Go.Dw Go.RowKit
theorem Tryz.zrP {fn:Func} {t t2 p u:Tmp} {ty:TypeId} (h:fn.results= #[.tmp t,.tmp t2,.cell p ty,.tmp u]) (tmps:Array Value) (w:World) (b:Nat) (cs:List Value) (d:TypeDesc)
  (hp:tmps.getD p undef= .pointer (some ⟨b,0,none⟩)) (hg:w.rangeAt b 0 cs) (hu:prog.underlying ty=some d) (hd:d.isRow=true) (hi:(prog.info? ty).map (·.size)=some cs.length):
  (results fn tmps).run prog w= .ok (.tuple #[tmps.getD t undef,tmps.getD t2 undef,.agg cs.toArray,tmps.getD u undef]) w:=by
 have hp':tmps[p]?.getD undef= .pointer (some ⟨b,0,none⟩):=by simpa using hp
 simp [results,h,hp',asAddr,run_loadVar_mid w b 0 ty cs d hg hu hd hi]
theorem Tryz.zas (w:World) (o:Obj):(w.alloc o).heap.size=w.heap.size+1:=by simp
end Go.Proofs
namespace Go.Proofs
open Go.Dw
def Tryz.zkf:List Ent:= []
def Tryz.zmY:List Sh:= [ckEl 3 4 0]
def Tryz.zec:List (Nat×AV):= [(0,ckL [(.lit 0,1)]),(3,.int .u64 (u64v 2)),(4,.int .i64 (.lit 0))]
def Tryz.zib:List LEnt:= []
def Tryz.zic:List AEnt:= []
def Tryz.zmZ:Option AV:=none
def Tryz.zrZ:List (SB×Bool):= [(.cmp .lss (.lit 0) (lnv 0),true)]
def Tryz.zpJ:List zft:= [
 ⟨.ret,[2],none,⟨.tup [.int .i64 (.lit 2)],[],[],0,[]⟩⟩,
 ⟨.normal,[0,3,4],none,⟨.tup [.sx 0 ((lnv 0)) 3 [((.lit 0),1)],.int .u64 (.bin .add .u64 (u64v 2) (u32v 4)),.int .i64 (.lit 1)],[],[],0,[]⟩⟩]
def Tryz.zpI:List (List (SB×Bool)×Nat):= [
 ([((.cmp .eql (u32v 4) (.lit 0)),true)],0),
 ([((.cmp .eql (u32v 4) (.lit 0)),false),((.cmp .lss (.bin .add .u64 (u64v 3) (.bin .sub .u64 (u32v 4) (.lit 1))) (u64v 3)),true)],0),
 ([((.cmp .eql (u32v 4) (.lit 0)),false),((.cmp .lss (.bin .add .u64 (u64v 3) (.bin .sub .u64 (u32v 4) (.lit 1))) (u64v 3)),false)],1)]
theorem Tryz.zrY:(evL prog (zbf zkf) (zb6 zib) (zbS zic) 100000 (.code (zbb prog [0,0,1,0,1,1,1,123]) [0,0,1,0,1,1,1,123] 71 (envS 71 zec zmZ) (zba 0 zmY) (zbA zpJ 0))).ways zrZ=some zpI:=by kernel_rfl
theorem Tryz.ztX:(zaJ zmY&&zay zkf&&zaV zib&&zaX zic&&zaK zec&&zaI zpJ&&zbq 71 zec&&Nat.ble 71 zaS&&zbw zmZ)=true:=by kernel_rfl
def Tryz.zke:List Ent:= []
def Tryz.zmW:List Sh:= [ckEl 3 4 0,ckEl 5 6 1]
def Tryz.zeb:List (Nat×AV):= [(0,ckL [(lnv 1,1),(.bin .sub .i64 (lnv 1) (.lit 1),2)]),(3,.int .u64 (u64v 2)),(4,.int .i64 (lnv 1))]
def Tryz.zh9:List LEnt:= []
def Tryz.zia:List AEnt:= []
def Tryz.zmX:Option AV:=none
def Tryz.zrX:List (SB×Bool):= [(.cmp .lss (lnv 1) (lnv 0),true),(.cmp .gtr (lnv 1) (.lit 0),true)]
def Tryz.zpH:List zft:= [
 ⟨.ret,[2],none,⟨.tup [.int .i64 (.lit 2)],[],[],0,[]⟩⟩,
 ⟨.normal,[0,3,4],none,⟨.tup [.sx 0 ((lnv 0)) 3 [((lnv 1),1),((.bin .sub .i64 (lnv 1) (.lit 1)),2)],.int .u64 (.bin .add .u64 (u64v 2) (u32v 4)),.int .i64 (.bin .add .i64 (lnv 1) (.lit 1))],[],[],0,[]⟩⟩]
def Tryz.zpG:List (List (SB×Bool)×Nat):= [
 ([((.cmp .eql (u32v 4) (.lit 0)),true)],0),
 ([((.cmp .eql (u32v 4) (.lit 0)),false),((.cmp .lss (.bin .add .u64 (u64v 3) (.bin .sub .u64 (u32v 4) (.lit 1))) (u64v 3)),true)],0),
 ([((.cmp .eql (u32v 4) (.lit 0)),false),((.cmp .lss (.bin .add .u64 (u64v 3) (.bin .sub .u64 (u32v 4) (.lit 1))) (u64v 3)),false),(.var 1,true),(.var 0,false)],0),
 ([((.cmp .eql (u32v 4) (.lit 0)),false),((.cmp .lss (.bin .add .u64 (u64v 3) (.bin .sub .u64 (u32v 4) (.lit 1))) (u64v 3)),false),(.var 1,true),(.var 0,true)],1),
 ([((.cmp .eql (u32v 4) (.lit 0)),false),((.cmp .lss (.bin .add .u64 (u64v 3) (.bin .sub .u64 (u32v 4) (.lit 1))) (u64v 3)),false),(.var 1,false)],1)]
theorem Tryz.zrW:(evL prog (zbf zke) (zb6 zh9) (zbS zia) 100000 (.code (zbb prog [0,0,1,0,1,1,1,123]) [0,0,1,0,1,1,1,123] 71 (envS 71 zeb zmX) (zba 0 zmW) (zbA zpH 0))).ways zrX=some zpG:=by kernel_rfl
theorem Tryz.ztW:(zaJ zmW&&zay zke&&zaV zh9&&zaX zia&&zaK zeb&&zaI zpH&&zbq 71 zeb&&Nat.ble 71 zaS&&zbw zmX)=true:=by kernel_rfl
def Tryz.zkd:List Ent:= []
def Tryz.zmU:List Sh:= []
def Tryz.zea:List (Nat×AV):= [(0,ckL []),(3,.int .u64 (u64v 2)),(4,.int .i64 (lnv 1))]
def Tryz.zh7:List LEnt:= []
def Tryz.zh8:List AEnt:= []
def Tryz.zmV:Option AV:=none
def Tryz.zrV:List (SB×Bool):= [(.cmp .lss (lnv 1) (lnv 0),false)]
def Tryz.zpF:List zft:= [
 ⟨(.exit 0),[3],none,⟨.tup [.int .u64 (u64v 2)],[],[],0,[]⟩⟩]
def Tryz.zpE:List (List (SB×Bool)×Nat):= [
 ([], 0)]
theorem Tryz.zrU:(evL prog (zbf zkd) (zb6 zh7) (zbS zh8) 100000 (.code (zbb prog [0,0,1,0,1,1,1,123]) [0,0,1,0,1,1,1,123] 71 (envS 71 zea zmV) (zba 0 zmU) (zbA zpF 0))).ways zrV=some zpE:=by kernel_rfl
theorem Tryz.ztV:(zaJ zmU&&zay zkd&&zaV zh7&&zaX zh8&&zaK zea&&zaI zpF&&zbq 71 zea&&Nat.ble 71 zaS&&zbw zmV)=true:=by kernel_rfl
def Tryz.zkc:List Ent:= []
def Tryz.zmS:List Sh:= []
def Tryz.zd9:List (Nat×AV):= [(3,.int .u64 (u64v 2))]
def Tryz.zh5:List LEnt:= []
def Tryz.zh6:List AEnt:= []
def Tryz.zmT:Option AV:=none
def Tryz.zrT:List (SB×Bool):= []
def Tryz.zpD:List zft:= [
 ⟨.ret,[2],none,⟨.tup [.int .i64 (.lit 2)],[],[],0,[]⟩⟩,
 ⟨.ret,[2],none,⟨.tup [.int .i64 (.lit 0)],[],[],0,[]⟩⟩]
def Tryz.zpC:List (List (SB×Bool)×Nat):= [
 ([((.cmp .geq (u64v 2) (.lit 4294967296)),true)],0),
 ([((.cmp .geq (u64v 2) (.lit 4294967296)),false)],1)]
theorem Tryz.zrS:(evL prog (zbf zkc) (zb6 zh5) (zbS zh6) 100000 (.code (zbb prog [1,1,1,1,123]) [1,1,1,1,123] 71 (envS 71 zd9 zmT) (zba 0 zmS) (zbA zpD 0))).ways zrT=some zpC:=by kernel_rfl
theorem Tryz.ztU:(zaJ zmS&&zay zkc&&zaV zh5&&zaX zh6&&zaK zd9&&zaI zpD&&zbq 71 zd9&&Nat.ble 71 zaS&&zbw zmT)=true:=by kernel_rfl
open Go.RowKit
structure Tryz.RcI (l:List Sg) (sa:Option Addr) (c:Nat) (w0:World) (k:Nat) (a:Act) (w:World):Prop where
 kl:k≤l.length
 size:a.tmps.size=71
 dfr:a.defers= []
 s0:a.tmps.getD 0 undef= .slice sa l.length c
 s4:a.tmps.getD 4 undef= .int .i64 k
 mv:Below w0.heap.size w0 w
 sum: ∃pw s,a.tmps.getD 3 undef= .int .u64 s∧0≤s∧s≤k*4294967296∧zax pw s (l.drop k)=zax false 0 l∧(k=0→pw=false)∧(∀i,k=i+1→ ∃h:i<l.length,pw=l[i].wr)
theorem Tryz.zvV {ρ:Val} {j:J} {sa:Option Addr} {n c:Nat} (hv:ρ.v 0= .slice sa n c) (hd:(lnv 0).den ρ=n):Dw.R ρ j (ckL []) (.slice sa n c):=by
 have:Dw.R ρ j (ckL []) (ρ.v 0):=⟨rfl,sa,n,c,hv,hd.symm,trivial⟩
 rwa [hv] at this
theorem Tryz.zr0 {l:List Sg} {sa:Option Addr} {c:Nat} {w0:World} {k:Nat} {a:Act} {w:World} (h:RcI l sa c w0 k a w) (hl:l.length≤64) (hok: ∀x∈l,x.ok)
    (hr:l= []∨ ∃R o,sa=some ⟨R,o,none⟩∧w0.rangeAt R o (zan l)):
    (zbb prog [0,0,1,0,1,1,1,123]).wp prog (fun ex a' w'=>match ex with
      | .normal=>k<l.length∧RcI l sa c w0 (k+1) a' w'
      | ex=>a'.tmps.size=71∧a'.defers= []∧Below w0.heap.size w0 w'∧((ex= .ret∧zax false 0 l=2∧a'.tmps.getD 2 undef= .int .i64 2)∨(ex= .exit 0∧ ∃s,zax false 0 l=(if 4294967296≤s then 2 else 0)∧a'.tmps.getD 3 undef= .int .u64 s∧0≤s∧s<18446744073709551616))) a w:=by
  obtain ⟨kl,size,dfr,s0,s4,mv,pw,s,s3,hs0,hs1,hsw,hp0,hp1⟩:=h
  have hden: ∀(n k' s':Int) (x y:Sg) (sl:Value),n=l.length→0≤k'→k'≤64→0≤s'→s'<18446744073709551616→x.ok→(lnv 0).den (zbo n k' s' x y sl)=l.length∧(lnv 1).den (zbo n k' s' x y sl)=k'∧(u64v 2).den (zbo n k' s' x y sl)=s'∧(u64v 3).den (zbo n k' s' x y sl)=x.at1∧(u32v 4).den (zbo n k' s' x y sl)=x.len:=by
    intro n k' s' x y sl h1 h2 h3 h4 h5 h6
    subst h1
    exact ⟨zdw (by show (0:Int)≤l.length;omega) (by show ((l.length:Nat):Int)<_;omega),zdw h2 (by show k'<_;omega),zbr h4 h5,zbr h6.1 h6.2.1,zhI h6.2.2.1 h6.2.2.2⟩
  by_cases hkl:k<l.length
  · rcases hr with h0|⟨R,o,rfl,hr⟩
    · rw [h0] at hkl;simp at hkl
    have hRw0:=zgZ hr (by intro h0;rw [h0] at hkl;simp at hkl)
    have hrw:w.rangeAt R o (zan l):=zag hr (mv.block R hRw0)
    have hx:=zcS hrw k hkl
    have hxo:=hok l[k] (List.getElem_mem hkl)
    rw [List.drop_eq_getElem_cons hkl] at hsw
    generalize hX:l[k]=X at hx hxo hsw
    have hXok:=hxo
    obtain ⟨xa0,xa1,xl0,xl1⟩:=hxo
    rw [zax] at hsw
    have hwl:X.len≠0→IntKind.wrap .u64 (X.len-1)=X.len-1:=fun h=>zaN (by omega) (by omega)
    have hwa:IntKind.wrap .u64 (X.at1+(X.len-1))=(X.at1+(X.len-1))%18446744073709551616:=zjQ _
    have hws:IntKind.wrap .u64 (s+X.len)=s+X.len:=zaN (by omega) (by omega)
    have hkk:IntKind.wrap .i64 ((k:Int)+1)=((k+1:Nat):Int):=by rw [zaT (by omega) (by omega)];omega
    have fin: ∀ {a':Act} {w':World},a'.tmps.size=71→a'.defers= []→Below w.heap.size w w'→([0,3,4].map fun t=>a'.tmps.getD t undef)= [.slice (some ⟨R,o,none⟩) l.length c,.int .u64 (s+X.len),.int .i64 (k+1:Nat)]→
        zax X.wr (s+X.len) (l.drop (k+1))=zax false 0 l→k<l.length∧RcI l (some ⟨R,o,none⟩) c w0 (k+1) a' w':=fun {a' w'} q1 q2 q5 q8 q9=>by
      simp only [List.map_cons,List.map_nil,List.cons.injEq,and_true] at q8
      obtain ⟨t0,t3,t4⟩:=q8
      refine ⟨hkl,⟨by omega,q1,q2,t0,t4,mv.trans (q5.mono mv.size),X.wr,s+X.len,t3,by omega,by push_cast;omega,q9,by omega,fun i hi=> ?_⟩⟩
      have:k=i:=by omega
      subst this
      exact ⟨hkl,by rw [hX]⟩
    rcases Nat.eq_zero_or_pos k with hk0|hk0
    · subst hk0
      have hpw:=hp0 rfl
      subst hpw
      obtain ⟨d0,d1,d2,d3,d4⟩:=hden l.length 0 s X X (.slice (some ⟨R,o,none⟩) l.length c) rfl (by omega) (by omega) hs0 (by omega) hXok
      have hv0:(zbo l.length 0 s X X (.slice (some ⟨R,o,none⟩) l.length c)).v 0= .slice (some ⟨R,o,none⟩) l.length c:=rfl
      have hb0:(zbo l.length 0 s X X (.slice (some ⟨R,o,none⟩) l.length c)).b 0=X.wr:=rfl
      generalize zbo l.length 0 s X X (.slice (some ⟨R,o,none⟩) l.length c)=ρ at*
      have hj1:jOf [(R,o)] 1=some ⟨R,o,0,none⟩:=rfl
      have hsx:Dw.R ρ (jOf [(R,o)]) (ckL [(.lit 0,1)]) (.slice (some ⟨R,o,none⟩) l.length c):=by
        have:Dw.R ρ (jOf [(R,o)]) (ckL [(.lit 0,1)]) (ρ.v 0):=⟨rfl,_,_,_,hv0,d0.symm,⟨R,o,_,0,rfl,hj1,rfl,rfl,hkl,rfl⟩,trivial⟩
        rwa [hv0] at this
      refine wp_mono (zbX (ρ:=ρ) (K:=fun _=>False) (g:=Gho.none) (bl:= [(R,o)]) mixed zrY ztX (fun b h=>h.elim)
        ⟨zdd hx (by unfold Sg.cells;simp) (zav (zaG d3) (zav (zaG d4) (zav (zcA hb0) RL.nil))) (fun h=>h),trivial⟩
        ⟨fun h=>(by cases h),trivial⟩ za4 trivial trivial trivial size dfr ?_ (zad.2 ⟨by rw [zbE,d0,zal];simp only [decide_eq_true_eq];omega,zaw.2 trivial⟩)) fun ex a' w' hh=> ?_
      · intro t ht
        simp only [zec,List.mem_cons,List.not_mem_nil,or_false] at ht
        rcases ht with rfl|rfl|rfl
        · rw [s0];exact hsx
        · rw [s3];exact zaG d2
        · rw [s4];exact zaG rfl
      · obtain ⟨q,hq,hto,lf,hlf,rfl,hsz,j,hdf,he⟩:=hh
        have hbl:=zaL he (fun _ h=>h)
        unfold zpI at hq
        simp only [List.mem_cons,List.not_mem_nil,or_false] at hq
        rcases hq with rfl|rfl|rfl
        all_goals
          simp only [zad,zaw,ztn,zbE,zdB,za2,den_add,zal,d0,d1,d2,d3,d4,decide_eq_true_eq,decide_eq_false_iff_not,beq_iff_eq,beq_eq_false_iff_ne,ne_eq,and_true] at hto
          cases hlf
          have hs:=zbd he.ret
        · exact ⟨hsz,hdf,mv.trans (hbl.mono mv.size),.inl ⟨rfl,by rw [←hsw,if_pos (by omega)],by simpa [AV.valL,AV.val,zal] using hs⟩⟩
        · obtain ⟨t1,t2⟩:=hto
          rw [hwl t1,hwa] at t2
          exact ⟨hsz,hdf,mv.trans (hbl.mono mv.size),.inl ⟨rfl,by rw [←hsw,if_pos (by omega)],by simpa [AV.valL,AV.val,zal] using hs⟩⟩
        · obtain ⟨t1,t2⟩:=hto
          rw [hwl t1,hwa] at t2
          refine fin hsz hdf hbl ?_ ?_
          · rw [hs]
            simp only [AV.valL,AV.val,d2,d4,hv0,den_add,zal,hws]
            rfl
          · rw [←hsw,if_neg (by rintro (h|h|⟨h,_⟩);omega;omega;cases h)]
    · obtain ⟨i,rfl⟩: ∃i,k=i+1:=⟨k-1,by omega⟩
      obtain ⟨hil,hpw⟩:=hp1 i rfl
      have hy:=zcS hrw i hil
      have hyo:=hok l[i] (List.getElem_mem hil)
      generalize hY:l[i]=Y at hy hyo hpw
      subst hpw
      have hk1:IntKind.wrap .i64 (((i+1:Nat):Int)-1)=(i:Int):=by rw [zaT (by omega) (by omega)];omega
      obtain ⟨d0,d1,d2,d3,d4⟩:=hden l.length (i+1:Nat) s X Y (.slice (some ⟨R,o,none⟩) l.length c) rfl (by omega) (by omega) hs0 (by omega) hXok
      have hv0:(zbo l.length (i+1:Nat) s X Y (.slice (some ⟨R,o,none⟩) l.length c)).v 0= .slice (some ⟨R,o,none⟩) l.length c:=rfl
      have hb0:(zbo l.length (i+1:Nat) s X Y (.slice (some ⟨R,o,none⟩) l.length c)).b 0=X.wr:=rfl
      have hb1:(zbo l.length (i+1:Nat) s X Y (.slice (some ⟨R,o,none⟩) l.length c)).b 1=Y.wr:=rfl
      have d5:(u64v 5).den (zbo l.length (i+1:Nat) s X Y (.slice (some ⟨R,o,none⟩) l.length c))=Y.at1:=zbr hyo.1 hyo.2.1
      have d6:(u32v 6).den (zbo l.length (i+1:Nat) s X Y (.slice (some ⟨R,o,none⟩) l.length c))=Y.len:=zhI hyo.2.2.1 hyo.2.2.2
      generalize zbo l.length (i+1:Nat) s X Y (.slice (some ⟨R,o,none⟩) l.length c)=ρ at*
      have hj1:jOf [(R,o+3*(i+1)),(R,o+3*i)] 1=some ⟨R,o+3*(i+1),0,none⟩:=rfl
      have hj2:jOf [(R,o+3*(i+1)),(R,o+3*i)] 2=some ⟨R,o+3*i,0,none⟩:=rfl
      have hsx:Dw.R ρ (jOf [(R,o+3*(i+1)),(R,o+3*i)]) (ckL [(lnv 1,1),(.bin .sub .i64 (lnv 1) (.lit 1),2)]) (.slice (some ⟨R,o,none⟩) l.length c):=by
        have:Dw.R ρ (jOf [(R,o+3*(i+1)),(R,o+3*i)]) (ckL [(lnv 1,1),(.bin .sub .i64 (lnv 1) (.lit 1),2)]) (ρ.v 0):=
          ⟨rfl,_,_,_,hv0,d0.symm,⟨R,o,_,i+1,rfl,hj1,rfl,d1,hkl,rfl⟩,⟨R,o,_,i,rfl,hj2,rfl,by rw [za2,d1,zal,hk1];rfl,hil,rfl⟩,trivial⟩
        rwa [hv0] at this
      refine wp_mono (zbX (ρ:=ρ) (K:=fun _=>False) (g:=Gho.none) (bl:= [(R,o+3*(i+1)),(R,o+3*i)]) mixed zrW ztW (fun b h=>h.elim)
        ⟨zdd hx (by unfold Sg.cells;simp) (zav (zaG d3) (zav (zaG d4) (zav (zcA hb0) RL.nil))) (fun h=>h),zdd hy (by unfold Sg.cells;simp) (zav (zaG d5) (zav (zaG d6) (zav (zcA hb1) RL.nil))) (fun h=>h),trivial⟩
        ⟨fun h=>(by cases h),fun h=>(by cases h),trivial⟩ za4 trivial trivial trivial size dfr ?_ (zad.2 ⟨by rw [zbE,d0,d1];simp only [decide_eq_true_eq];omega,zad.2 ⟨by rw [zeB,d1,zal];simp only [decide_eq_true_eq];omega,zaw.2 trivial⟩⟩)) fun ex a' w' hh=> ?_
      · intro t ht
        simp only [zeb,List.mem_cons,List.not_mem_nil,or_false] at ht
        rcases ht with rfl|rfl|rfl
        · rw [s0];exact hsx
        · rw [s3];exact zaG d2
        · rw [s4];exact zaG d1
      · obtain ⟨q,hq,hto,lf,hlf,rfl,hsz,j,hdf,he⟩:=hh
        have hbl:=zaL he (fun _ h=>h)
        unfold zpG at hq
        simp only [List.mem_cons,List.not_mem_nil,or_false] at hq
        rcases hq with rfl|rfl|rfl|rfl|rfl
        all_goals
          simp only [zad,zaw,ztn,zbE,zdB,za2,den_add,zal,d0,d1,d2,d3,d4,hb0,hb1,decide_eq_true_eq,decide_eq_false_iff_not,beq_iff_eq,beq_eq_false_iff_ne,ne_eq,and_true] at hto
          cases hlf
          have hs:=zbd he.ret
        · exact ⟨hsz,hdf,mv.trans (hbl.mono mv.size),.inl ⟨rfl,by rw [←hsw,if_pos (by omega)],by simpa [AV.valL,AV.val,zal] using hs⟩⟩
        · obtain ⟨t1,t2⟩:=hto
          rw [hwl t1,hwa] at t2
          exact ⟨hsz,hdf,mv.trans (hbl.mono mv.size),.inl ⟨rfl,by rw [←hsw,if_pos (by omega)],by simpa [AV.valL,AV.val,zal] using hs⟩⟩
        · exact ⟨hsz,hdf,mv.trans (hbl.mono mv.size),.inl ⟨rfl,by rw [←hsw,if_pos (.inr (.inr ⟨hto.2.2.1,hto.2.2.2⟩))],by simpa [AV.valL,AV.val,zal] using hs⟩⟩
        · obtain ⟨t1,t2,t3,t4⟩:=hto
          rw [hwl t1,hwa] at t2
          refine fin hsz hdf hbl ?_ ?_
          · rw [hs]
            simp only [AV.valL,AV.val,d1,d2,d4,hv0,den_add,zal,hws,hkk]
          · rw [←hsw,if_neg (by rintro (h|h|⟨h,h'⟩);omega;omega;rw [t4] at h';cases h')]
        · obtain ⟨t1,t2,t3⟩:=hto
          rw [hwl t1,hwa] at t2
          refine fin hsz hdf hbl ?_ ?_
          · rw [hs]
            simp only [AV.valL,AV.val,d1,d2,d4,hv0,den_add,zal,hws,hkk]
          · rw [←hsw,if_neg (by rintro (h|h|⟨h,h'⟩);omega;omega;rw [t3] at h;cases h)]
  · have hkk:k=l.length:=by omega
    subst hkk
    rw [List.drop_length,zax] at hsw
    obtain ⟨d0,d1,d2,d3,d4⟩:=hden l.length l.length s ⟨0,0,false⟩ ⟨0,0,false⟩ (.slice sa l.length c) rfl (by omega) (by omega) hs0 (by omega) ⟨by decide,by decide,by decide,by decide⟩
    have hv0:(zbo l.length l.length s ⟨0,0,false⟩ ⟨0,0,false⟩ (.slice sa l.length c)).v 0= .slice sa l.length c:=rfl
    generalize zbo l.length l.length s ⟨0,0,false⟩ ⟨0,0,false⟩ (.slice sa l.length c)=ρ at*
    refine wp_mono (zbX (ρ:=ρ) (K:=fun _=>False) (g:=Gho.none) (bl:= []) mixed zrU ztV (fun b h=>h.elim) trivial trivial za4 trivial trivial trivial size dfr ?_ (zad.2 ⟨by rw [zbE,d0,d1];simp,zaw.2 trivial⟩)) fun ex a' w' hh=> ?_
    · intro t ht
      simp only [zea,List.mem_cons,List.not_mem_nil,or_false] at ht
      rcases ht with rfl|rfl|rfl
      · rw [s0];exact zvV hv0 d0
      · rw [s3];exact zaG d2
      · rw [s4];exact zaG d1
    · obtain ⟨q,hq,hto,lf,hlf,rfl,hsz,j,hdf,he⟩:=hh
      have hbl:=zaL he (fun _ h=>h)
      unfold zpE at hq
      simp only [List.mem_cons,List.not_mem_nil,or_false] at hq
      subst hq
      cases hlf
      have hs:=zbd he.ret
      exact ⟨hsz,hdf,mv.trans (hbl.mono mv.size),.inr ⟨rfl,s,hsw.symm,by simpa [AV.valL,AV.val,d2] using hs,hs0,by omega⟩⟩
theorem Tryz.zcZ {fn:Func} {t:Tmp} {a:Act} {w:World} {v:Value} {Post:Ending→World→Prop} (hd:a.defers= []) (h:fn.results= #[.tmp t]) (hv:a.tmps.getD t undef=v) (hp:Post (.returned v) w):bodyPost prog fn Post .ret a w:=
 bodyPost_ret (v:=v) (by
  have hv':a.tmps[t]?.getD undef=v:=by simpa using hv
  simp [results,h,hv']) hd hp
set_option maxRecDepth 100000 in
theorem Tryz.zmN {A:Nat→Prop} {w:World} {v:Value} {l:List Sg} (h:SegV A w v l):
  Calls prog 123 #[v] w fun e w'=>e= .returned (.int .i64 (zaU l))∧Below w.heap.size w w':=by
 obtain ⟨sa,c,rfl,hok,hr⟩:=h
 unfold zaU
 by_cases hlen:64<l.length
 ·rw [if_pos hlen]
  go_enter func123,ntmps123
  go_wp2
  go_ret
  exact ⟨rfl,Below.refl _ _⟩
 ·rw [if_neg hlen]
  have hr':l= []∨ ∃R o,sa=some ⟨R,o,none⟩∧w.rangeAt R o (zan l):=hr.imp_right fun ⟨R,o,e,_,hr⟩=>⟨R,o,e,hr⟩
  go_enter func123,ntmps123
  go_wp2
  refine zaD (c':= .loop (zbb prog [0,0,1,0,1,1,1,123])) (by kernel_rfl) ?_
  refine zhi (fun k a w'=>RcI l sa c w k a w') (fun k=>l.length-k) (fun k a w' hI=>wp_mono (zr0 hI (by omega) hok hr') fun ex a' w2 hh=> ?_) 0 _ _ ?_
  ·cases ex with
   | normal=>exact ⟨k+1,by omega,hh.2⟩
   | ret=>
    obtain ⟨hsz,hdf,hb,⟨_,hV,h2⟩|⟨h,_⟩⟩:=hh
    ·exact zcZ (fn:=f123) (Post:=fun e w'=>e= .returned (.int .i64 (zax false 0 l))∧RowKit.Below w.heap.size w w') hdf rfl h2 ⟨by rw [hV],hb⟩
    ·cases h
   | exit i=>
    obtain ⟨hsz,hdf,hb,⟨h,_⟩|⟨h,s,hV,h3,hs0,hs1⟩⟩:=hh
    ·cases h
    ·cases h
     simp only [Exit.inBlock,Exit.then,if_pos]
     rename_i K hK
     refine hK _ _ (zaD (c':=zbb prog [1,1,1,1,123]) (by kernel_rfl) ?_)
     have d2:(u64v 2).den (zbo 0 0 s ⟨0,0,false⟩ ⟨0,0,false⟩ undef)=s:=zbr hs0 hs1
     generalize zbo 0 0 s ⟨0,0,false⟩ ⟨0,0,false⟩ undef=ρ at*
     refine wp_mono (zbX (ρ:=ρ) (K:=fun _=>False) (g:=Gho.none) (bl:= []) mixed zrS ztU (fun b h=>h.elim) trivial trivial za4 trivial trivial trivial hsz hdf ?_ (zaw.2 trivial)) fun ex a3 w3 hh=> ?_
     ·intro t ht
      simp only [zd9,List.mem_cons,List.not_mem_nil,or_false] at ht
      subst ht
      rw [h3];exact zaG d2
     ·obtain ⟨q,hq,hto,lf,hlf,rfl,hsz3,j,hdf3,he⟩:=hh
      have hb3:=zaL he (fun _ h=>h)
      unfold zpC at hq
      simp only [List.mem_cons,List.not_mem_nil,or_false] at hq
      rcases hq with rfl|rfl
      all_goals
       simp only [zad,zaw,znM,d2,zal,decide_eq_true_eq,decide_eq_false_iff_not,and_true] at hto
       cases hlf
       have h2:=zbd he.ret
       simp only [AV.valL,AV.val,zal,List.map_cons,List.map_nil,List.cons.injEq,and_true] at h2
      ·exact zcZ (fn:=f123) (Post:=fun e w'=>e= .returned (.int .i64 (zax false 0 l))∧RowKit.Below w.heap.size w w') hdf3 rfl h2 ⟨by rw [hV,if_pos (by omega)],hb.trans (hb3.mono hb.size)⟩
      ·exact zcZ (fn:=f123) (Post:=fun e w'=>e= .returned (.int .i64 (zax false 0 l))∧RowKit.Below w.heap.size w w') hdf3 rfl h2 ⟨by rw [hV,if_neg (by omega)],hb.trans (hb3.mono hb.size)⟩
   | _=>obtain ⟨hsz,hdf,hb,⟨h,_⟩|⟨h,_⟩⟩:=hh<;>cases h
  ·exact ⟨Nat.zero_le _,rfl,rfl,rfl,rfl,Below.refl _ _,false,0,rfl,by decide,by decide,rfl,fun _=>rfl,fun i hi=>(by omega)⟩
open Go.Maps Go.Sort
def Tryz.zbe (ids:List Int):List Value:=ids.map fun x=> .int .i64 x
def Tryz.OwnR (t:TypeId) (sz:Nat) (w:World) (b2:Nat) (v:Value) (n:Nat) (cs:List Value):Prop:=w.ownsRow b2 t sz v n cs
theorem Tryz.OwnR.kept {t:TypeId} {sz n:Nat} {w w':World} {b2:Nat} {v:Value} {cs:List Value} (h:OwnR t sz w b2 v n cs) (hb: ∀b,v.ownBlock=some b→w'.heap[b]? =w.heap[b]?):OwnR t sz w' b2 v n cs:=by
 obtain ⟨h1,h2⟩:=h
 refine ⟨h1,?_⟩
 rcases h2 with h2|⟨G,cap,cur,e,h3,h4,h5⟩
 ·exact .inl h2
 ·exact .inr ⟨G,cap,cur,e,h3,by rw [hb G (by rw [e];rfl)];exact h4,h5⟩
theorem Tryz.OwnR.lt {t:TypeId} {sz n:Nat} {w:World} {b2:Nat} {v:Value} {cs:List Value} (h:OwnR t sz w b2 v n cs): ∀b,v.ownBlock=some b→b2≤b∧b<w.heap.size:=fun b hb=>by
 obtain ⟨h1,h2⟩:=h
 rcases h2 with ⟨rfl,_⟩|⟨G,cap,cur,rfl,h3,h4,h5⟩
 ·cases hb
 ·cases hb;exact ⟨h3,(Array.getElem?_eq_some_iff.1 h4).1⟩
theorem Tryz.OwnR.one {t:TypeId} {sz n:Nat} {w:World} {b2:Nat} {v:Value} {cs:List Value} (h:OwnR t sz w b2 v n cs):v.oneCell'=true:=by
 obtain ⟨h1,h2⟩:=h
 rcases h2 with ⟨rfl,h2⟩|⟨G,cap,cur,rfl,_⟩<;>rfl
theorem Tryz.OwnR.mono {t:TypeId} {sz n:Nat} {w:World} {b1 b2:Nat} {v:Value} {cs:List Value} (h:OwnR t sz w b2 v n cs) (hb:b1≤b2):OwnR t sz w b1 v n cs:=by
 obtain ⟨h1,h2⟩:=h
 refine ⟨h1,?_⟩
 rcases h2 with h2|⟨G,cap,cur,e,h3,h4⟩
 ·exact .inl h2
 ·exact .inr ⟨G,cap,cur,e,Nat.le_trans hb h3,h4⟩
theorem Tryz.OwnR.nil (t:TypeId) (sz:Nat) (w:World) (b2:Nat):OwnR t sz w b2 (.slice none 0 0) 0 []:=⟨by simp,.inl ⟨rfl,rfl⟩⟩
theorem Tryz.OwnR.row {t:TypeId} {sz n:Nat} {w:World} {b2:Nat} {v:Value} {cs:List Value} (h:OwnR t sz w b2 v n cs): ∃sa c,v= .slice sa n c∧(cs= []∨ ∃G,sa=some ⟨G,0,none⟩∧v.ownBlock=some G∧w.rangeAt G 0 cs):=by
 obtain ⟨h1,h2⟩:=h
 rcases h2 with ⟨rfl,h2⟩|⟨G,cap,cur,rfl,h3,h4,h5,h6,h7,h8⟩
 ·refine ⟨none,0,by rw [h2],.inl ?_⟩
  rw [h2,Nat.zero_mul] at h1
  exact List.length_eq_zero_iff.1 h1
 ·refine ⟨_,cap,rfl,.inr ⟨G,rfl,rfl,fun i y hy=> ?_⟩⟩
  have hlt:i<cs.length:=(List.getElem?_eq_some_iff.1 hy).1
  rw [←h8] at hy
  rw [List.getElem?_take_of_lt (by omega)] at hy
  simp only [World.cell?,h4,Nat.zero_add]
  simpa using hy
structure Tryz.Pt where
 at0:Int
 a:Int
 ln:Int
 f:Int
 nx:Int
def Tryz.Pt.cells (p:Pt):List Value:= [.int .i64 p.at0,.int .u64 p.a,.int .u32 p.ln,.int .u16 p.f,.int .u16 p.nx]
def Tryz.zaQ (ps:List Pt):List Value:=ps.flatMap Pt.cells
def Tryz.zvu (l:List Sg):Int:=if zaU l=0∧l.length=0 then 2 else zaU l
def Tryz.bytesOf (v:Int) (n:Nat):List Int:=(List.range n).map fun i=>v/2^(8*i)%256
theorem Tryz.zgh (v:Int) (n:Nat):bytesOf v (n+1)=bytesOf v n++ [v/2^(8*n)%256]:=by simp [bytesOf,List.range_succ]
theorem Tryz.zaF (v:Int) (n:Nat):(bytesOf v n).length=n:=by simp [bytesOf]
theorem Tryz.zmv (v:Int) (n:Nat): ∀x∈bytesOf v n,0≤x∧x<256:=fun x hx=>by
 obtain ⟨i,_,rfl⟩:=List.mem_map.1 hx
 exact ⟨Int.emod_nonneg _ (by decide),Int.emod_lt_of_pos _ (by decide)⟩
def Tryz.zaf (xs:List Int):List Value:=xs.map fun x=> .int .u8 x
theorem Tryz.ztk:(prog.info? 5).map (fun i=>(i.zero,i.size,i.bytes))=some (some (.int .u8 0),1,1):=by kernel_rfl
set_option maxRecDepth 100000 in
theorem Tryz.zrL {w:World} {b2:Nat} {b:Value} {xs:List Int} {v:Int} {n:Nat} (h:OwnR 5 1 w b2 b xs.length (zaf xs)) (hb2:b2≤w.heap.size) (hn:n≤8) (hx:xs.length≤10000):
    Calls prog 84 #[b,.int .u64 v,.int .i64 n] w fun e w'=> ∃u,e= .returned u∧OwnR 5 1 w' b2 u (xs++bytesOf v n).length (zaf (xs++bytesOf v n))∧Below b2 w w'∧Dw.Mv (fun y=>b.ownBlock=some y) w w'∧(∀y,u.ownBlock=some y→b.ownBlock=some y∨w.heap.size≤y):=by
  have hinfo:=ztk
  cases hi:prog.info? 5 with
  | none=>rw [hi] at hinfo;cases hinfo
  | some i=>
  rw [hi] at hinfo
  simp only [Option.map_some,Option.some.injEq,Prod.mk.injEq] at hinfo
  obtain ⟨i1,i2,i3⟩:=hinfo
  go_enter func84,ntmps84
  go_wp2
  go_loopw [0,7] (fun c k wr=> ∃(q:Nat) (cv:Value),cv=c∧q≤n∧k= .int .i64 q∧OwnR 5 1 wr b2 cv (xs++bytesOf v q).length (zaf (xs++bytesOf v q))∧Below b2 w wr∧Dw.Mv (fun y=>b.ownBlock=some y) w wr∧(∀y,cv.ownBlock=some y→b.ownBlock=some y∨w.heap.size≤y)) (fun _ k _=>n-(RowKit.intOf k).toNat)
  case atStart=>exact ⟨0,_,rfl,Nat.zero_le _,rfl,by simpa [bytesOf] using h,Below.refl _ _,Dw.Mv.refl _ _,fun y hy=> .inl hy⟩
  case round=>
    obtain ⟨q,cv,hcv,hq,rfl,ho,hb,hm,hown⟩:=hrel
    subst hcv
    by_cases hqn:q<n
    · have hw8:=wrap_u8 (v/2^(8*q))
      have hsz:=hb.size
      have hol:=OwnR.lt ho
      have ho2: ∀t,(wr.alloc (.cells #[.int .u8 (v/2^(8*q)%256)] t)).ownsRow b2 5 1 cv (xs++bytesOf v q).length (zaf (xs++bytesOf v q)):=fun t=>OwnR.kept ho fun b e=>(MapKept.heap_alloc _ _).2 _ (hol b e).2
      have hnew: ∀t j u,([Value.int .u8 (v/2^(8*q)%256)]:List Value)[j]? =some u→(wr.alloc (.cells #[.int .u8 (v/2^(8*q)%256)] t)).cell? ((⟨wr.heap.size,0,none⟩:Addr).add j)=some u:=fun t j u hu=>by
        rw [Dw.addr_add]
        exact (Cl.new wr #[.int .u8 (v/2^(8*q)%256)] t).cell (0+j) u (by rw [Nat.zero_add];exact hu)
      have hlen:(xs++bytesOf v q).length≤10010:=by rw [List.length_append,zaF];omega
      go_wp2_with (first
        | (at_builtin;go_loud (refine wpList_append_own_at _ rfl _ _ 59 rfl b2 5 i _ 1 1 (by kernel_rfl) hi i1 i2 i3 rfl (by decide) cv _ (zaf (xs++bytesOf v q)) rfl (ho2 _) ⟨wr.heap.size,0,none⟩ 1 1 [.int .u8 (v/2^(8*q)%256)] rfl rfl (hnew _) (by intro y hy;rw [List.mem_singleton] at hy;subst hy;rfl) (by unfold maxLen;omega) (by omega) (by simp;omega) ?_);intro u w' h2 h3 h4 h5;go_frame)
        | go_in)
      refine ⟨⟨q+1,u,rfl,by omega,by push_cast;rfl,?_,?_,?_,?_⟩,by simp only [RowKit.intOf];omega⟩
      · have e1:xs++bytesOf v (q+1)=(xs++bytesOf v q)++ [v/2^(8*q)%256]:=by rw [zgh,List.append_assoc]
        have e2:zaf (xs++bytesOf v (q+1))=zaf (xs++bytesOf v q)++ [.int .u8 (v/2^(8*q)%256)]:=by rw [e1];simp [zaf]
        rw [e2,e1,List.length_append]
        exact h2
      · have hsz2:=h3.size
        simp only [zas] at hsz2
        exact ⟨h3.os.trans hb.os,h3.tape.trans hb.tape,h3.output.trans hb.output,by omega,fun y hy=>(h3.block y (by simp only [zas];omega) (fun e=>by have:=(hol y e.symm).1;omega)).trans (((MapKept.heap_alloc _ _).2 y (by omega)).trans (hb.block y hy))⟩
      · have hsz2:=h3.size
        simp only [zas] at hsz2
        have hms:=hm.size
        exact ⟨h3.os.trans hm.os,h3.tape.trans hm.tape,h3.output.trans hm.output,by omega,fun y hy hn=>(h3.block y (by simp only [zas];omega) (fun e=>by
          rcases hown y e.symm with h|h
          · exact hn h
          · omega)).trans (((MapKept.heap_alloc _ _).2 y (by omega)).trans (hm.block y hy hn))⟩
      · intro y hy
        have hms:=hm.size
        rcases h5 with h5|h5
        · exact hown y (h5▸hy)
        · rw [hy] at h5;cases h5;right;simp only [zas];omega
    · have hqq:q=n:=by omega
      subst hqq
      go_wp2
      go_ret
      exact ⟨_,rfl,ho,hb,hm,hown⟩
def Tryz.rbE (k:Nat) (s:AV) (e:SE) (n:Int):Ent:=⟨84,[s,.int .u64 e,.int .i64 (.lit n)],k,k+2,1,.opq (k+2) none,k+1⟩
def Tryz.zvm:List Ent:= [rbE 0 .nils (u64v 3) 8,rbE 1 (.opq 2 none) (u32v 4) 4,rbE 2 (.opq 3 none) (u16v 5) 2,rbE 3 (.opq 4 none) (u16v 6) 2]
def Tryz.rbG (b2:Nat) (L:Nat→List Int):Gho where
 fact k q F w:=match k with|0=>True|k+1=> ∃u,q (k+2)=some u∧OwnR 5 1 w b2 u (L (k+1)).length (zaf (L (k+1)))∧ ∀b,u.ownBlock=some b→F b
 loc:=fun k q q' F w w' h hq hb hs=>by
  match k,h with
  | 0,_=>trivial
  | k+1,⟨u,h7,h8,h9⟩=>exact ⟨u,hq _ _ h7,OwnR.kept h8 fun b e=>hb b (h9 b e),h9⟩
theorem Tryz.zm0 {ρ:Val} {w0:World} {K:Nat→Prop} {L:Nat→List Int} {k n:Nat} {s:AV} {e:SE} (hs:(k=0∧s= .nils)∨(0<k∧s= .opq (k+1) none)) (h0:L 0= []) (hL:L (k+1)=L k++bytesOf (e.den ρ) n) (hn:n≤8) (hl:(L k).length≤10000):
  zrm prog ρ w0 K (rbG w0.heap.size L) (rbE k s e n):=by
 refine ⟨Dw.enters_of (by kernel_rfl),fun j w1 vals F m hv hnone hb hF hsz hf _=> ?_⟩
 have hb:m=k+2:=hb (by show (1:Nat)≠0;decide)
 subst hb
 obtain ⟨us,_,rfl,hus,hv⟩:=hv
 obtain ⟨x1,_,rfl,e1,hv⟩:=hv
 obtain ⟨x2,_,rfl,e2,hv⟩:=hv
 have hv:_= []:=hv
 subst hv
 have e1:x1= .int .u64 (e.den ρ):=e1
 have e2:x2= .int .i64 (n:Int):=e2
 subst e1 e2
 have hown:OwnR 5 1 w1 w0.heap.size us (L k).length (zaf (L k))∧ ∀b,us.ownBlock=some b→F b:=by
  rcases hs with ⟨rfl,rfl⟩|⟨hk,rfl⟩
  ·have:us= .slice none 0 0:=hus
   subst this
   rw [h0]
   exact ⟨OwnR.nil _ _ _ _,fun b h=>by cases h⟩
  ·obtain ⟨k',rfl⟩: ∃k',k=k'+1:=⟨k-1,by omega⟩
   obtain ⟨u,hq,ho,hF'⟩:=hf
   have:us=u:=by
    obtain ⟨⟨Lq,hj,hu⟩,_⟩:=hus
    unfold opqs at hq
    rw [hj] at hq
    simp only [Option.bind_some] at hq
    rw [hu] at hq
    injection hq
   subst this
   exact ⟨ho,hF'⟩
 obtain ⟨hown,hFo⟩:=hown
 refine Calls.mono (zrL (v:=e.den ρ) hown hsz hn hl) fun en w' hh=> ?_
 obtain ⟨u,rfl,hu,hbl,hmv,hou⟩:=hh
 rw [←hL] at hu
 refine ⟨_,[u],fun b=>F b∨u.ownBlock=some b,rfl,rfl,⟨⟨⟨0,0,0,some u⟩,?_,rfl⟩,OwnR.one hu,fun _ h=>(by cases h)⟩,⟨u,zsf,hu,fun b hb=> .inr hb⟩,?_,hmv.mono fun b hb=>⟨hFo b hb,.inl (OwnR.lt hown b hb).1⟩⟩
 ·show jq j (k+2) _ (k+2)=_
  unfold jq
  rw [if_pos ⟨Nat.le_refl _,by simp⟩]
  simp
 ·rintro b (hb|hb)
  ·exact ⟨Nat.lt_of_lt_of_le (hF b hb) hmv.size,.inl hb⟩
  ·refine ⟨(OwnR.lt hu b hb).2,?_⟩
   rcases hou b hb with h|h
   ·exact .inl (hFo b h)
   ·exact .inr h
def Tryz.Pt.bytes (p:Pt):List Int:=bytesOf p.a 8++bytesOf p.ln 4++bytesOf p.f 2++bytesOf p.nx 2
theorem Tryz.Pt.bytes_len (p:Pt):p.bytes.length=16:=by simp [Pt.bytes,zaF]
theorem Tryz.Pt.bytes_bnd (p:Pt): ∀x∈p.bytes,0≤x∧x<256:=fun x hx=>by
 unfold Pt.bytes at hx
 rw [List.mem_append,List.mem_append,List.mem_append] at hx
 rcases hx with ((h|h)|h)|h<;>exact zmv _ _ x h
structure Tryz.Pt.ok (p:Pt):Prop where
 a:0≤p.a∧p.a<18446744073709551616
 ln:0≤p.ln∧p.ln<4294967296
 f:0≤p.f∧p.f<65536
 nx:0≤p.nx∧p.nx<65536
theorem Tryz.zg4: ∀(ps:List Pt) (k:Nat) (hk:k<ps.length) (j:Nat),j<5→(zaQ ps)[5*k+j]? =ps[k].cells[j]?
 | p::ps,0,_,j,hj=>by
  simp only [zaQ,List.flatMap_cons,Nat.mul_zero,Nat.zero_add,List.getElem_cons_zero]
  rw [List.getElem?_append_left (by simp [Pt.cells];omega)]
 | p::ps,k+1,hk,j,hj=>by
  have:=zg4 ps k (by simpa using hk) j hj
  simp only [zaQ,List.flatMap_cons,List.getElem_cons_succ] at this ⊢
  rw [List.getElem?_append_right (by simp [Pt.cells];omega),←this]
  congr 1
  simp [Pt.cells];omega
theorem Tryz.zgD {w:World} {G o:Nat} {ps:List Pt} (h:w.rangeAt G o (zaQ ps)) (k:Nat) (hk:k<ps.length):w.rangeAt G (o+5*k) ps[k].cells:=fun j v hv=>by
 have hj:j<5:=by
  have:=(List.getElem?_eq_some_iff.1 hv).1
  simpa [Pt.cells] using this
 have:=h (5*k+j) v (by rw [zg4 ps k hk j hj];exact hv)
 rw [show o+5*k+j=o+(5*k+j) by omega]
 exact this
def Tryz.zkg (d:Int) (ps:List Pt) (g:Nat→Int):Nat→Int:=ps.foldl (fun g p=>putL g (d+16*p.at0).toNat p.bytes) g
end Go.Proofs
namespace Go.Proofs
open Go.Dw Go.RowKit
theorem Tryz.zcY {g:Nat→Int} {a:Nat} {v:Int}: ∀ {n:Nat},0≤v→(∀i,i<n→g (a+i)=v/2^(8*i)%256)→zac g a n=v%256^n
 | 0,_,_=>by simp [zac,Int.emod_one]
 | n+1,h0,h=>by
  have ih:=zcY (n:=n) h0 fun i hi=>h i (by omega)
  unfold zac
  rw [ih,h n (by omega)]
  have e:(2:Int)^(8*n)=256^n:=by rw [Int.pow_mul];rfl
  rw [e]
  have hp:(0:Int)<256^n:=Int.pow_pos (by decide)
  have h1:=Int.emod_add_mul_ediv v (256^n)
  have h2:=Int.emod_add_mul_ediv (v/256^n) 256
  have h3:=Int.emod_add_mul_ediv v (256^(n+1))
  have h4:v/256^(n+1)=v/256^n/256:=by
   rw [Int.pow_succ,Int.ediv_ediv_of_nonneg (by omega)]
  rw [h4] at h3
  have h5:(256:Int)^(n+1)=256^n*256:=Int.pow_succ ..
  rw [h5] at h3 ⊢
  have h6:(256:Int)^n*256*(v/256^n/256)=256^n*(256*(v/256^n/256)):=by rw [Int.mul_assoc]
  have h7:(256:Int)^n*(v/256^n)=256^n*(v/256^n%256)+256^n*(256*(v/256^n/256)):=by rw [←Int.mul_add,h2]
  have h8:v/256^n%256*256^n=256^n*(v/256^n%256):=Int.mul_comm ..
  rw [h8]
  omega
theorem Tryz.zeS {g g':Nat→Int} {a:Nat}: ∀ {n:Nat},(∀i,i<n→g' (a+i)=g (a+i))→zac g' a n=zac g a n
 | 0,_=>rfl
 | n+1,h=>by
  unfold zac
  rw [zeS (n:=n) fun i hi=>h i (by omega),h n (by omega)]
structure Tryz.PtAt (g:Nat→Int) (a:Nat) (p:Pt):Prop where
 w: ∀i,i<16→g (a+i)=p.bytes.getD i 0
theorem Tryz.zb4 (v:Int) (n i:Nat) (h:i<n):(bytesOf v n).getD i 0=v/2^(8*i)%256:=by
 simp [bytesOf,h]
theorem Tryz.PtAt.words {g:Nat→Int} {a:Nat} {p:Pt} (h:PtAt g a p) (hp:p.ok):zac g a 8=p.a∧zac g (a+8) 4=p.ln∧zac g (a+12) 2=p.f∧zac g (a+14) 2=p.nx:=by
 have L8:=zaF p.a 8
 have L4:=zaF p.ln 4
 have L2:=zaF p.f 2
 have M2:=zaF p.nx 2
 have b: ∀i,i<16→p.bytes.getD i 0=if i<8 then p.a/2^(8*i)%256 else if i<12 then p.ln/2^(8*(i-8))%256 else if i<14 then p.f/2^(8*(i-12))%256 else p.nx/2^(8*(i-14))%256:=fun i hi=>by
  unfold Pt.bytes
  simp only [List.getD_eq_getElem?_getD]
  by_cases h1:i<8
  ·rw [if_pos h1,List.getElem?_append_left (by simp only [List.length_append,L8,L4,L2];omega),List.getElem?_append_left (by simp only [List.length_append,L8,L4];omega),List.getElem?_append_left (by omega),←List.getD_eq_getElem?_getD,zb4 _ _ _ h1]
  ·rw [if_neg h1]
   by_cases h2:i<12
   ·rw [if_pos h2,List.getElem?_append_left (by simp only [List.length_append,L8,L4,L2];omega),List.getElem?_append_left (by simp only [List.length_append,L8,L4];omega),List.getElem?_append_right (by omega),L8,←List.getD_eq_getElem?_getD,zb4 _ _ _ (by omega)]
   ·rw [if_neg h2]
    by_cases h3:i<14
    ·rw [if_pos h3,List.getElem?_append_left (by simp only [List.length_append,L8,L4,L2];omega),List.getElem?_append_right (by simp only [List.length_append,L8,L4];omega),←List.getD_eq_getElem?_getD]
     simp only [List.length_append,L8,L4]
     rw [show i-(8+4)=i-12 by omega,zb4 _ _ _ (by omega)]
    ·rw [if_neg h3,List.getElem?_append_right (by simp only [List.length_append,L8,L4,L2];omega),←List.getD_eq_getElem?_getD]
     simp only [List.length_append,L8,L4,L2]
     rw [show i-(8+4+2)=i-14 by omega,zb4 _ _ _ (by omega)]
 refine ⟨?_,?_,?_,?_⟩
 ·rw [zcY hp.a.1 fun i hi=>by rw [h.w i (by omega),b i (by omega),if_pos hi]]
  exact Int.emod_eq_of_lt hp.a.1 (by have:=hp.a.2;simpa using this)
 ·rw [zcY hp.ln.1 fun i hi=>by rw [Nat.add_assoc,h.w (8+i) (by omega),b (8+i) (by omega),if_neg (by omega),if_pos (by omega),Nat.add_sub_cancel_left]]
  exact Int.emod_eq_of_lt hp.ln.1 (by have:=hp.ln.2;simpa using this)
 ·rw [zcY hp.f.1 fun i hi=>by rw [Nat.add_assoc,h.w (12+i) (by omega),b (12+i) (by omega),if_neg (by omega),if_neg (by omega),if_pos (by omega),Nat.add_sub_cancel_left]]
  exact Int.emod_eq_of_lt hp.f.1 (by have:=hp.f.2;simpa using this)
 ·rw [zcY hp.nx.1 fun i hi=>by rw [Nat.add_assoc,h.w (14+i) (by omega),b (14+i) (by omega),if_neg (by omega),if_neg (by omega),if_neg (by omega),Nat.add_sub_cancel_left]]
  exact Int.emod_eq_of_lt hp.nx.1 (by have:=hp.nx.2;simpa using this)
theorem Tryz.zpL {d:Int} (hd:0≤d): ∀ {ps:List Pt} {g:Nat→Int},(ps.map (·.at0)).Nodup→(∀p∈ps,0≤p.at0)→
  (∀ p∈ps,PtAt (zkg d ps g) (d+16*p.at0).toNat p)∧(∀j:Nat,(∀p∈ps,(j:Int)<d+16*p.at0∨d+16*p.at0+16≤(j:Int))→zkg d ps g j=g j)
 | [], g,_,_=>⟨fun p hp=>(by cases hp),fun j _=>rfl⟩
 | q::ps,g,hn,h0=>by
  rw [List.map_cons,List.nodup_cons] at hn
  have hq:=h0 q (List.mem_cons_self ..)
  obtain ⟨i1,i2⟩:=zpL hd (ps:=ps) (g:=putL g (d+16*q.at0).toNat q.bytes) hn.2 fun p hp=>h0 p (List.mem_cons_of_mem _ hp)
  have e:zkg d (q::ps) g=zkg d ps (putL g (d+16*q.at0).toNat q.bytes):=rfl
  have hql:=Pt.bytes_len q
  have hap: ∀p∈ps,p.at0≠q.at0:=fun p hp hh=>hn.1 (hh▸List.mem_map_of_mem hp)
  rw [e]
  refine ⟨fun p hp=> ?_,fun j hj=> ?_⟩
  ·rcases List.mem_cons.1 hp with rfl|hp
   ·refine ⟨fun i hi=> ?_⟩
    rw [i2 _ fun p' hp'=> ?_,zcF,if_pos ⟨by omega,by omega⟩,Nat.add_sub_cancel_left]
    have h1:=hap p' hp'
    have h2:=h0 p' (List.mem_cons_of_mem _ hp')
    omega
   ·exact i1 p hp
  ·rw [i2 j fun p hp=>hj p (List.mem_cons_of_mem _ hp),zcF,if_neg]
   have:=hj q (List.mem_cons_self ..)
   omega
open Go.Maps Go.Sort
structure Tryz.LwR where
 q:Option Nat
 v:Value
 sz:Nat
 n:Nat
 cs:List Value
section
variable {X:Nat→Prop} {bX:Nat} {ρ:Val} {w0:World} {K:Nat→Prop} {S P L Bs B M N:Nat} {r:Tryz.Rg} {b2:Nat} {sk:Nat→Tryz.SS} {gk:Nat→Nat→Int} {rows:Nat→List Tryz.LwR} {f:FuncId} {args:List AV} {res:AV} {k k':Nat}
end
end Go.Proofs
namespace Go.Proofs
open Go.Dw Go.RowKit Go.Maps Go.Sort
theorem Tryz.zvQ:(prog.info? 3).map (fun i=>(i.zero,i.size,i.bytes))=some (some (.int .i64 0),1,8):=by kernel_rfl
section
variable {ρ:Val} {w0:World} {K:Nat→Prop} {X:Nat→Prop} {bX:Nat} {S P L Bs B M N:Nat} {r:Tryz.Rg} {b2:Nat} {sk:Nat→Tryz.SS} {gk:Nat→Nat→Int} {rows:Nat→List Tryz.LwR} {k k' q:Nat}
end
end Go.Proofs
namespace Go.Proofs
open Go.Dw Go.RowKit Go.Maps Go.Sort Go.Deep
theorem Tryz.zaB {fn:Func} {p u:Tmp} {ty:TypeId} (h:fn.results= #[.cell p ty,.tmp u]) (tmps:Array Value) (w:World) (b:Nat) (cs:List Value) (d:TypeDesc)
  (hp:tmps.getD p undef= .pointer (some ⟨b,0,none⟩)) (hg:w.rangeAt b 0 cs) (hu:prog.underlying ty=some d) (hd:d.isRow=true) (hi:(prog.info? ty).map (·.size)=some cs.length):
  (results fn tmps).run prog w= .ok (.tuple #[.agg cs.toArray,tmps.getD u undef]) w:=by
 have hp':tmps[p]?.getD undef= .pointer (some ⟨b,0,none⟩):=by simpa using hp
 simp [results,h,hp',asAddr,run_loadVar_mid w b 0 ty cs d hg hu hd hi]
theorem Tryz.zsH {N:Nat} {A n:Int} (hn:0≤n):((entN N A n).2=0∧1≤(entN N A n).1∧(entN N A n).1≤64∧A+16*(entN N A n).1≤N)∨(((entN N A n).2=4∨(entN N A n).2=5)∧(entN N A n).1=0):=by
 unfold entN
 by_cases h1:n=0∨ ¬n%16=0∨64<n/16
 ·rw [if_pos h1];exact .inr ⟨.inl rfl,rfl⟩
 ·rw [if_neg h1]
  by_cases h2:A+n≤N
  ·rw [if_pos h2]
   left
   show (0:Int)=0∧1≤n/16∧n/16≤64∧A+16*(n/16)≤N
   omega
  ·rw [if_neg h2];exact .inr ⟨.inr rfl,rfl⟩
theorem Tryz.zpY {g:Nat→Int} (hg: ∀j,0≤g j∧g j<256) (a:Nat):(pSeg g a).ok:=
 ⟨(zgx g hg a 8).1,(zgx g hg a 8).2,(zgx g hg (a+8) 4).1,(zgx g hg (a+8) 4).2⟩
theorem Tryz.zpS (n a:Int) (x y:Bool) (c:Int):(zaH n a x c).1=(zaH n a y c).1:=by unfold zaH;split<;>rfl
theorem Tryz.ze8 {n a c:Int} {x:Bool} (ha:0≤a∧a<n) (hc:0≤c∧c≤n):0≤(zaH n a x c).1∧(zaH n a x c).1<n:=by unfold zaH;split<;>(simp only;omega)
end Go.Proofs
namespace Go.Proofs
open Go.Dw
def Tryz.zkt:List Ent:= []
def Tryz.zm8:List Sh:= []
def Tryz.zku:List AV:= [prg]
def Tryz.zsd:List (SB×Bool):= [((.cmp .neq (.flds [⟨1,0,18446744073709551615,0,4,0⟩] 0) (.lit 0)),false),((.cmp .gtr (.bin .sub .u64 (.bin .mul .u64 (.lit 16) (szv 0)) (.lit 1)) (.bin .sub .u64 (.lit 18446744073709551615) (u64v 1))),false),((.cmp .neq (.flds [⟨2,0,18446744073709551615,0,2,0⟩] 0) (.lit 0)),false),((.cmp .gtr (.lit 3) (.bin .sub .u64 (.lit 18446744073709551615) (u64v 2))),false),((.cmp .leq (u64v 2) (u64v 1)),false),((.cmp .lss (.bin .sub .u64 (u64v 2) (u64v 1)) (.bin .mul .u64 (.lit 16) (szv 0))),false),((.cmp .neq (.flds [⟨3,0,18446744073709551615,0,2,0⟩] 0) (.lit 0)),false),((.cmp .gtr (.lit 3) (.bin .sub .u64 (.lit 18446744073709551615) (u64v 3))),false),((.cmp .leq (u64v 3) (u64v 1)),false),((.cmp .lss (.bin .sub .u64 (u64v 3) (u64v 1)) (.bin .mul .u64 (.lit 16) (szv 0))),false),((.cmp .leq (u64v 3) (u64v 2)),false),((.cmp .lss (.bin .sub .u64 (u64v 3) (u64v 2)) (.lit 4)),false)]
def Tryz.zpW:List Leaf:= [
 ⟨.int .i64 (.lit 0),[],[],0,[]⟩]
def Tryz.zub:List (List (SB×Bool)×Nat):= [
 ([], 0)]
theorem Tryz.zsc:(ev prog (zbf zkt) 100000 (.call 103 zku (zba 0 zm8) (zb8 zpW 0))).ways zsd=some zub:=by kernel_rfl
theorem Tryz.zuc:(zaJ zm8&&zay zkt&&AV.smallL zku&&zaC zpW)=true:=by kernel_rfl
def Tryz.zie:List Ent:= []
def Tryz.zki:List Sh:= []
def Tryz.zif:List AV:= [prg]
def Tryz.zpO:List (SB×Bool):= [((.cmp .neq (.flds [⟨1,0,18446744073709551615,0,4,0⟩] 0) (.lit 0)),false),((.cmp .lss (.bin .add .u64 (u64v 1) (.bin .sub .u64 (.bin .mul .u64 (.lit 16) (szv 0)) (.lit 1))) (u64v 1)),false),((.cmp .neq (.flds [⟨2,0,18446744073709551615,0,2,0⟩] 0) (.lit 0)),false),((.cmp .lss (.bin .add .u64 (u64v 2) (.lit 3)) (u64v 2)),false),((.cmp .leq (u64v 2) (u64v 1)),false),((.cmp .lss (.bin .sub .u64 (u64v 2) (u64v 1)) (.bin .mul .u64 (.lit 16) (szv 0))),false),((.cmp .neq (.flds [⟨3,0,18446744073709551615,0,2,0⟩] 0) (.lit 0)),false),((.cmp .lss (.bin .add .u64 (u64v 3) (.lit 3)) (u64v 3)),false),((.cmp .leq (u64v 3) (u64v 1)),false),((.cmp .lss (.bin .sub .u64 (u64v 3) (u64v 1)) (.bin .mul .u64 (.lit 16) (szv 0))),false),((.cmp .leq (u64v 3) (u64v 2)),false),((.cmp .lss (.bin .sub .u64 (u64v 3) (u64v 2)) (.lit 4)),false)]
def Tryz.zm4:List Leaf:= [
 ⟨.int .i64 (.lit 0),[],[],0,[]⟩]
def Tryz.zr3:List (List (SB×Bool)×Nat):= [
 ([], 0)]
theorem Tryz.zpN:(ev prog (zbf zie) 100000 (.call 49 zif (zba 0 zki) (zb8 zm4 0))).ways zpO=some zr3:=by kernel_rfl
theorem Tryz.zr4:(zaJ zki&&zay zie&&AV.smallL zif&&zaC zm4)=true:=by kernel_rfl
open Go.RowKit
theorem Tryz.zoq {r:Rg} (h:PgOk r) (w:World):Calls prog 103 #[r.pval] w fun e w'=>e= .returned (.int .i64 0)∧Below w.heap.size w w':=by
 obtain ⟨⟨n1,n2⟩,hd,hv,hc⟩:=h.nums
 have hb:=h.bnd
 have e1:=h.d
 have e2:=h.v
 have e3:=h.c
 have d0:(szv 0).den (vof [r.n,r.d,r.v,r.c] [] [])=r.n:=zmr n1 n2
 have d1:(u64v 1).den (vof [r.n,r.d,r.v,r.c] [] [])=r.d:=zbr hd.1 hd.2
 have d2:(u64v 2).den (vof [r.n,r.d,r.v,r.c] [] [])=r.v:=zbr hv.1 hv.2
 have d3:(u64v 3).den (vof [r.n,r.d,r.v,r.c] [] [])=r.c:=zbr hc.1 hc.2
 have q1:SE.den (vof [r.n,r.d,r.v,r.c] [] []) (.flds [⟨1,0,18446744073709551615,0,4,0⟩] 0)=r.d%16:=zei (n:=4) hd.1 hd.2
 have q2:SE.den (vof [r.n,r.d,r.v,r.c] [] []) (.flds [⟨2,0,18446744073709551615,0,2,0⟩] 0)=r.v%4:=zei (n:=2) hv.1 hv.2
 have q3:SE.den (vof [r.n,r.d,r.v,r.c] [] []) (.flds [⟨3,0,18446744073709551615,0,2,0⟩] 0)=r.c%4:=zei (n:=2) hc.1 hc.2
 have m1:IntKind.wrap .u64 (16*r.n)=16*r.n:=zaN (by omega) (by omega)
 generalize vof [r.n,r.d,r.v,r.c] [] []=ρ at d0 d1 d2 d3 q1 q2 q3
 refine Calls.mono (zbJ (ρ:=ρ) (K:=fun _=>False) (g:=Gho.none) (bl:= []) (vals:= [r.pval]) mixed zsc zuc (fun b h=>h.elim) trivial trivial za4 trivial (zav (zlv (zav (zcA rfl) (zav (zaG d0) (zav (zaG d1) (zav (zaG d2) (zav (zaG d3) RL.nil)))))) RL.nil)
  (zad.2 ⟨by rw [zgf,q1,zal];exact bne_eq_false_iff_eq.2 (by omega),zad.2 ⟨by rw [zeB,za2,za2,den_mul,zal,zal,zal,d0,d1,m1,zaN (by omega) (by omega),zaN (by omega) (by omega)];exact decide_eq_false (by omega),zad.2 ⟨by rw [zgf,q2,zal];exact bne_eq_false_iff_eq.2 (by omega),zad.2 ⟨by rw [zeB,za2,zal,zal,d2,zaN (by omega) (by omega)];exact decide_eq_false (by omega),zad.2 ⟨by rw [ziD,d2,d1];exact decide_eq_false (by omega),zad.2 ⟨by rw [zbE,za2,den_mul,zal,d0,d1,d2,m1,zaN (by omega) (by omega)];exact decide_eq_false (by omega),zad.2 ⟨by rw [zgf,q3,zal];exact bne_eq_false_iff_eq.2 (by omega),zad.2 ⟨by rw [zeB,za2,zal,zal,d3,zaN (by omega) (by omega)];exact decide_eq_false (by omega),zad.2 ⟨by rw [ziD,d3,d1];exact decide_eq_false (by omega),zad.2 ⟨by rw [zbE,za2,den_mul,zal,d0,d1,d3,m1,zaN (by omega) (by omega)];exact decide_eq_false (by omega),zad.2 ⟨by rw [ziD,d3,d2];exact decide_eq_false (by omega),zad.2 ⟨by rw [zbE,za2,zal,d3,d2,zaN (by omega) (by omega)];exact decide_eq_false (by omega),zaw.2 trivial⟩⟩⟩⟩⟩⟩⟩⟩⟩⟩⟩⟩)) fun e w' hh=> ?_
 obtain ⟨_,j,he⟩:=zjz hh
 exact ⟨he.ret,zaL he (fun _ h=>h)⟩
theorem Tryz.zlS {r:Rg} (h:PgOk r) (w:World):Calls prog 49 #[r.pval] w fun e w'=>e= .returned (.int .i64 0)∧Below w.heap.size w w':=by
 obtain ⟨⟨n1,n2⟩,hd,hv,hc⟩:=h.nums
 have hb:=h.bnd
 have e1:=h.d
 have e2:=h.v
 have e3:=h.c
 have d0:(szv 0).den (vof [r.n,r.d,r.v,r.c] [] [])=r.n:=zmr n1 n2
 have d1:(u64v 1).den (vof [r.n,r.d,r.v,r.c] [] [])=r.d:=zbr hd.1 hd.2
 have d2:(u64v 2).den (vof [r.n,r.d,r.v,r.c] [] [])=r.v:=zbr hv.1 hv.2
 have d3:(u64v 3).den (vof [r.n,r.d,r.v,r.c] [] [])=r.c:=zbr hc.1 hc.2
 have q1:SE.den (vof [r.n,r.d,r.v,r.c] [] []) (.flds [⟨1,0,18446744073709551615,0,4,0⟩] 0)=r.d%16:=zei (n:=4) hd.1 hd.2
 have q2:SE.den (vof [r.n,r.d,r.v,r.c] [] []) (.flds [⟨2,0,18446744073709551615,0,2,0⟩] 0)=r.v%4:=zei (n:=2) hv.1 hv.2
 have q3:SE.den (vof [r.n,r.d,r.v,r.c] [] []) (.flds [⟨3,0,18446744073709551615,0,2,0⟩] 0)=r.c%4:=zei (n:=2) hc.1 hc.2
 have m1:IntKind.wrap .u64 (16*r.n)=16*r.n:=zaN (by omega) (by omega)
 generalize vof [r.n,r.d,r.v,r.c] [] []=ρ at d0 d1 d2 d3 q1 q2 q3
 refine Calls.mono (zbJ (ρ:=ρ) (K:=fun _=>False) (g:=Gho.none) (bl:= []) (vals:= [r.pval]) mixed zpN zr4 (fun b h=>h.elim) trivial trivial za4 trivial (zav (zlv (zav (zcA rfl) (zav (zaG d0) (zav (zaG d1) (zav (zaG d2) (zav (zaG d3) RL.nil)))))) RL.nil)
  (zad.2 ⟨by rw [zgf,q1,zal];exact bne_eq_false_iff_eq.2 (by omega),zad.2 ⟨by rw [zbE,den_add,za2,den_mul,zal,zal,d0,d1,m1,zaN (k:=16*r.n-1) (by omega) (by omega),zaN (by omega) (by omega)];exact decide_eq_false (by omega),zad.2 ⟨by rw [zgf,q2,zal];exact bne_eq_false_iff_eq.2 (by omega),zad.2 ⟨by rw [zbE,den_add,zal,d2,zaN (by omega) (by omega)];exact decide_eq_false (by omega),zad.2 ⟨by rw [ziD,d2,d1];exact decide_eq_false (by omega),zad.2 ⟨by rw [zbE,za2,den_mul,zal,d0,d1,d2,m1,zaN (by omega) (by omega)];exact decide_eq_false (by omega),zad.2 ⟨by rw [zgf,q3,zal];exact bne_eq_false_iff_eq.2 (by omega),zad.2 ⟨by rw [zbE,den_add,zal,d3,zaN (by omega) (by omega)];exact decide_eq_false (by omega),zad.2 ⟨by rw [ziD,d3,d1];exact decide_eq_false (by omega),zad.2 ⟨by rw [zbE,za2,den_mul,zal,d0,d1,d3,m1,zaN (by omega) (by omega)];exact decide_eq_false (by omega),zad.2 ⟨by rw [ziD,d3,d2];exact decide_eq_false (by omega),zad.2 ⟨by rw [zbE,za2,zal,d3,d2,zaN (by omega) (by omega)];exact decide_eq_false (by omega),zaw.2 trivial⟩⟩⟩⟩⟩⟩⟩⟩⟩⟩⟩⟩)) fun e w' hh=> ?_
 obtain ⟨_,j,he⟩:=zjz hh
 exact ⟨he.ret,zaL he (fun _ h=>h)⟩
theorem Tryz.znt {g:Nat→Int} (hg: ∀j,0≤g j∧g j<256): ∀(k a:Nat) (l:List Sg),(∀x∈l,x.ok)→(∀x∈(zeK g a k l).1,x.ok)∧(zeK g a k l).1.length≤l.length+k
 | 0,a,l,h=>⟨h,Nat.le_refl _⟩
 | k+1,a,l,h=>by
  unfold zeK
  split
  ·exact ⟨fun x hx=>(by cases hx),Nat.zero_le _⟩
  ·have:=znt hg k (a+16) (l++ [pSeg g a]) fun x hx=>by
    rcases List.mem_append.1 hx with hx|hx
    ·exact h x hx
    ·rw [List.mem_singleton] at hx;subst hx;exact zpY hg a
   exact ⟨this.1,by have:=this.2;simp at this;omega⟩
theorem Tryz.zn9 {N:Nat} {g:Nat→Int} (hg: ∀j,0≤g j∧g j<256) {A n:Int} (hn:0≤n):(∀x∈(zbx N g A n).1,x.ok)∧(zbx N g A n).1.length≤64:=by
 unfold zbx
 split
 ·exact ⟨fun x hx=>(by cases hx),Nat.zero_le _⟩
 ·have h:=znt hg (entN N A n).1.toNat A.toNat [] fun x hx=>(by cases hx)
  refine ⟨h.1,Nat.le_trans h.2 ?_⟩
  rcases zsH (N:=N) (A:=A) hn with ⟨_,_,h2,_⟩|⟨_,h2⟩
  ·simp;omega
  ·rw [h2];simp
open Go.Maps Go.Sort
theorem Tryz.zoe (a:Option Addr) (n c:Nat) (w:World):(binOp .eql 49 (.slice a n c) (.slice none 0 0)).run prog w= .ok (.bool a.isNone) w:=by
 simp only [binOp]
 simp [run_equal_slice_nil w 49 137 _ _ _ underlying49]
set_option maxRecDepth 100000 in
theorem Tryz.zil {A:Nat→Prop} {w:World} {v:Value} {l:List Sg} (h:SegV A w v l) (hl:l.length≤1000000):
    Calls prog 66 #[v] w fun e w'=> ∃u,e= .returned u∧OwnSeg w' w.heap.size u l∧Below w.heap.size w w':=by
  obtain ⟨sa,c,rfl,hok,hr⟩:=h
  have hq:=zoe
  obtain ⟨i0,hi0,hz0,hz1,hzb⟩:=info_parts zmh
  have hseg1:=zfZ l
  cases sa with
  | none=>
    have h0:l= []:=by
      rcases hr with h|⟨R,o,h,_⟩
      · exact h
      · cases h
    subst h0
    go_enter func66,ntmps66
    go_wp2
    go_ret
    exact ⟨_,rfl,OwnSeg.nil _ _,Below.refl _ _⟩
  | some ad=>
    have hmade:=World.ownsRow_made (base:=w.heap.size) (e:=137) (size:=3) w #[] 0 (Nat.le_refl _) (by unfold maxLen;omega) rfl
    have hb0:=(Below.refl w.heap.size w).alloc (Nat.le_refl _) (.cells #[] 137)
    have hnews: ∀j u,(zan l)[j]? =some u→(w.alloc (.cells #[] 137)).cell? (ad.add j)=some u:=fun j u hj=>by
      rcases hr with h|⟨R,o,h,_,hr⟩
      · subst h;cases hj
      · cases h
        have hlt:R<w.heap.size:=World.block_lt_of_cell? w _ (hr j u hj)
        rw [Dw.addr_add]
        exact (World.cell?_of_block (a:=⟨R,o+j,none⟩) (Below.heap_alloc w _ R hlt)).trans (hr j u hj)
    have hlen:=zbI l
    go_enter func66,ntmps66
    go_wp2_with (first
      | (at_builtin;go_loud (refine wpList_append_own _ rfl _ _ 49 rfl w.heap.size 137 i0 _ 3 16 (by kernel_rfl) hi0 hz0 hz1 hzb rfl (by decide) _ _ _ rfl hmade ad l.length c (zan l) rfl (by omega) hnews hseg1 (by unfold maxLen;omega) (by omega) (by simp) ?_);intro v' w3 hown' hg3 _;go_frame)
      | go_in)
    go_ret
    have hown2:OwnSeg w3 w.heap.size v' l:=by unfold OwnSeg;simpa using hown'
    refine ⟨_,rfl,hown2,hb0.grown hg3 (by simp) (fun j hj=> ?_)⟩
    exact (hmade.lt j hj).1
section
variable {A:Nat→Prop} {w:World} {S P L Bs B M N:Nat} {r:Tryz.Rg} {s:Tryz.PS} {g:Nat→Int}
end
end Go.Proofs
namespace Go.Proofs
open Go.RowKit Go.Maps Go.Sort
def Tryz.zcG (n:Nat):Rg:=⟨n,4096,4096+16*n,4100+16*n⟩
theorem Tryz.zfy {n:Nat} (h:1≤n∧n≤16):PgOk (zcG n):=⟨⟨by show (1:Int)≤n;omega,by show (n:Int)≤16;omega⟩,rfl,rfl,rfl⟩
def Tryz.zt3 (n:Nat):Dw.AV:= .agg [.bool (.lit true),.int .i64 (.lit n),.int .u64 (.lit 4096),.int .u64 (.lit (4096+16*n)),.int .u64 (.lit (4100+16*n))]
def Tryz.sizes16:List Nat:= [1,2,3,4,5,6,7,8,9,10,11,12,13,14,15,16]
theorem Tryz.zu9 {n:Nat} (h:1≤n∧n≤16):n∈sizes16:=by unfold sizes16;simp;omega
noncomputable def Tryz.zsj (n:Nat):Bool:=(Dw.ev prog Dw.zot 100000 (.call 8 [.bool (.lit true),.int .i64 (.lit n),.int .u64 (.lit 4096)] Dw.heap0 (Dw.isAV (.tup [zt3 n,.int .u64 (.lit (8+16*n)),.int .i64 (.lit 0)])))).good
theorem Tryz.zlU:(sizes16.all fun n=>zsj n)=true:=by kernel_rfl
theorem Tryz.zop (n:Nat) (hn:1≤n∧n≤16) (w:World):
  Calls prog 8 #[.bool true,.int .i64 n,.int .u64 4096] w fun e w'=>e= .returned (.tuple #[(zcG n).pval,.int .u64 (8+16*n),.int .i64 0])∧Below w.heap.size w w':=by
 have h1:=List.all_eq_true.1 zlU n (zu9 hn)
 exact Dw.zpo (by kernel_rfl) rfl (Dw.zuW (Dw.ztu (Dw.ztu Dw.RL.nil))) h1 w
noncomputable def Tryz.zsi (f:Nat):Bool:=(Dw.ev prog Dw.zot 100000 (.call f [] Dw.heap0 (Dw.isAV (.agg [.int .i64 (.lit 0),.bool (.lit true)])))).good
theorem Tryz.zlR:([56,39].all fun f=>zsi f)=true:=by kernel_rfl
theorem Tryz.zfx (f:Nat) (hf:f=56∨f=39) (w:World):
  Calls prog f #[] w fun e w'=>e= .returned (.agg #[.int .i64 0,.bool true])∧Below w.heap.size w w':=by
 have h1:=List.all_eq_true.1 zlR f (by simpa using hf)
 exact Dw.zpo (by kernel_rfl) rfl Dw.RL.nil h1 w
end Go.Proofs
namespace Go.Proofs
open Go.Dw Go.RowKit
theorem Tryz.Cl.drew {w:World} {b:Nat} {l:List Value} (h:Cl w b l):Cl w.drew b l:=⟨h.lt,h.cell,h.free⟩
theorem Tryz.zak {w w':World} {p:Addr} {v:Value} (hb:Below w.heap.size w w') (h:w.cell? p=some v):w'.cell? p=some v:=(hb.cell (World.block_lt_of_cell? _ _ h)).trans h
open Go.Maps Go.Sort
def Tryz.zcj (f:Int) (wr:Bool):Int:=f+if wr then 128 else 32768
def Tryz.posN (n a:Int) (x:Bool):Nat→Int×Bool
 | 0=>(a,x)
 | k+1=>zaH n (posN n a x k).1 (posN n a x k).2 1
theorem Tryz.zg6 {n a:Int} {x:Bool} (ha:0≤a∧a<n): ∀k,0≤(posN n a x k).1∧(posN n a x k).1<n
 | 0=>ha
 | k+1=>ze8 (zg6 ha k) ⟨by decide,by have:=zg6 ha k (x:=x);omega⟩
def Tryz.ppAt (n id a:Int) (x:Bool) (l:List Sg) (k:Nat):Pt:=
 ⟨(posN n a x k).1,(l.getD k ⟨0,0,false⟩).at1,(l.getD k ⟨0,0,false⟩).len,id,zcj ((if (l.getD k ⟨0,0,false⟩).wr then 2 else 0)+(if k+1<l.length then 1 else 0)) (posN n a x k).2⟩
def Tryz.ppTo (n id a:Int) (x:Bool) (l:List Sg) (k:Nat):List Pt:=(List.range k).map (ppAt n id a x l)
theorem Tryz.zpQ (n id a:Int) (x:Bool) (l:List Sg) (k:Nat):ppTo n id a x l (k+1)=ppTo n id a x l k++ [ppAt n id a x l k]:=by simp [ppTo,List.range_succ]
theorem Tryz.zm6 (n id a:Int) (x:Bool) (l:List Sg) (k:Nat):(ppTo n id a x l k).length=k:=by simp [ppTo]
end Go.Proofs
namespace Go.Proofs
open Go.Dw
def Tryz.zkj:List Ent:=zvm
def Tryz.zm5:List Sh:= []
def Tryz.zkk:List AV:= [.agg [.int .u64 (u64v 3),.int .u32 (u32v 4),.int .u16 (u16v 5),.int .u16 (u16v 6)]]
def Tryz.zr6:List (SB×Bool):= []
def Tryz.zpP:List Leaf:= [
 ⟨.opq 5 none,[],[],4,[]⟩]
def Tryz.zt4:List (List (SB×Bool)×Nat):= [
 ([], 0)]
theorem Tryz.zr5:(ev prog (zbf zkj) 100000 (.call 20 zkk (zba 0 zm5) (zb8 zpP 0))).ways zr6=some zt4:=by kernel_rfl
theorem Tryz.zt5:(zaJ zm5&&zay zkj&&AV.smallL zkk&&zaC zpP)=true:=by kernel_rfl
open Go.RowKit Go.Maps Go.Sort
theorem Tryz.zlT (p:Pt) (hp:p.ok) (w:World):
  Calls prog 20 #[.agg #[.int .u64 p.a,.int .u32 p.ln,.int .u16 p.f,.int .u16 p.nx]] w fun e w'=> ∃u,e= .returned u∧OwnR 5 1 w' w.heap.size u p.bytes.length (zaf p.bytes)∧Below w.heap.size w w':=by
 obtain ⟨ρ,d3,d4,d5,d6⟩: ∃ρ:Val,(u64v 3).den ρ=p.a∧(u32v 4).den ρ=p.ln∧(u16v 5).den ρ=p.f∧(u16v 6).den ρ=p.nx:=
  ⟨vof [0,0,0,p.a,p.ln,p.f,p.nx] [] [],zbr hp.a.1 hp.a.2,zhI hp.ln.1 hp.ln.2,zms hp.f.1 hp.f.2,zms hp.nx.1 hp.nx.2⟩
 let L:Nat→List Int:=fun k=>match k with
  | 0=> []|1=>bytesOf p.a 8|2=>bytesOf p.a 8++bytesOf p.ln 4|3=>bytesOf p.a 8++bytesOf p.ln 4++bytesOf p.f 2|_=>p.bytes
 have l1:(L 1).length=8:=by simp [L,zaF]
 have l2:(L 2).length=12:=by simp [L,zaF]
 have l3:(L 3).length=14:=by simp [L,zaF]
 refine Calls.mono (zbJ (ρ:=ρ) (K:=fun _=>False) (g:=rbG w.heap.size L) (bl:= []) (vals:= [.agg #[.int .u64 p.a,.int .u32 p.ln,.int .u16 p.f,.int .u16 p.nx]]) mixed zr5 zt5 (fun b h=>h.elim) trivial trivial ⟨fun _=>False,fun _ h=>h.elim,trivial⟩
  ⟨zm0 (n:=8) (.inl ⟨rfl,rfl⟩) rfl (by rw [d3];rfl) (by decide) (Nat.zero_le _),zm0 (n:=4) (.inr ⟨by decide,rfl⟩) rfl (by rw [d4];rfl) (by decide) (by omega),zm0 (n:=2) (.inr ⟨by decide,rfl⟩) rfl (by rw [d5];rfl) (by decide) (by omega),zm0 (n:=2) (.inr ⟨by decide,rfl⟩) rfl (by rw [d6];rfl) (by decide) (by omega),trivial⟩
  (zav (zlv (zav (zaG d3) (zav (zaG d4) (zav (zaG d5) (zav (zaG d6) RL.nil))))) RL.nil) (zaw.2 trivial)) fun e w' hh=> ?_
 obtain ⟨_,j,he⟩:=zjz hh
 have hb:=zaL he (fun _ h=>h)
 obtain ⟨F2,_,u,hu,hou,_⟩:=he.gho
 exact ⟨u,he.ret.trans (by rw [zug hu]),hou,hb⟩
def Tryz.ppOk (n:Int) (l:List Sg):Prop:=zvu l=0∧(l.length:Int)≤n
instance (n:Int) (l:List Tryz.Sg):Decidable (Tryz.ppOk n l):=by unfold Tryz.ppOk;infer_instance
end Go.Proofs
namespace Go.Proofs
open Go.Dw Go.RowKit
structure Tryz.DO where
 id:Int
 tk:Int
 ct:Int
def Tryz.DO.cells (e:DO):List Value:= [.int .i64 e.id,.int .i64 e.tk,.int .i64 e.ct]
structure Tryz.DS where
 ev:Bool
 tb:Bool
 nx:Int
 nw:Bool
 sx:Int
 sw:Bool
 own:Int
 L:List DO
 ph:Nat
 op:Int
 nn:Bool
 tok:Int
 wr:Int
 kk:Bool
 dn:Bool
 br:Bool
 c:DO
 sg:List Sg
 pu:List Pt
def Tryz.DS.goto (s:DS) (k:Nat):DS:= { s with ph:=k,dn:=false }
def Tryz.DS.stop (s:DS):DS:= { s with ph:=0,dn:=true }
def Tryz.DS.brk (s:DS):DS:= { s with br:=true,ph:=0,dn:=false,op:=0,nn:=false,tok:=0,wr:=0,kk:=false }
def Tryz.zdC (L:List DO) (k:Int):Bool:=L.any fun e=>e.id==k
def Tryz.zaM (L:List DO):Nat→Nat→Nat
 | 0,k=>k
 | m+1,k=>if zdC L k then zaM L m (k+1) else k
def Tryz.zby (L:List DO) (k:Int):Option DO:=L.find? fun e=>e.id==k
def Tryz.za8 (L:List DO) (k:Int):List DO:=L.eraseP fun e=>e.id==k
def Tryz.zob (f:Int) (wr:Bool):Bool:=(decide (f/128%2=1)==wr)&&(decide (f/32768%2=1)==wr)
def Tryz.zg5 (id at0 a n:Int) (x:Bool):Pt:=⟨at0,a,16*n,id,zcj 4 x⟩
def Tryz.zcQ (s:Sg):Pt:=⟨0,s.at1,s.len,0,if s.wr then 2 else 0⟩
def Tryz.zao (l:List Sg):List Int:=l.flatMap fun s=>(zcQ s).bytes
def Tryz.DS.tab (s:DS) (l:List Sg):Bool:=s.tb&&decide (1<l.length)
def Tryz.zcD (id:Int):Int:=20000+1024*id
def Tryz.DS.puts (s:DS) (n id:Int) (l:List Sg):List Pt:=if s.tab l then [zg5 id s.nx (zcD id) l.length s.nw] else ppTo n id s.nx s.nw l l.length
def Tryz.DS.need (s:DS) (l:List Sg):Int:=if s.tab l then 1 else l.length
def Tryz.za3 (N:Nat) (n:Int) (s:DS) (t:Int) (l:List Sg):Int×DS:=
 if s.br then (4,s) else if s.ph≠0 then (8,s)
 else if t<0∨s.L.any (fun e=>e.tk==t) then (2,s)
 else if zbH N l≠0 then (zbH N l,s)
 else if l.length=0 then (2,s)
 else
  let ct:Int:=s.need l
  let id:Int:=zaM s.L n.toNat 0
  if s.own<ct∨n≤id then (7,s)
  else (0,{ s with c:=⟨id,t,ct⟩,sg:=l,pu:=s.puts n id l,L:=s.L++ [⟨id,t,ct⟩],own:=s.own-ct,ph:=1,dn:=false,op:=1,nn:=false,tok:=t,wr:=0,kk:=false })
def Tryz.zcM (s:DS):Int×DS:=
 if s.br then (4,s) else if s.ph≠0 then (8,s) else (0,{ s with ph:=11,dn:=false,op:=2,nn:=false,tok:=0,wr:=0,kk:=false })
def Tryz.zfg (g:Nat→Int) (i:Nat) (p:Pt):Nat→Int:=putL g (4096+16*p.at0).toNat (if i=0 then p.bytes.take 14 else p.bytes)
def Tryz.za1:Nat→List Pt→(Nat→Int)→Nat→Int
 | _,[],g=>g
 | i,p::r,g=>za1 (i+1) r (zfg g i p)
def Tryz.zjD (s:DS) (g:Nat→Int):Nat→Int:=za1 0 s.pu (if s.tab s.sg then putL g (zcD s.c.id).toNat (zao s.sg) else g)
def Tryz.zdD (g:Nat→Int) (s:DS):Bool:=zob (zac g (4096+16*s.sx+14).toNat 2) s.sw
def Tryz.DS.pu0 (s:DS):Pt:=s.pu.headD ⟨0,0,0,0,0⟩
def Tryz.zgd (r:Rg) (s:DS) (g:Nat→Int) (ph:Nat):Value×Int×DS×(Nat→Int):=
 let acc:=fun (k what i:Int)=>Value.agg #[.int .i64 k,.int .i64 what,.int .i64 i]
 match ph with
 | 1=>(acc 1 0 0,0,s.goto 2,zjD s g)
 | 2=>(acc 4 0 0,0,s.goto 3,g)
 | 3=>(acc 3 1 s.pu0.at0,0,s.goto 4,putW g (4096+16*s.pu0.at0+14).toNat 2 s.pu0.nx)
 | 4=>(acc 4 0 0,0,s.goto 5,g)
 | 5=>
  let w:=zac g r.c.toNat 4
  let u:=zaH r.n s.nx s.nw s.c.ct
  (acc 2 11 0,0,({ s with nx:=u.1,nw:=u.2,kk:=zfV r.n u.1 u.2 s.c.ct w false }:DS).stop,g)
 | 11=>(acc 2 1 s.sx,0,if zdD g s then s.goto 15 else if s.ev then s.goto 12 else ({ s with nn:=true }:DS).stop,g)
 | 12=>(acc 3 10 0,0,s.goto 13,putW g r.v.toNat 4 (posW s.sx s.sw+131072))
 | 13=>(acc 4 0 0,0,s.goto 14,g)
 | 14=>(acc 2 1 s.sx,0,if zdD g s then s.goto 15 else ({ s with nn:=true }:DS).stop,g)
 | 15=>(acc 4 0 0,0,s.goto 16,g)
 | _=>
  let w:=zac g (4096+16*s.sx+8).toNat 8
  match zby s.L (w/4294967296%65536) with
  | none=>(acc 2 1 s.sx,4,s.brk,g)
  | some e=>
   let u:=zaH r.n s.sx s.sw e.ct
   (acc 2 1 s.sx,0,({ s with tok:=e.tk,wr:=w%4294967296,own:=s.own+e.ct,L:=za8 s.L e.id,sx:=u.1,sw:=u.2 }:DS).stop,g)
def Tryz.zaO (r:Rg) (s:DS) (g:Nat→Int):Value×Int×DS×(Nat→Int):=
 if s.br then (.agg #[.int .i64 0,.int .i64 0,.int .i64 0],4,s,g) else if s.ph=0 then (.agg #[.int .i64 0,.int .i64 0,.int .i64 0],8,s,g) else zgd r s g s.ph
def Tryz.DS.out (s:DS):Value:=if s.ph=0∧s.dn=true then .agg #[.int .i64 s.op,.bool s.nn,.int .i64 s.tok,.int .u32 s.wr,.bool s.kk] else .agg #[.int .i64 0,.bool false,.int .i64 0,.int .u32 0,.bool false]
def Tryz.DS.has (s:DS):Bool:=decide (s.ph=0)&&s.dn
def Tryz.DS.fresh (ev tb:Bool) (n:Int):DS:=⟨ev,tb,0,true,0,true,n,[],0,0,false,0,0,false,false,false,⟨0,0,0⟩,[],[]⟩
open Go.Maps Go.Sort
theorem Tryz.zbz (L:List DO): ∀(m k:Nat),k≤zaM L m k∧zaM L m k≤k+m∧(∀j,k≤j→j<zaM L m k→zdC L j=true)∧(zaM L m k<k+m→zdC L (zaM L m k)=false)
 | 0,k=>⟨Nat.le_refl _,Nat.le_refl _,fun j h1 h2=>absurd h2 (by show¬j<k;omega),fun h=>absurd h (by show¬k<k+0;omega)⟩
 | m+1,k=>by
  unfold zaM
  split
  ·rename_i hh
   obtain ⟨h1,h2,h3,h4⟩:=zbz L m (k+1)
   refine ⟨by omega,by omega,fun j hj1 hj2=> ?_,fun h=>h4 (by omega)⟩
   by_cases hjk:j=k
   ·subst hjk;exact hh
   ·exact h3 j (by omega) hj2
  ·rename_i hh
   exact ⟨Nat.le_refl _,by omega,fun j h1 h2=>absurd h2 (by omega),fun _=>by simpa using hh⟩
theorem Tryz.zc9 {L:List DO} {k:Int}:zdC L k=true↔ ∃e∈L,e.id=k:=by simp [zdC]
theorem Tryz.zce {L:List DO} {k:Int} {e:DO} (h:zby L k=some e):e∈L∧e.id=k:=⟨List.mem_of_find?_eq_some h,by simpa using List.find?_some h⟩
theorem Tryz.zbt {L:List DO} {k:Int}:(zby L k).isSome=zdC L k:=by simp [zby,zdC,List.find?_isSome];rw [Bool.eq_iff_iff];simp
structure Tryz.DB (r:Rg) (s:DS):Prop where
 nx:0≤s.nx∧s.nx<r.n
 sx:0≤s.sx∧s.sx<r.n
 wr:0≤s.wr∧s.wr<4294967296
 el: ∀e∈s.L,(0≤e.id∧e.id<r.n)∧(0≤e.tk∧e.tk<9223372036854775808)∧(1≤e.ct∧e.ct≤r.n)
 nd:(s.L.map (·.id)).Nodup
 sum:s.own+(s.L.map (·.ct)).sum=r.n
 own:0≤s.own
 c:1≤s.ph→s.ph≤5→s.c∈s.L
 pu:1≤s.ph→s.ph≤5→0<s.pu.length∧s.pu.length≤16
 ps: ∀p∈s.pu,p.ok∧0≤p.at0∧p.at0<r.n
 sg:s.sg.length≤64∧ ∀x∈s.sg,x.ok
 ph:s.ph≤5∨(11≤s.ph∧s.ph≤16)
 dn:(s.ph≠0∨s.br=true)→s.dn=false
theorem Tryz.zbg {L:List DO} (h: ∀e∈L,1≤e.ct):(L.length:Int)≤(L.map (·.ct)).sum:=by
 induction L with
 | nil=>simp
 | cons e r ih=>
  have h1:=h e (by simp)
  have h2:=ih fun x hx=>h x (by simp [hx])
  simp only [List.map_cons,List.sum_cons,List.length_cons]
  push_cast
  omega
theorem Tryz.zlb {L:List DO} {e:DO} (he:e∈L) (hnd:(L.map (·.id)).Nodup):((za8 L e.id).map (·.ct)).sum+e.ct=(L.map (·.ct)).sum:=by
 induction L with
 | nil=>cases he
 | cons x r ih=>
  unfold za8
  by_cases hx:x.id=e.id
  ·have hxe:x=e:=by
    rcases List.mem_cons.1 he with h|h
    ·exact h.symm
    ·rw [List.map_cons,List.nodup_cons] at hnd
     exact absurd (List.mem_map.2 ⟨e,h,hx.symm⟩) hnd.1
   subst hxe
   simp
   omega
  ·rw [List.eraseP_cons_of_neg (by simpa using hx)]
   rcases List.mem_cons.1 he with h|h
   ·exact absurd (congrArg (·.id) h.symm) hx
   ·rw [List.map_cons,List.nodup_cons] at hnd
    have:=ih h hnd.2
    unfold za8 at this
    simp only [List.map_cons,List.sum_cons]
    omega
theorem Tryz.zfo (L:List DO) (k:Int):(za8 L k).Sublist L:=List.eraseP_sublist
theorem Tryz.DB.fresh {r:Rg} (ev tb:Bool) (hn:1≤r.n):DB r (DS.fresh ev tb r.n):=
 ⟨⟨Int.le_refl _,by show 0<r.n;omega⟩,⟨Int.le_refl _,by show 0<r.n;omega⟩,⟨Int.le_refl _,by show (0:Int)<4294967296;decide⟩,fun e he=>(by cases he),by simp [DS.fresh],by simp [DS.fresh],by show 0≤r.n;omega,fun h=>absurd h (by show¬1≤0;decide),fun h=>absurd h (by show¬1≤0;decide),fun p hp=>(by cases hp),⟨Nat.zero_le _,fun x hx=>(by cases hx)⟩,.inl (Nat.zero_le _),fun _=>rfl⟩
theorem Tryz.zgF (f:Int) (x:Bool) (h:0≤f∧f<8):0≤zcj f x∧zcj f x<65536:=by
 unfold zcj
 cases x<;>simp<;>omega
theorem Tryz.zr7 {n id a:Int} {x:Bool} {l:List Sg} (hl: ∀s∈l,s.ok) (hn:n≤32768) (ha:0≤a∧a<n) (hid:0≤id∧id<n): ∀p∈ppTo n id a x l l.length,p.ok∧0≤p.at0∧p.at0<n:=fun p hp=>by
 unfold ppTo at hp
 obtain ⟨k,hk,rfl⟩:=List.mem_map.1 hp
 have hk:=List.mem_range.1 hk
 have hs:=hl l[k] (List.getElem_mem hk)
 have hg:l.getD k ⟨0,0,false⟩=l[k]:=by rw [List.getD_eq_getElem?_getD,List.getElem?_eq_getElem hk];rfl
 unfold ppAt
 rw [hg]
 refine ⟨⟨⟨hs.1,hs.2.1⟩,⟨hs.2.2.1,hs.2.2.2⟩,⟨hid.1,by show id<65536;omega⟩,zgF _ _ ?_⟩,zg6 ha k⟩
 split<;>split<;>omega
theorem Tryz.zbV {N:Nat} {l:List Sg} (h:zbH N l=0):l.length≤64∧zaU l=0:=by
 unfold zbH at h
 by_cases he:zaU l=0
 ·refine ⟨?_,he⟩
  unfold zaU at he
  split at he
  ·cases he
  ·omega
 ·simp [he] at h
theorem Tryz.DB.recl {r:Rg} {s:DS} (h:DB r s):DB r (zcM s).2:=by
 unfold zcM
 split
 ·exact h
 ·split
  ·exact h
  ·exact ⟨h.nx,h.sx,⟨Int.le_refl _,by show (0:Int)<4294967296;decide⟩,h.el,h.nd,h.sum,h.own,fun _ h5=>absurd h5 (by show¬11≤5;decide),fun _ h5=>absurd h5 (by show¬11≤5;decide),h.ps,h.sg,.inr (by show 11≤11∧11≤16;decide),fun _=>rfl⟩
theorem Tryz.DB.off {r:Rg} {N:Nat} {s:DS} {t:Int} {l:List Sg} (h:DB r s) (hn:1≤r.n∧r.n≤16) (ht:t<9223372036854775808) (hok: ∀x∈l,x.ok):DB r (za3 N r.n s t l).2:=by
 unfold za3
 split
 ·exact h
 ·split
  ·exact h
  ·split
   ·exact h
   ·rename_i hbr hph htk
    split
    ·exact h
    ·rename_i hin
     have hin:=Decidable.not_not.1 hin
     have h64:=(zbV hin).1
     split
     ·exact h
     ·rename_i hl0
      simp only
      split
      ·exact h
      ·rename_i hfull
       obtain ⟨f1,f2,f3,f4⟩:=zbz s.L r.n.toNat 0
       obtain ⟨id,hid⟩: ∃id:Nat,id=zaM s.L r.n.toNat 0:=⟨_,rfl⟩
       rw [←hid] at f1 f2 f3 f4 hfull ⊢
       have hidn:(id:Int)<r.n:=by omega
       have hnew:=f4 (by omega)
       have hct:1≤s.need l∧s.need l≤s.own:=by
        refine ⟨?_,by omega⟩
        unfold DS.need
        split<;>omega
       have hpl0:s.tab l=true∨(l.length:Int)≤16:=by
        by_cases htb:s.tab l=true
        ·exact .inl htb
        ·refine .inr ?_
         have h2:=hct.2
         unfold DS.need at h2
         rw [if_neg htb] at h2
         have:=h.sum
         have:=zbg fun e he=>(h.el e he).2.2.1
         omega
       generalize s.need l=ct at hct hfull ⊢
       have hsum:=h.sum
       have hlen:=zbg fun e he=>(h.el e he).2.2.1
       have hps: ∀p∈s.puts r.n id l,p.ok∧0≤p.at0∧p.at0<r.n:=by
        unfold DS.puts
        split
        ·intro p hp
         rw [List.mem_singleton] at hp
         subst hp
         refine ⟨⟨⟨?_,?_⟩,⟨?_,?_⟩,⟨by show (0:Int)≤id;omega,by show (id:Int)<65536;omega⟩,zgF 4 _ ⟨by decide,by decide⟩⟩,h.nx⟩
         ·show 0≤zcD id;unfold zcD;omega
         ·show zcD id<_;unfold zcD;omega
         ·show (0:Int)≤16*l.length;omega
         ·show 16*(l.length:Int)<_;omega
        ·exact zr7 hok (by omega) h.nx ⟨by omega,hidn⟩
       have hpl:0<(s.puts r.n id l).length∧(s.puts r.n id l).length≤16:=by
        unfold DS.puts
        split
        ·exact ⟨Nat.one_pos,by show 1≤16;decide⟩
        ·rename_i htb
         rw [zm6]
         rcases hpl0 with q|q
         ·exact absurd q htb
         ·omega
       have htk0:0≤t:=by omega
       refine ⟨h.nx,h.sx,⟨Int.le_refl _,by show (0:Int)<4294967296;decide⟩,fun e he=> ?_,?_,?_,by show 0≤s.own-ct;omega,fun _ _=> ?_,fun _ _=>hpl,hps,⟨h64,hok⟩,.inl (by show 1≤5;decide),fun _=>rfl⟩
       ·have he:e∈s.L++ [⟨id,t,ct⟩]:=he
        rcases List.mem_append.1 he with he|he
        ·exact h.el e he
        ·rw [List.mem_singleton] at he
         subst he
         exact ⟨⟨by show (0:Int)≤id;omega,hidn⟩,⟨htk0,ht⟩,hct.1,by show ct≤r.n;omega⟩
       ·show ((s.L++ [(⟨id,t,ct⟩:DO)]).map (·.id)).Nodup
        rw [List.map_append,List.nodup_append]
        refine ⟨h.nd,by simp,fun a ha b hb hab=> ?_⟩
        simp only [List.map_cons,List.map_nil,List.mem_singleton] at hb
        obtain ⟨e,he,hea⟩:=List.mem_map.1 ha
        have:zdC s.L id=true:=zc9.2 ⟨e,he,by rw [hea,hab,hb]⟩
        rw [hnew] at this
        cases this
       ·show s.own-ct+((s.L++ [(⟨id,t,ct⟩:DO)]).map (·.ct)).sum=r.n
        simp only [List.map_append,List.map_cons,List.map_nil,List.sum_append,List.sum_cons,List.sum_nil]
        omega
       ·show (⟨id,t,ct⟩:DO)∈s.L++ [⟨id,t,ct⟩]
        simp
end Go.Proofs
namespace Go.Proofs
open Go.RowKit Go.Maps Go.Sort
structure Tryz.RMm (w:World) (P L Bs B N:Nat) (g:Nat→Int):Prop where
 p0: ∃c,w.cell? ⟨P,0,none⟩=some (.slice (some ⟨L,0,none⟩) 1 c)
 p1: ∃c,w.cell? ⟨P,1,none⟩=some (.slice (some ⟨Bs,0,none⟩) 1 c)
 l0:w.cell? ⟨L,0,none⟩=some (.int .u64 0)
 l1:w.cell? ⟨L,1,none⟩=some (.int .u64 N)
 b0:w.cell? ⟨Bs,0,none⟩=some (.slice (some ⟨B,0,none⟩) N N)
 full: ∀j,j<N→w.cell? ⟨B,j,none⟩=some (.int .u8 (g j))
 free: ∀j,j<N→w.frozen? ⟨B,j,none⟩=false
 byte: ∀j,0≤g j∧g j<256
 pb:P≠B
 lb:L≠B
 sb:Bs≠B
 bl:B<w.heap.size
section
variable {w w':World} {P L Bs B N:Nat} {g g':Nat→Int}
theorem Tryz.RMm.pl (h:RMm w P L Bs B N g):P<w.heap.size:=by obtain ⟨c,q⟩:=h.p1;exact World.block_lt_of_cell? w _ q
theorem Tryz.RMm.ll (h:RMm w P L Bs B N g):L<w.heap.size:=World.block_lt_of_cell? w _ h.l0
theorem Tryz.RMm.sl (h:RMm w P L Bs B N g):Bs<w.heap.size:=World.block_lt_of_cell? w _ h.b0
theorem Tryz.RMm.kept (h:RMm w P L Bs B N g) (hg: ∀k,k<w.heap.size→(k=P∨k=L∨k=Bs∨k=B)→w'.heap[k]? =w.heap[k]?) (hs:w.heap.size≤w'.heap.size):RMm w' P L Bs B N g:=by
 have eP:=hg P h.pl (Or.inl rfl)
 have eL:=hg L h.ll (Or.inr (Or.inl rfl))
 have eS:=hg Bs h.sl (Or.inr (Or.inr (Or.inl rfl)))
 have eB:=hg B h.bl (Or.inr (Or.inr (Or.inr rfl)))
 refine ⟨?_,?_,?_,?_,?_,fun j hj=> ?_,fun j hj=> ?_,h.byte,h.pb,h.lb,h.sb,Nat.lt_of_lt_of_le h.bl hs⟩
 ·obtain ⟨c,h0⟩:=h.p0
  exact ⟨c,by rw [World.cell?_of_block (a:=⟨P,0,none⟩) eP];exact h0⟩
 ·obtain ⟨c,h0⟩:=h.p1
  exact ⟨c,by rw [World.cell?_of_block (a:=⟨P,1,none⟩) eP];exact h0⟩
 ·rw [World.cell?_of_block (a:=⟨L,0,none⟩) eL];exact h.l0
 ·rw [World.cell?_of_block (a:=⟨L,1,none⟩) eL];exact h.l1
 ·rw [World.cell?_of_block (a:=⟨Bs,0,none⟩) eS];exact h.b0
 ·rw [World.cell?_of_block (a:=⟨B,j,none⟩) eB];exact h.full j hj
 ·rw [World.frozen?_of_block (a:=⟨B,j,none⟩) eB];exact h.free j hj
theorem Tryz.RMm.below (h:RMm w P L Bs B N g) (hb:Below w.heap.size w w'):RMm w' P L Bs B N g:=h.kept (fun k hk _=>hb.block k hk) hb.size
theorem Tryz.RMm.setB (h:RMm w P L Bs B N g) (j:Nat) (hj:j<N) (x:Int) (hx0:0≤x) (hx1:x<256):RMm (w.setCell ⟨B,j,none⟩ (.int .u8 x)) P L Bs B N (fun q=>if q=j then x else g q):=by
 have hk: ∀k,k≠B→(w.setCell ⟨B,j,none⟩ (.int .u8 x)).heap[k]? =w.heap[k]? :=fun k hk=>Below.heap_setCell w _ _ k hk
 have eP:=hk P h.pb
 have eL:=hk L h.lb
 have eS:=hk Bs h.sb
 refine ⟨?_,?_,?_,?_,?_,fun q hq=> ?_,fun q hq=> ?_,fun q=> ?_,h.pb,h.lb,h.sb,Nat.lt_of_lt_of_le h.bl (by simp)⟩
 ·obtain ⟨c,h0⟩:=h.p0
  exact ⟨c,by rw [World.cell?_of_block (a:=⟨P,0,none⟩) eP];exact h0⟩
 ·obtain ⟨c,h0⟩:=h.p1
  exact ⟨c,by rw [World.cell?_of_block (a:=⟨P,1,none⟩) eP];exact h0⟩
 ·rw [World.cell?_of_block (a:=⟨L,0,none⟩) eL];exact h.l0
 ·rw [World.cell?_of_block (a:=⟨L,1,none⟩) eL];exact h.l1
 ·rw [World.cell?_of_block (a:=⟨Bs,0,none⟩) eS];exact h.b0
 ·by_cases hqj:q=j
  ·subst hqj
   rw [if_pos rfl]
   exact World.cell?_setCell_same' _ _ _ (by rw [h.full q hq];rfl)
  ·rw [if_neg hqj,World.cell?_setCell_other w ⟨B,j,none⟩ ⟨B,q,none⟩ _ (fun e=>hqj (congrArg Addr.off e).symm)]
   exact h.full q hq
 ·rw [World.frozen?_setCell];exact h.free q hq
 ·by_cases hqj:q=j
  ·rw [if_pos hqj];exact ⟨hx0,hx1⟩
  ·rw [if_neg hqj];exact h.byte q
theorem Tryz.RMm.range (h:RMm w P L Bs B N g) (a n:Nat) (hn:a+n≤N):w.rangeAt B a (row g a n):=by
 intro j v hv
 simp only [row,List.getElem?_map] at hv
 rcases Nat.lt_or_ge j n with hj|hj
 ·rw [List.getElem?_range hj] at hv
  simp only [Option.map_some,Option.some.injEq] at hv
  rw [←hv]
  exact h.full (a+j) (by omega)
 ·rw [List.getElem?_eq_none (by simp;omega)] at hv
  cases hv
end
set_option maxRecDepth 100000 in
theorem Tryz.zgB (P L Bs B N a k:Nat) (g:Nat→Int) (w:World) (st:RMm w P L Bs B N g) (hN:N≤1048576) (hk:1≤k) (hin:a+k≤N):
  Calls prog 83 #[.pointer (some ⟨P,0,none⟩),.int .u64 a,.int .u64 k] w fun e w'=>e= .returned (.tuple #[.int .i64 0,.int .i64 a])∧Below w.heap.size w w':=by
 obtain ⟨lc,c0⟩:=st.p0
 have c2:=st.l0
 have c3:=st.l1
 have ha:IntKind.wrap .u64 ((N:Int)-k)=N-k:=wrap_u64 _ (by omega) (by omega)
 have hwa:IntKind.wrap .u64 (a:Int)=a:=wrap_u64 _ (by omega) (by omega)
 have hwb:IntKind.wrap .i64 (a:Int)=a:=by unfold IntKind.wrap;simp [IntKind.signed,IntKind.bits];omega
 have hkn:(k:Int)≤N:=by omega
 have hak:(a:Int)≤N-k:=by omega
 have hk1:(1:Int)≤k:=by omega
 have ha0:(0:Int)≤a:=by omega
 have hb:=(Below.refl _ w).alloc (Nat.le_refl _) (.cells #[.int .u64 0,.int .u64 N] 38)
 go_enter func83,ntmps83
 go_wp2_with fail
 go_loopw [8] (fun i wr=>i= .int .i64 0∧wr=w) (fun _ _=>0)
 case atStart=>exact ⟨rfl,rfl⟩
 case round=>
  obtain ⟨rfl,rfl⟩:=hrel
  go_wp2
  go_quiet (fail)
  go_wp2
  go_ret2
  exact ⟨rfl,below_drewN hb _⟩
set_option maxRecDepth 100000 in
theorem Tryz.zpv (P L Bs B N:Nat) (a k:Int) (g:Nat→Int) (w:World) (st:RMm w P L Bs B N g) (hN:N≤1048576) (ha0:0≤a) (ha1:a<18446744073709551616) (hk0:0≤k) (hk1:k<18446744073709551616) (hout: ¬(1≤k∧a+k≤N)):
  Calls prog 83 #[.pointer (some ⟨P,0,none⟩),.int .u64 a,.int .u64 k] w fun e w'=>e= .returned (.tuple #[.int .i64 (-1),.int .i64 0])∧Below w.heap.size w w':=by
 obtain ⟨lc,c0⟩:=st.p0
 have c2:=st.l0
 have c3:=st.l1
 have hb:=(Below.refl _ w).alloc (Nat.le_refl _) (.cells #[.int .u64 0,.int .u64 N] 38)
 have hwa:IntKind.wrap .u64 a=a:=wrap_u64 _ (by omega) (by omega)
 go_enter func83,ntmps83
 go_wp2_with fail
 go_loopw [8] (fun i wr=>(i= .int .i64 0∧wr=w)∨(i= .int .i64 1∧wr=w.alloc (.cells #[.int .u64 0,.int .u64 N] 38))) (fun i _=>1-(RowKit.intOf i).toNat)
 case atStart=>exact .inl ⟨rfl,rfl⟩
 case round=>
  rcases hrel with ⟨rfl,rfl⟩|⟨rfl,rfl⟩
  ·by_cases h1:1≤k
   ·by_cases h2:k≤N
    ·have h3:IntKind.wrap .u64 ((N:Int)-k)=N-k:=wrap_u64 _ (by omega) (by omega)
     have h4: ¬a≤N-k:=by omega
     go_wp2
     exact ⟨.inr (by simp),by decide⟩
    ·go_wp2
     exact ⟨.inr (by simp),by decide⟩
   ·go_wp2
    exact ⟨.inr (by simp),by decide⟩
  ·have st2:=st.below hb
   obtain ⟨lc2,c02⟩:=st2.p0
   go_wp2
   go_ret2
   exact ⟨rfl,hb⟩
end Go.Proofs
namespace Go.Proofs
open Go.RowKit Go.Maps Go.Sort
theorem Tryz.zux (g:Nat→Int) (hg: ∀j,0≤g j∧g j<256) (a k j:Nat) (v:Int) (hj:j+1≤k) (hk:k≤8) (h:zac g a k=zac g a (j+1)+v*256^(j+1)) (hv:0≤v∧v<256^(k-(j+1))):
  zac g a k=zac g a j+(256*v+g (a+j))*256^j∧(0≤256*v+g (a+j)∧256*v+g (a+j)<256^(k-j))∧(0≤256*v∧256*v<18446744073709551616)∧256*v+g (a+j)<18446744073709551616:=by
 have h2:=hg (a+j)
 have e1:(256:Int)^(k-j)=256^(k-(j+1))*256:=by rw [←Int.pow_succ];congr 1;omega
 have e2:(256:Int)^(k-j)≤18446744073709551616:=by
  have q:=Nat.pow_le_pow_right (n:=256) (by omega) (show k-j≤8 by omega)
  rw [show (256:Nat)^8=18446744073709551616 from by decide] at q
  have e:((256^(k-j):Nat):Int)=(256:Int)^(k-j):=Int.natCast_pow 256 (k-j)
  rw [←e]
  exact Int.ofNat_le.2 q
 refine ⟨?_,by omega,by omega,by omega⟩
 rw [h]
 simp only [zac]
 rw [Int.pow_succ,Int.add_mul,Int.mul_comm 256 v,Int.mul_assoc v 256,Int.mul_comm 256 (256^j),Int.add_comm (v*_),Int.add_assoc]
set_option maxRecDepth 100000 in
theorem Tryz.zrO (P L Bs B N a k:Nat) (g:Nat→Int) (w:World) (st:RMm w P L Bs B N g) (hN:N≤1048576) (hk:k=1∨k=2∨k=4∨k=8) (hin:a+k≤N):
    Calls prog 42 #[.pointer (some ⟨P,0,none⟩),.int .u64 a,.int .i64 k] w fun e w'=>e= .returned (.tuple #[.int .u64 (zac g a k),.int .i64 0])∧Below w.heap.size w w':=by
  have hby:=zgB P L Bs B N a k g w st hN (by omega) hin
  have hwk:IntKind.wrap .u64 (k:Int)=k:=wrap_u64 _ (by omega) (by omega)
  go_enter func42,ntmps42
  obtain ⟨k0,hk0,hk1⟩: ∃k0,k0≤k∧k≤k0:=⟨k,Nat.le_refl _,Nat.le_refl _⟩
  have hk8:k0≤8:=by omega
  have hin0:a+k0≤N:=by omega
  have hk2:k0=1∨k0=2∨k0=4∨k0=8:=by omega
  have hw0:zac g a k=zac g a k0:=by rw [show k=k0 by omega]
  have hwp:(fun _:Unit=>zac g a k)=fun _=>zac g a k0:=by rw [hw0]
  clear hw0
  rcases hk with rfl|rfl|rfl|rfl
  all_goals
    go_wp2_with (first
      | (go_at_call 83;refine hby.mono ?_;rintro e w1 ⟨rfl,hb1⟩)
      | go_in)
    go_loopw [10,11] (fun v c wr=> ∃(j:Nat) (x:Int),c= .int .i64 ((j:Int)-1)∧v= .int .u64 x∧j≤k0∧zac g a k0=zac g a j+x*256^j∧(0≤x∧x<256^(k0-j))∧wr=w1) (fun _ c _=>(RowKit.intOf c+1).toNat)
    case atStart=>exact ⟨k0,0,by congr 1;omega,rfl,Nat.le_refl _,by simp,by simp,rfl⟩
    case round=>
      obtain ⟨j,x,rfl,rfl,hj,he,hx,rfl⟩:=hrel
      cases j with
      | zero=>
        have hx1:x=zac g a k0:=by simp [zac] at he;exact he.symm
        rw [←congrFun hwp ()] at hx1
        subst hx1
        clear hwp
        go_wp2
        go_ret2
        exact ⟨rfl,hb1⟩
      | succ j=>
        obtain ⟨q1,q2,q3,q4⟩:=zux g st.byte a k0 j x hj hk8 he hx
        obtain ⟨c1,p1⟩:=(st.below hb1).p1
        have p2:=(st.below hb1).b0
        have hc:=(st.below hb1).full (a+j) (by omega)
        have hby2:=st.byte (a+j)
        have w1':IntKind.wrap .u64 (256*x)=256*x:=wrap_u64 _ q3.1 q3.2
        have w2':IntKind.wrap .u64 (g (a+j))=g (a+j):=wrap_u64 _ (by omega) (by omega)
        have w3':IntKind.wrap .u64 (256*x+g (a+j))=256*x+g (a+j):=wrap_u64 _ q2.1 q4
        have ej:((j+1:Nat):Int)-1=j:=by push_cast;omega
        rw [ej]
        go_wp2
        exact ⟨⟨j,_,rfl,rfl,by omega,q1,q2,trivial⟩,by simp only [RowKit.intOf];omega⟩
set_option maxRecDepth 100000 in
theorem Tryz.zkb (P L Bs B N:Nat) (a n:Int) (g:Nat→Int) (w:World) (st:RMm w P L Bs B N g) (hN:N≤1048576) (ha0:0≤a) (ha1:a<18446744073709551616) (hn:0≤n) (hn1:n<18446744073709551616):
    Calls prog 59 #[.pointer (some ⟨P,0,none⟩),.int .u64 a,.int .u64 n] w fun e w'=>e= .returned (.bool (decide (1≤n∧a+n≤N)))∧Below w.heap.size w w':=by
  by_cases h:1≤n∧a+n≤N
  · obtain ⟨a',rfl⟩:=Int.eq_ofNat_of_zero_le ha0
    obtain ⟨n',rfl⟩:=Int.eq_ofNat_of_zero_le hn
    have hby:=zgB P L Bs B N a' n' g w st hN (by omega) (by omega)
    rw [decide_eq_true h]
    go_enter func59,ntmps59
    go_wp2_with (first
      | (go_at_call 83;refine hby.mono ?_;rintro e w1 ⟨rfl,hb1⟩)
      | go_in)
    go_ret
    exact ⟨rfl,hb1⟩
  · have hby:=zpv P L Bs B N a n g w st hN ha0 ha1 hn hn1 h
    rw [decide_eq_false h]
    go_enter func59,ntmps59
    go_wp2_with (first
      | (go_at_call 83;refine hby.mono ?_;rintro e w1 ⟨rfl,hb1⟩)
      | go_in)
    go_ret
    exact ⟨rfl,hb1⟩
set_option maxRecDepth 100000 in
theorem Tryz.zmO (P L Bs B N a n:Nat) (g:Nat→Int) (w:World) (st:RMm w P L Bs B N g) (hN:N≤1048576) (hn:1≤n) (hin:a+n≤N):
    Calls prog 95 #[.pointer (some ⟨P,0,none⟩),.int .u64 a,.int .i64 n] w fun e w'=> ∃v,e= .returned (.tuple #[v,.int .i64 0])∧w'.ownsRow w.heap.size 5 1 v n (row g a n)∧Below w.heap.size w w':=by
  obtain ⟨i0,hi0,hz0,hz1,hzb⟩:=info_parts zsz
  have hby:=zgB P L Bs B N a n g w st hN hn hin
  have hwk:IntKind.wrap .u64 (n:Int)=n:=wrap_u64 _ (by omega) (by omega)
  have hkk:a+n-a=n:=by omega
  have hn1: ¬(n:Int)<0:=by omega
  have hn2: ¬(n:Int)=0:=by omega
  have b1:(0:Int)≤a:=by omega
  have b2:(a:Int)≤a+n:=by omega
  have b3:(a:Int)+n≤N:=by omega
  go_enter func95,ntmps95
  go_wp2_with (first
    | (go_at_call 83;refine hby.mono ?_;rintro e w1 ⟨rfl,hb1⟩
       have st1:=st.below hb1
       have hmade:=World.ownsRow_made (base:=w1.heap.size) (e:=5) (size:=1) w1 #[] 0 (Nat.le_refl _) (by unfold maxLen;omega) rfl
       have hr':=zag (w':=w1.alloc (.cells #[] 5)) (st1.range a n hin) (Below.heap_alloc w1 _ B st1.bl)
       have hb0:=(Below.refl w1.heap.size w1).alloc (Nat.le_refl _) (.cells #[] 5)
       obtain ⟨c1,p1⟩:=(st1.below hb0).p1
       have p2:=(st1.below hb0).b0)
    | (at_builtin;go_loud (refine wpList_append_own _ rfl _ _ 59 rfl w1.heap.size 5 i0 (.int .u8 0) 1 1 underlying59 hi0 hz0 hz1 hzb rfl (by decide) _ _ _ rfl hmade ⟨B,a,none⟩ n (N-a) (row g a n) (by show Value.slice (some ⟨B,a,none⟩) (a+n-a) (N-a)=_;rw [hkk]) (by rw [zfw];simp) (fun j v hv=>by rw [Addr.add_mid];exact hr' j v hv) (row_one g a n) (by unfold maxLen;omega) (by omega) (by simp) ?_);intro v' w3 hown' hg3 hnil3;go_frame)
    | go_in)
  go_ret2
  have hown2:w3.ownsRow w1.heap.size 5 1 v' n (row g a n):=by simpa using hown'
  have hb3:=hb0.grown hg3 (by simp) (fun j hj=>(hmade.lt j hj).1)
  refine ⟨_,rfl,⟨hown2.1,?_⟩,hb1.trans (hb3.mono hb1.size)⟩
  rcases hown2.2 with h|⟨g0,cap,cur,h0,h2,h3⟩
  · exact Or.inl h
  · exact Or.inr ⟨g0,cap,cur,h0,Nat.le_trans hb1.size h2,h3⟩
theorem Tryz.RMm.setL {P L Bs B N:Nat}: ∀(xs:List Int) (a:Nat) (g:Nat→Int) (w:World),RMm w P L Bs B N g→a+xs.length≤N→(∀x∈xs,0≤x∧x<256)→RMm (w.setCells B a (xs.map (Value.int .u8))) P L Bs B N (putL g a xs)
 | [], _,_,_,h,_,_=>h
 | x::r,a,g,w,h,hl,hb=>by
  rw [List.map_cons,World.setCells,putL]
  rw [List.length_cons] at hl
  have hx:=hb x (by simp)
  exact RMm.setL r (a+1) _ _ (h.setB a (by omega) x hx.1 hx.2) (by omega) (fun y hy=>hb y (by simp [hy]))
set_option maxRecDepth 100000 in
theorem Tryz.zpn (P L Bs B N a R o c:Nat) (xs:List Int) (g:Nat→Int) (w:World) (st:RMm w P L Bs B N g) (hN:N≤1048576) (hn:1≤xs.length) (hin:a+xs.length≤N) (hb: ∀x∈xs,0≤x∧x<256)
    (hr:w.rangeAt R o (xs.map (Value.int .u8))) (hR:R<w.heap.size):
    Calls prog 24 #[.pointer (some ⟨P,0,none⟩),.int .u64 a,.slice (some ⟨R,o,none⟩) xs.length c] w fun e w'=>e= .returned (.int .i64 0)∧RMm w' P L Bs B N (putL g a xs)∧Mv (· =B) w w':=by
  have hby:=zgB P L Bs B N a xs.length g w st hN (by omega) hin
  have hwk:IntKind.wrap .u64 (xs.length:Int)=xs.length:=wrap_u64 _ (by omega) (by omega)
  have hcp:=fun w1 (h:Below w.heap.size w w1)=>run_copy_cells (P:=prog) w1 59 59 3 5 B a (N-a) (N-a) ⟨R,o,none⟩ xs.length c (xs.map (Value.int .u8)) underlying59 (by kernel_rfl) (by rw [List.length_map];exact (Nat.min_eq_left (by omega)).symm) (fun j v hv=>by rw [Addr.add_mid];exact (zag hr (h.block R hR)) j v hv)
    (fun j hj=>by rw [(st.below h).full (a+j) (by simp at hj;omega)];rfl) (fun j hj=>(st.below h).free (a+j) (by simp at hj;omega)) (fun v hv=>by obtain ⟨x,_,rfl⟩:=List.mem_map.1 hv;rfl)
  rw [List.length_map] at hcp
  go_enter func24,ntmps24
  have hn0: ¬(xs.length:Int)=0:=by omega
  have b1:(0:Int)≤a:=by omega
  have b2:(a:Int)≤N:=by omega
  go_wp2_with (first
    | (go_at_call 83;refine hby.mono ?_;rintro e w1 ⟨rfl,hb1⟩
       have hcp1:=hcp _ hb1
       obtain ⟨c1,p1⟩:=(st.below hb1).p1
       have p2:=(st.below hb1).b0)
    | go_in)
  go_ret
  exact ⟨rfl,(st.below hb1).setL xs a g _ hin hb,(Mv.of_below hb1).grown (zcE B _ _ _) (Or.inl rfl)⟩
open Go.Dw
theorem Tryz.Cl.kept {w w':World} {b:Nat} {l:List Value} (h:Cl w b l) (e:w'.heap[b]? =w.heap[b]?):Cl w' b l:=by
 refine ⟨?_,fun i v hv=>by rw [World.cell?_of_block (a:=⟨b,i,none⟩) e];exact h.cell i v hv,fun i=>by rw [World.frozen?_of_block (a:=⟨b,i,none⟩) e];exact h.free i⟩
 have q:w'.heap[b]? =some (w.heap[b]'(h).lt):=by rw [e];exact Array.getElem?_eq_getElem h.lt
 exact (Array.getElem?_eq_some_iff.1 q).1
theorem Tryz.zjL (F:Int) (k:Nat) (hk:k≤2) (h0:0≤F) (h1:F<65536):bits .and .u16 F ((2^k:Nat):Int)=F/((2^k:Nat):Int)%2*((2^k:Nat):Int):=by
 obtain ⟨x,rfl⟩:=Int.eq_ofNat_of_zero_le h0
 have hx:x<2^16:=by omega
 have hp:2^k<2^16:=Nat.pow_lt_pow_right (by decide) (by omega)
 unfold bits
 simp only [BitVec.toNat_and]
 have ex:(BitVec.ofInt IntKind.u16.bits (x:Int)).toNat=x:=by
  rw [BitVec.ofInt_natCast,BitVec.toNat_ofNat]
  exact Nat.mod_eq_of_lt hx
 have ey:(BitVec.ofInt IntKind.u16.bits ((2^k:Nat):Int)).toNat=2^k:=by
  rw [BitVec.ofInt_natCast,BitVec.toNat_ofNat]
  exact Nat.mod_eq_of_lt hp
 have e0:x&&&2^k=x/2^k%2*2^k:=by
  have e1:x&&&2^k=if x.testBit k then 2^k else 0:=by
   apply Nat.eq_of_testBit_eq
   intro i
   rw [Nat.testBit_and,Nat.testBit_two_pow]
   by_cases hi:k=i
   ·subst hi
    cases x.testBit k<;>simp [Nat.testBit_two_pow]
   ·cases x.testBit k<;>simp [Nat.testBit_two_pow,hi]
  rw [e1,Nat.testBit_eq_decide_div_mod_eq]
  have:x/2^k%2=0∨x/2^k%2=1:=by omega
  rcases this with h|h<;>simp [h]
 rw [ex,ey,e0]
 have hb:x/2^k%2*2^k≤2^k:=by
  have:x/2^k%2≤1:=by omega
  calc _≤1*2^k:=Nat.mul_le_mul_right _ this
   _=_:=Nat.one_mul _
 have hc:(x:Int)/((2^k:Nat):Int)%2*((2^k:Nat):Int)=((x/2^k%2*2^k:Nat):Int):=by rw [Int.natCast_mul,Int.natCast_emod,Int.natCast_ediv];rfl
 rw [hc]
 generalize x/2^k%2*2^k=y at hb ⊢
 exact zdF (by omega) (by omega)
def Tryz.stE (e e1:Int):Int:=if e=0 then e1 else e
set_option maxRecDepth 100000 in
theorem Tryz.zdK (X:Nat) (a b:Value) (n e e1:Int) (w:World) (hX:Cl w X [a,b,.int .i64 n,.int .i64 e]):
  Calls prog 94 #[.pointer (some ⟨X,0,none⟩),.int .i64 e1] w fun en w'=>en= .returned (.tuple #[])∧Cl w' X [a,b,.int .i64 n,.int .i64 (stE e e1)]∧Dw.Mv (· =X) w w':=by
 have c3:=hX.cell 3 _ rfl
 have f3:=hX.free 3
 go_enter func94,ntmps94
 by_cases he:e=0
 ·go_wp2
  go_end0
  refine ⟨rfl,?_,⟨rfl,rfl,rfl,by simp,fun k hk hne=>Below.heap_setCell w _ _ k hne⟩⟩
  rw [show stE e e1=e1 from if_pos he]
  exact hX.set 3 (.int .i64 e1) (by simp)
 ·go_wp2
  go_end0
  refine ⟨rfl,?_,⟨rfl,rfl,rfl,Nat.le_refl _,fun _ _ _=>rfl⟩⟩
  rw [show stE e e1=e from if_neg he]
  exact hX
set_option maxRecDepth 100000 in
theorem Tryz.zpp (X b2:Nat) (p v:Value) (n e A Ln F:Int) (l:List Sg) (w:World) (hX:Cl w X [p,v,.int .i64 n,.int .i64 e]) (hv:OwnSeg w b2 v l) (hb2:b2≤w.heap.size) (hXb:X<b2) (hl:l.length≤100000) (hF:0≤F∧F<65536):
  Calls prog 98 #[.pointer (some ⟨X,0,none⟩),.int .u64 A,.int .u32 Ln,.int .u16 F] w fun en w'=>en= .returned (.tuple #[])∧ ∃v',Cl w' X [p,v',.int .i64 n,.int .i64 e]∧OwnSeg w' b2 v' (l++ [⟨A,Ln,F/2%2*2 !=0⟩])∧Dw.Mv (fun b=>b=X∨v.ownBlock=some b) w w'∧ ∀b,v'.ownBlock=some b→v.ownBlock=some b∨w.heap.size≤b:=by
 obtain ⟨i0,hi0,hz0,hz1,hzb⟩:=info_parts zmh
 obtain ⟨sa,sc,rfl,_⟩:=hv.slice
 have hbt:bits .and .u16 F 2=F/2%2*2:=by have:=zjL F 1 (by decide) hF.1 hF.2;simpa using this
 have c1:=hX.cell 1 _ rfl
 have hb0:=(Below.refl w.heap.size w).alloc (Nat.le_refl _) (.cells #[.int .u64 A,.int .u32 Ln,.bool (F/2%2*2 !=0)] 137)
 have hrow:OwnSeg (w.alloc (.cells #[.int .u64 A,.int .u32 Ln,.bool (F/2%2*2 !=0)] 137)) b2 (.slice sa l.length sc) l:=hv.kept fun b e=>hb0.block b (hv.lt b e).2.1
 have hlt:=hv.lt
 have hXl:=hX.lt
 go_enter func98,ntmps98
 refine wp_region_lit ?_
 iterate 12 (refine wpList_step fun K hK=> ?_;go_simp;refine hK _ _ ?_;clear hK)
 refine wpList_append_own_at _ rfl _ _ 49 rfl b2 137 i0 (.agg #[.int .u64 0,.int .u32 0,.bool false]) 3 16 underlying49 hi0 hz0 hz1 hzb rfl (by decide) (.slice sa l.length sc) l.length (zan l) rfl hrow ⟨w.heap.size,0,none⟩ 1 1 [.int .u64 A,.int .u32 Ln,.bool (F/2%2*2 !=0)] rfl rfl (fun j u hu=>by rw [Addr.add_mid];exact (Cl.new w _ _).cell (0+j) u (by rw [Nat.zero_add];exact hu)) (fun u hu=>by simp only [List.mem_cons,List.not_mem_nil,or_false] at hu;rcases hu with rfl|rfl|rfl<;>rfl) (by unfold maxLen;omega) (by omega) (by simp;omega) ?_
 intro v' w3 hown' hg3 hnil3 hat3
 have hX3:=hX.kept ((hg3.block X (by simp;omega) (fun e=>by have:=(hlt X e.symm).1;omega)).trans (hb0.block X hXl))
 have d1:=hX3.cell 1 _ rfl
 have g1:=hX3.free 1
 have hlen:(zan l++ [.int .u64 A,.int .u32 Ln,.bool (F/2%2*2 !=0)])=zan (l++ [⟨A,Ln,F/2%2*2 !=0⟩]):=by simp [zan,Sg.cells]
 have hl1:l.length+1=(l++ [(⟨A,Ln,F/2%2*2 !=0⟩:Sg)]).length:=by simp
 rw [hlen,hl1] at hown'
 have own2:OwnSeg w3 b2 v' (l++ [⟨A,Ln,F/2%2*2 !=0⟩]):=hown'
 obtain ⟨sa',sc',rfl,_⟩:=own2.slice
 rw [show (l++ [(⟨A,Ln,F/2%2*2 !=0⟩:Sg)]).length=l.length+1 from by simp] at own2 hat3
 clear hown' hlen hl1 hrow c1 hnil3
 refine wpList_step fun K hK=> ?_;go_simp;refine hK _ _ ?_;clear hK
 refine wpList_step fun K hK=> ?_;go_simp;refine hK _ _ ?_;clear hK
 refine wpList_step fun K hK=> ?_;go_simp;refine hK _ _ ?_;clear hK
 refine wpList_nil ?_
 go_end0
 have hs3:=hg3.size
 have hnv:(Value.slice sa' (l.length+1) sc').ownBlock≠some X:=fun e=>by
  rcases hat3 with h|h
  ·rw [h] at e;have:=(hlt X e).1;omega
  ·rw [h] at e;simp at e;omega
 refine ⟨rfl,_,hX3.set 1 _ (by simp),own2.kept fun b e=>Below.heap_setCell w3 ⟨X,1,none⟩ _ b (fun e2=>by have e2:b=X:=e2;rw [e2] at e;exact hnv e),⟨hg3.os,hg3.tape,hg3.output,by simp at hs3 ⊢;omega,fun b hb hn=> ?_⟩,fun b hb=> ?_⟩
 ·rw [Below.heap_setCell w3 ⟨X,1,none⟩ _ b (fun e2=>hn (.inl e2))]
  exact (hg3.block b (by simp;omega) (fun e2=>hn (.inr e2.symm))).trans (hb0.block b hb)
 ·rcases hat3 with h|h
  ·exact .inl (h▸hb)
  ·rw [h] at hb;simp at hb;exact .inr (by omega)
theorem Tryz.RMm.mvX {w w':World} {P L Bs B N X:Nat} {g:Nat→Int} (h:RMm w P L Bs B N g) (hm:Dw.Mv (· =X) w w') (hx:X≠P∧X≠L∧X≠Bs∧X≠B):RMm w' P L Bs B N g:=
 h.kept (fun k hk hq=>hm.block k hk fun e=>by
  have e:k=X:=e
  obtain ⟨h1,h2,h3,h4⟩:=hx
  rcases hq with q|q|q|q<;>(rw [e] at q;contradiction)) hm.size
def Tryz.entE (e x:Int):Int:=if x=0 then e else stE e x
set_option maxRecDepth 100000 in
theorem Tryz.zpz (X P L Bs B N:Nat) (v:Value) (n e A k:Int) (g:Nat→Int) (w:World) (hX:Cl w X [.pointer (some ⟨P,0,none⟩),v,.int .i64 n,.int .i64 e]) (st:RMm w P L Bs B N g) (hN:N≤1048576) (ha:0≤A∧A<18446744073709551616) (hk:0≤k∧k<4294967296):
    Calls prog 143 #[.pointer (some ⟨X,0,none⟩),.int .u64 A,.int .u32 k] w fun en w'=>en= .returned (.tuple #[.int .i64 (entN N A k).1,.bool (decide ((entN N A k).2=0))])∧
      Cl w' X [.pointer (some ⟨P,0,none⟩),v,.int .i64 n,.int .i64 (entE e (entN N A k).2)]∧Dw.Mv (· =X) w w':=by
  have c0:=hX.cell 0 _ rfl
  have t1:k.tmod 16=k%16:=Int.tmod_eq_emod_of_nonneg hk.1
  have t2:k.tdiv 16=k/16:=Int.tdiv_eq_ediv_of_nonneg hk.1
  have hst:=fun e1 w1 (h1:Cl w1 X [.pointer (some ⟨P,0,none⟩),v,.int .i64 n,.int .i64 e])=>zdK X (.pointer (some ⟨P,0,none⟩)) v n e e1 w1 h1
  have hhas:=zkb P L Bs B N A k g w st hN ha.1 ha.2 hk.1 (by omega)
  have wk:IntKind.wrap .u64 k=k:=zaN (by omega) (by omega)
  have wd:IntKind.wrap .i64 (k/16)=k/16:=zaT (by omega) (by omega)
  have wq:IntKind.wrap .u32 (k/16)=k/16:=zs3 (by omega) (by omega)
  have hbm: ∀ {a b:World},Below a.heap.size a b→Dw.Mv (· =X) a b:=fun h=>⟨h.os,h.tape,h.output,h.size,fun b hb _=>h.block b hb⟩
  by_cases hbad:k=0∨ ¬k%16=0∨64<k/16
  · have he:entN N A k=(0,4):=by unfold entN;rw [if_pos hbad]
    rw [he,show entE e (0,(4:Int)).2=stE e 4 from rfl,show decide ((((0:Int),(4:Int)).2)=0)=false from rfl]
    go_enter func143,ntmps143
    by_cases q1:k=0
    · subst q1
      go_wp2_with (first
        | (go_at_call 94;refine (hst 4 _ hX).mono ?_;rintro en w1 ⟨rfl,h1,hm1⟩)
        | go_in)
      go_ret2
      exact ⟨rfl,h1,hm1⟩
    · by_cases q2:k%16=0
      · have q3:64<k/16:=by
          rcases hbad with h|h|h
          · exact absurd h q1
          · exact absurd q2 h
          · exact h
        go_wp2_with (first
          | (go_at_call 94;refine (hst 4 _ hX).mono ?_;rintro en w1 ⟨rfl,h1,hm1⟩)
          | go_in)
        go_ret2
        exact ⟨rfl,h1,hm1⟩
      · go_wp2_with (first
          | (go_at_call 94;refine (hst 4 _ hX).mono ?_;rintro en w1 ⟨rfl,h1,hm1⟩)
          | go_in)
        go_ret2
        exact ⟨rfl,h1,hm1⟩
  · have q1: ¬k=0:=fun h=>hbad (.inl h)
    have q2:k%16=0:=by
      by_cases h:k%16=0
      · exact h
      · exact absurd (.inr (.inl h)) hbad
    have q3: ¬64<k/16:=fun h=>hbad (.inr (.inr h))
    by_cases hin:A+k≤N
    · have he:entN N A k=(k/16,0):=by unfold entN;rw [if_neg hbad,if_pos hin]
      rw [he,show entE e (k/16,(0:Int)).2=e from rfl,show decide (((k/16,(0:Int)).2)=0)=true from rfl]
      rw [decide_eq_true (show 1≤k∧A+k≤N from ⟨by omega,hin⟩)] at hhas
      go_enter func143,ntmps143
      go_wp2_with (first
        | (go_at_call 59;refine hhas.mono ?_;rintro en w1 ⟨rfl,hb1⟩)
        | go_in)
      go_ret2
      exact ⟨rfl,hX.below hb1 hX.lt,hbm hb1⟩
    · have he:entN N A k=(0,5):=by unfold entN;rw [if_neg hbad,if_neg hin]
      rw [he,show entE e (0,(5:Int)).2=stE e 5 from rfl,show decide ((((0:Int),(5:Int)).2)=0)=false from rfl]
      rw [decide_eq_false (show¬(1≤k∧A+k≤N) from fun h=>hin h.2)] at hhas
      go_enter func143,ntmps143
      go_wp2_with (first
        | (go_at_call 59;refine hhas.mono ?_;rintro en w1 ⟨rfl,hb1⟩)
        | (go_at_call 94;refine (hst 5 _ (hX.below hb1 hX.lt)).mono ?_;rintro en w2 ⟨rfl,h2,hm2⟩)
        | go_in)
      go_ret2
      exact ⟨rfl,h2,(hbm hb1).trans hm2⟩
open Go.Deep
structure Tryz.EqB (a b:Bool):Prop where
 eq:a=b
theorem Tryz.ztc {w wr:World} {R o:Nat} {l:List Sg} (hr:w.rangeAt R o (zan l)) (hb:Below w.heap.size w wr) {k:Nat} (hk:k<l.length):wr.cell? ⟨R,o+k*3,none⟩=some (.int .u64 l[k].at1)∧wr.cell? ⟨R,o+k*3+1,none⟩=some (.int .u32 l[k].len)∧wr.cell? ⟨R,o+k*3+2,none⟩=some (.bool l[k].wr):=by
 obtain ⟨d0,d1,d2⟩:=zdJ l k hk
 have hRl:R<w.heap.size:=World.block_lt_of_cell? w _ (hr _ _ d1)
 refine ⟨?_,?_,?_⟩
 ·rw [Nat.mul_comm k 3];exact (hb.cell (p:=⟨R,o+3*k,none⟩) hRl).trans (hr _ _ d0)
 ·rw [show o+k*3+1=o+(3*k+1) by omega];exact (hb.cell (p:=⟨R,o+(3*k+1),none⟩) hRl).trans (hr _ _ d1)
 ·rw [show o+k*3+2=o+(3*k+2) by omega];exact (hb.cell (p:=⟨R,o+(3*k+2),none⟩) hRl).trans (hr _ _ d2)
set_option maxRecDepth 100000 in
theorem Tryz.zpj {A B:Nat→Prop} {w:World} {v1 v2:Value} {l1 l2:List Sg} (h1:SegV A w v1 l1) (h2:SegV B w v2 l2) (hl:l1.length<4000000) (hl2:l2.length<4000000):
  Calls prog 44 #[v1,v2] w fun e w'=>e= .returned (.bool (decide (l1=l2)))∧Below w.heap.size w w':=by
 obtain ⟨sa,c,rfl,hok,hr⟩:=h1
 obtain ⟨sb,d,rfl,hok2,hr2⟩:=h2
 by_cases hlen:l1.length=l2.length
 ·obtain ⟨z,hz⟩: ∃z,EqB z (decide (l1=l2)):=⟨_,⟨rfl⟩⟩
  rw [←hz.eq]
  obtain ⟨m,hm⟩: ∃m,m=l1.length:=⟨_,rfl⟩
  rw [←hlen,←hm]
  have hm1:l1.length≤m∧m≤l1.length:=by omega
  have hm2:l2.length≤m∧m≤l2.length:=by omega
  clear hm hlen
  go_enter func44,ntmps44
  go_wp2_with fail
  go_loopw [5] (fun i wr=>Below w.heap.size w wr∧ ∃k:Nat,k≤m∧i= .int .i64 k∧l1.take k=l2.take k) (fun i _=>m-(RowKit.intOf i).toNat)
  case atStart=>exact ⟨Below.refl _ _,0,Nat.zero_le _,rfl,rfl⟩
  case round=>
   obtain ⟨hb,k,hk,rfl,hall⟩:=hrel
   by_cases hkm:k<m
   ·have hkm':(k:Int)<m:=by omega
    have k1:k<l1.length:=by omega
    have k2:k<l2.length:=by omega
    rcases hr with hr|⟨R,o,rfl,hRA,hr⟩
    ·subst hr;simp at k1
    rcases hr2 with hr2|⟨R2,o2,rfl,hRA2,hr2⟩
    ·subst hr2;simp at k2
    obtain ⟨f0,f1,f2⟩:=ztc hr hb k1
    obtain ⟨g0,g1,g2⟩:=ztc hr2 hb k2
    have ht:l1[k]=l2[k]→l1.take (k+1)=l2.take (k+1):=fun e=>by rw [List.take_succ_eq_append_getElem k1,List.take_succ_eq_append_getElem k2,hall,e]
    have hne:l1[k]≠l2[k]→ ¬l1=l2:=fun e q=>e (by subst q;rfl)
    clear hr hr2
    generalize l1[k]=x1 at*
    generalize l2[k]=x2 at*
    obtain ⟨a1,n1,t1⟩:=x1
    obtain ⟨a2,n2,t2⟩:=x2
    by_cases he:a1=a2∧n1=n2∧t1=t2
    ·obtain ⟨rfl,rfl,rfl⟩:=he
     have ht:=ht rfl
     clear hne
     go_wp2_with fail
     go_quiet (fail)
     go_wp2
     exact ⟨⟨below_drewN hb _,k+1,by omega,by push_cast;rfl,ht trivial⟩,by simp only [RowKit.intOf];omega⟩
    ·have hzf:=hz.eq
     rw [decide_eq_false (hne fun q=>he (by cases q;exact ⟨rfl,rfl,rfl⟩))] at hzf
     subst hzf
     clear hz ht hne
     have h3: ¬a1=a2∨ ¬n1=n2∨ ¬t1=t2:=by
      by_cases q1:a1=a2
      ·by_cases q2:n1=n2
       ·exact .inr (.inr fun q3=>he ⟨q1,q2,q3⟩)
       ·exact .inr (.inl q2)
      ·exact .inl q1
     clear he
     rcases h3 with h|h|h
     all_goals
      have hbf:=beq_false_of_ne h
      go_wp2_with fail
      go_quiet (fail)
      go_wp2
      go_ret
      exact ⟨rfl,below_drewN hb _⟩
   ·have hkm': ¬(k:Int)<m:=by omega
    have:k=m:=by omega
    subst this
    have:l1=l2:=by rw [List.take_of_length_le hm1.1,List.take_of_length_le hm2.1] at hall;exact hall
    have hzf:=hz.eq
    rw [decide_eq_true this] at hzf
    subst hzf
    clear hz
    go_wp2
    go_ret
    exact ⟨rfl,hb⟩
 ·have hn: ¬l1=l2:=fun q=>hlen (by rw [q])
  rw [decide_eq_false hn]
  have hne: ¬(l1.length:Int)=l2.length:=by omega
  go_enter func44,ntmps44
  go_wp2_with fail
  go_ret
  exact ⟨rfl,Below.refl _ _⟩
end Go.Proofs
namespace Go.Proofs
open Go.Dw Go.RowKit Go.Maps Go.Sort
section
variable {X:Nat→Prop} {bX:Nat} {ρ:Val} {w0:World} {K:Nat→Prop} {S P L Bs B M N:Nat} {r:Tryz.Rg} {b2:Nat} {sk:Nat→Tryz.SS} {gk:Nat→Nat→Int} {rows:Nat→List Tryz.LwR} {f:FuncId} {args:List AV} {res:AV} {k k':Nat}
end
end Go.Proofs
namespace Go.Proofs
open Go.Dw Go.RowKit Go.Maps Go.Sort
section
variable {X:Nat→Prop} {bX:Nat} {ρ:Val} {w0:World} {K:Nat→Prop} {S P L Bs B M N:Nat} {r:Tryz.Rg} {b2:Nat} {sk:Nat→Tryz.SS} {gk:Nat→Nat→Int} {rows:Nat→List Tryz.LwR} {f:FuncId} {args:List AV} {res:AV} {k k':Nat}
end
end Go.Proofs
namespace Go.Proofs
open Go.Dw Go.RowKit Go.Maps Go.Sort
theorem Tryz.ziQ {P0:Program} (w:World) (base:Nat) (t ty e t0:TypeId) (i:TypeInfo) (z:Value) (size bytes:Nat) (ht:P0.underlying t=some (.slice e)) (hi:P0.info? e=some i) (hz:i.zero=some z)
  (hsize:i.size=size) (hby:i.bytes=bytes) (hzs:z.cells.size=size) (hsz:0<size)
  (v:Value) (n:Nat) (xs:List Value) (hown:w.ownsRow base t0 size v n xs)
  (a:Addr) (m c:Nat) (news:List Value) (hl:news.length=m*size) (hnews: ∀j u,news[j]? =some u→w.cell? (a.add j)=some u) (h1: ∀u∈news,u.oneCell'=true)
  (h63:n+m≤maxLen) (hbytes:(n+m)*bytes≤140737488355328) (hbase:base≤w.heap.size):
  ∃ v' w' t',(Builtin.append_ #[t,t] ty #[v,.slice (some a) m c]).run P0 w= .ok v' w'∧w'.ownsRow base t' size v' (n+m) (xs++news)∧w.grownBy w' v.ownBlock∧(v'.ownBlock=v.ownBlock∨v'.ownBlock=some w.heap.size):=by
 have hsmall:n+m≤9223372036854775807:=by simp only [maxLen] at h63;omega
 have hlen:(xs++news).length=(n+m)*size:=by rw [List.length_append,hown.1,hl,Nat.add_mul]
 rcases hown.2 with ⟨rfl,rfl⟩|⟨g,cap,cur,rfl,hbg,hg,hnc,hcm,hcs,htake⟩
 ·obtain ⟨v',w',q1,q2,q3,_,q5⟩:=run_append_own_at (P:=P0) w base t ty e i z size bytes ht hi hz hsize hby hzs hsz (.slice none 0 0) 0 xs ⟨hown.1,.inl ⟨rfl,rfl⟩⟩ a m c news hl hnews h1 h63 hbytes hbase
  exact ⟨v',w',e,q1,q2,q3,q5⟩
 ·subst hsize
  subst hby
  by_cases hroom:n+m≤cap
  ·have hfit:n*i.size+news.length≤cur.size:=by rw [hl,hcs,←Nat.add_mul];exact Nat.mul_le_mul_right _ hroom
   have hf:=run_firstCells_some (P:=P0) w i.size m a m c news hl hnews
   have hst:=run_storeCells_at P0 g (n*i.size) t0 news 0 cur w hg (by simpa using hfit) h1
   simp only [Nat.add_zero] at hst
   have hr:(Builtin.append_ #[t,t] ty #[.slice (some ⟨g,0,none⟩) n cap,.slice (some a) m c]).run P0 w= .ok (.slice (some ⟨g,0,none⟩) (n+m) cap) (w.setRow g (cur.toList.take (n*i.size)++news++cur.toList.drop (n*i.size+news.length)).toArray):=by
    simp [Builtin.append_,run_underlying ht,sizeOf,typeInfo,hi,Builtin.lenOf,hroom,hf,Addr.add_lit,hst]
   refine ⟨_,_,t0,hr,⟨hlen,.inr ⟨g,cap,_,rfl,hbg,setRow_heap w g cur _ t0 _ hg,hroom,hcm,?_,?_⟩⟩,⟨rfl,rfl,rfl,by simp,fun k _ hk=>setRow_other w g k _ (fun e=>hk (by simp [Value.ownBlock,e]))⟩,Or.inl rfl⟩
   ·simp only [List.size_toArray,List.length_append,List.length_take,List.length_drop,Array.length_toList]
    omega
   ·rw [htake,←hlen]
    exact List.take_left
  ·have holds: ∀j u,xs[j]? =some u→w.cell? ((⟨g,0,none⟩:Addr).add j)=some u:=hown.cells (g:=g) rfl
   have hr:=run_append_grow (P:=P0) w t ty e i z ht hi hz ⟨g,0,none⟩ n cap xs hown.1 holds a m c news hl hnews (by omega) (by omega) (growslice_fits (by omega) hbytes)
   have hge:=grownCap_ge w (n+m) cap e
   have hcm2:grownCap w (n+m) cap e≤maxLen:=grownCap_le_maxLen w (n+m) cap e h63
   refine ⟨_,_,e,hr,⟨hlen,.inr ⟨w.heap.size,_,_,rfl,hbase,heap_alloc_new w.drew _,hge,hcm2,?_,?_⟩⟩,⟨rfl,rfl,rfl,by simp,fun k hk _=>heap_alloc_old w.drew _ (h:=hk)⟩,Or.inr rfl⟩
   ·simp only [Array.size_append,List.size_toArray,size_zeroCells,hzs,hown.1,hl,←Nat.add_mul]
    congr 1
    omega
   ·simp only [Array.toList_append,List.append_assoc]
    rw [←List.append_assoc,←hlen]
    exact List.take_left
section
variable {X:Nat→Prop} {bX:Nat} {ρ:Val} {w0:World} {K:Nat→Prop} {S P L Bs B M N:Nat} {r:Tryz.Rg} {b2:Nat} {sk:Nat→Tryz.SS} {gk:Nat→Nat→Int} {rows:Nat→List Tryz.LwR} {k k' q:Nat}
end
end Go.Proofs
namespace Go.Proofs
open Go.Dw Go.RowKit Go.Maps Go.Sort Go.Deep Go.ChangeShapes Go.WideShapes
section
variable {H:Type} {enc:TypeId×Value→H} {W:World} {sp:Nat→Bool} {held:Bool} {fuel:Nat}
theorem Tryz.zqi {α:Type} {p:Nat→α→Prop}: ∀n,(∀i,i<n→ ∃x,p i x)→ ∃l:List α,l.length=n∧ ∀(i:Nat) (hi:i<l.length),p i l[i]
 | 0,_=>⟨[],rfl,fun i hi=>absurd hi (Nat.not_lt_zero i)⟩
 | n+1,h=>by
  obtain ⟨l,hl,hp⟩:=zqi n fun i hi=>h i (by omega)
  obtain ⟨x,hx⟩:=h n (by omega)
  refine ⟨l++ [x],by simp [hl],fun i hi=> ?_⟩
  by_cases hlt:i<l.length
  ·rw [List.getElem_append_left hlt];exact hp i hlt
  ·have e:i=n:=by simp at hi;omega
   subst e
   simp only [List.getElem_append_right (by omega:l.length≤i),hl,Nat.sub_self,List.getElem_singleton]
   exact hx
theorem Tryz.addr_add (b o n:Nat):(⟨b,o,none⟩:Addr).add n=⟨b,o+n,none⟩:=by
 unfold Addr.add
 split
 ·rename_i h;rw [h];rfl
 ·rfl
theorem Tryz.zgU {α:Type} {l:List α} {i:Nat} (h:i<l.length):l[i]? =some l[i]:=List.getElem?_eq_getElem h
set_option maxRecDepth 100000 in
theorem Tryz.zrC {cs:List Value} {x:DataW H×List MemPlace} (h:DataW.trod enc prog W 0 sp held fuel 137 cs=some x): ∃s:Sg,cs=s.cells∧s.ok:=by
 obtain ⟨xs,n,rfl,rfl,hl,hx,hf⟩:=DataW.trod_struct underlying137 h
 have hl:cs.length=3:=hl.trans (by kernel_rfl)
 have hx:xs.length=3:=hx
 match cs,hl with
 | [c0,c1,c2],_=>
  have f0:DataW.trod enc prog W 0 sp held n 28 [c0]=xs[0]? :=by
   have:=(show DataW.trod enc prog W 0 sp held n 28 (([c0,c1,c2].drop 0).take (prog.cellsOf 28))=xs[0]? from hf 0 _ rfl)
   rw [show prog.cellsOf 28=1 from by kernel_rfl] at this
   exact this
  have f1:DataW.trod enc prog W 0 sp held n 50 [c1]=xs[1]? :=by
   have:=(show DataW.trod enc prog W 0 sp held n 50 (([c0,c1,c2].drop 1).take (prog.cellsOf 50))=xs[1]? from hf 1 _ rfl)
   rw [show prog.cellsOf 50=1 from by kernel_rfl] at this
   exact this
  have f2:DataW.trod enc prog W 0 sp held n 4 [c2]=xs[2]? :=by
   have:=(show DataW.trod enc prog W 0 sp held n 4 (([c0,c1,c2].drop 2).take (prog.cellsOf 4))=xs[2]? from hf 2 _ rfl)
   rw [show prog.cellsOf 4=1 from by kernel_rfl] at this
   exact this
  rw [zgU (by omega)] at f0 f1 f2
  obtain ⟨n0,e0,_,w0⟩:=DataW.trod_int underlying28 f0
  obtain ⟨n1,e1,_,w1⟩:=DataW.trod_int underlying50 f1
  obtain ⟨b,e2,_⟩:=DataW.trod_bool underlying4 f2
  simp only [List.cons.injEq,and_true] at e0 e1 e2
  subst e0 e1 e2
  have b0:=bounds_u64 w0
  have b1:=bounds_u32 w1
  exact ⟨⟨n0,n1,b⟩,rfl,by show 0≤n0;omega,by show n0<_;omega,by show 0≤n1;omega,by show n1<_;omega⟩
theorem Tryz.zh4 {R:Nat}: ∀ {l:List Sg} {o:Nat},(∀(i:Nat) (hi:i<l.length),W.rangeAt R (o+3*i) l[i].cells)→W.rangeAt R o (zan l)
 | [], o,_=>fun j v hv=>by simp [zan] at hv
 | x::r,o,h=>fun j v hv=>by
  have h0:=h 0 (by simp)
  have hr:=zh4 (R:=R) (l:=r) (o:=o+3) fun i hi=>by
   have:=h (i+1) (by simpa using hi)
   rw [show o+3*(i+1)=o+3+3*i by omega] at this
   simpa using this
  have hv:(x.cells++zan r)[j]? =some v:=hv
  by_cases hj:j<3
  ·rw [List.getElem?_append_left (by simpa [Sg.cells] using hj)] at hv
   exact h0 j v hv
  ·rw [List.getElem?_append_right (by simp [Sg.cells];omega)] at hv
   have:=hr (j-3) v hv
   rw [show o+3+(j-3)=o+j by omega] at this
   exact this
set_option maxRecDepth 100000 in
theorem Tryz.zpg {v:Value} {x:DataW H×List MemPlace} (h:DataW.trod enc prog W 0 sp held fuel 49 [v]=some x) (hw: ∀n∈x.1.weights prog 49,n≤reachBytes):
  ∃ l,SegV (fun _=>False) W v l∧l.length<4000000000000000:=by
 rcases DataW.trod_slice underlying49 h with ⟨e,_⟩|⟨a,len,cap,elems,rest,n,rfl,e,rfl,_,hlc,hcap,hel,hc,_⟩
 ·simp only [List.cons.injEq,and_true] at e
  subst e
  exact ⟨[],SegV.none,by decide⟩
 ·simp only [List.cons.injEq,and_true] at e
  subst e
  have hb:prog.bytesOf 137=16:=by kernel_rfl
  have hsz:=hw ((elems.length+rest.length)*16) (by
   unfold DataW.weights
   rw [underlying49]
   simp [hb])
  unfold reachBytes at hsz
  obtain ⟨l,hll,hl⟩:=zqi (p:=fun i (s:Sg)=>W.cells? 0 (a.add (i*3)) 3=some s.cells∧s.ok) len fun i hi=>by
   have:=hc i hi
   rw [zgU (by omega)] at this
   obtain ⟨cs,h1,h2⟩:=Option.bind_eq_some_iff.1 this
   obtain ⟨s,rfl,hs⟩:=zrC h2
   exact ⟨s,h1,hs⟩
  subst hll
  refine ⟨l,⟨some a,cap,rfl,fun s hs=> ?_,?_⟩,by omega⟩
  ·obtain ⟨i,hi,rfl⟩:=List.mem_iff_getElem.1 hs
   exact (hl i hi).2
  ·by_cases h0:l= []
   ·exact .inl h0
   ·right
    obtain ⟨ab,ao,aq⟩:=a
    have hp:0<l.length:=List.length_pos_iff.2 h0
    have hs:aq=none:=cell_spot ((World.cells?_some (hl 0 hp).1).2.2 0 (by decide))
    subst hs
    refine ⟨ab,ao,rfl,fun h=>h,zh4 fun i hi j y hy=> ?_⟩
    have hj:j<3:=by
     have:=List.getElem?_eq_some_iff.1 hy
     simpa [Sg.cells] using this.1
    have:=(World.cells?_some (hl i hi).1).2.2 j hj
    rw [hy,addr_add,addr_add] at this
    rw [show ao+3*i+j=ao+i*3+j by omega]
    exact this
end
end Go.Proofs
namespace Go.Proofs
open Go.Dw Go.RowKit Go.Maps Go.Sort Go.Deep Go.ChangeShapes Go.WideShapes
section
variable {H:Type} {enc:TypeId×Value→H} {W:World} {sp:Nat→Bool} {held:Bool} {fuel:Nat}
end
end Go.Proofs
namespace Go.Proofs
open Go.Dw Go.RowKit Go.Maps Go.Sort Go.Deep Go.ChangeShapes Go.WideShapes
section
variable {H:Type} {enc:TypeId×Value→H} {W:World} {sp:Nat→Bool} {held:Bool} {fuel:Nat}
end
end Go.Proofs
namespace Go.Proofs
open Go.Dw Go.RowKit Go.Maps Go.Sort
section
variable {W0:World} {H4 X11 S P L Bs B M:Nat} {r:Tryz.Rg} {av ov:Value} {ls:List (List Tryz.Sg)} {s:Tryz.SS} {g:Nat→Int} {hs:List Int} {bs:List (List Tryz.Sg)} {next:Int} {vh:Value} {i:Nat} {a:Act} {w:World}
end
end Go.Proofs
namespace Go.Proofs
open Go.Dw Go.RowKit Go.Maps Go.Sort Go.Deep
theorem Tryz.zgy {P0:Program} {w:World} {ops:Array Oper} {o:Oper} {a:Act} {K:Act→World→Prop} {Q:Exit→Act→World→Prop} {E:Prop} (hgd:o.guard=none) (s x:Operand) (t:TypeId)
  (ho:o.op= .call { callee:= .builtin .append,args:= #[s,x],argTypes:= #[t,t] })
  (base:Nat) (e t0:TypeId) (i:TypeInfo) (z:Value) (size bytes:Nat) (ht:P0.underlying t=some (.slice e)) (hi:P0.info? e=some i) (hz:i.zero=some z)
  (hsize:i.size=size) (hby:i.bytes=bytes) (hzs:z.cells.size=size) (hsz:0<size)
  (v:Value) (n:Nat) (xs:List Value) (hs:a.eval s=v) (hown:w.ownsRow base t0 size v n xs)
  (sa:Option Addr) (ad:Addr) (hsa:sa=some ad) (m c:Nat) (news:List Value) (hx:a.eval x= .slice sa m c) (hl:news.length=m*size) (hnews: ∀j u,news[j]? =some u→w.cell? (ad.add j)=some u) (h1: ∀u∈news,u.oneCell'=true)
  (h63:n+m≤maxLen) (hbytes:(n+m)*bytes≤140737488355328) (hbase:base≤w.heap.size)
  (h: ∀v' w' t',w'.ownsRow base t' size v' (n+m) (xs++news)→w.grownBy w' v.ownBlock→(v'.ownBlock=v.ownBlock∨v'.ownBlock=some w.heap.size)→K (a.put o.dst v') w'):
  if Region.wanted o (yielded ops a.tmps)=true then Oper.wp P0 o a w K Q else E:=by
 subst hsa
 have hw:Region.wanted o (yielded ops a.tmps)=true:=by simp [Region.wanted,hgd]
 rw [if_pos hw]
 obtain ⟨v',w',t',hr,h2,h3,h4⟩:=ziQ (P0:=P0) w base t o.type e t0 i z size bytes ht hi hz hsize hby hzs hsz v n xs hown ad m c news hl hnews h1 h63 hbytes hbase
 unfold Oper.wp execOp
 simp only [ho,resolve,invoke,builtin,Sem.run_bind,Sem.run_pure,Result.andThen_ok,List.map_toArray,List.map_cons,List.map_nil,hs,hx,hr]
 exact h v' w' t' h2 h3 h4
end Go.Proofs
end
