/-
  Proved: laws on the way to 'SserveScriptProof' (texts XaS XaT XaU XaV XaW XaX XaY XaZ XbA XbB XbC XbD XbH XbI XbK XbM XbN XbF XbG XbE XbO XbP XbQ XbR QaE0 QaA QaB QaC QaD QaE QaF QaG QaH XcR XcM XcJ XcK XcL XcN XcO XcS XcT XcA XcB XcC XcD XcE XcU XcV XcF XcG XcW XcH XcX XcY XcZ XdA XdB0 XdB XdC XdD XcP XdE XdF XdG0 XdG XdH XdI XdJ QaI QbE PsA PsB0 QbA PsB PsC QbB QbC QbD PsD0 PsD PsE QbF QbG QbH XdK QbI QbJ UbA UbB UbC UbD UbF UbG UbE UbH UbI UbJ UbK UbL QbK QbL QbM QbN QbO QbP QbQ QbR QbS PsV PsW QbT QbU QbW QbY UbM); no condition.
-/
import Derived.Test.YtpogddachhjgaaaGreatM4
import Derived.OpenShut
import Derived.Lib.LaidU8
import Derived.Laws.IdiomCopy
import Derived.Deep.RegionHeld3
import Derived.Deep.DrawnRows
import Derived.Deep.MidRow
set_option linter.unusedSimpArgs false
set_option linter.unusedVariables false
set_option maxHeartbeats 4000000
noncomputable section
namespace Go.Proofs
open Go.Dw Go.RowKit Go.Maps Go.Sort
structure Tryz.vZ where
 q:Option Nat
 v:Value
 sz:Nat
 n:Nat
 cs:List Value
section
variable {X:Nat→Prop} {bX:Nat} {ρ:Val} {w0:World} {K:Nat→Prop} {S P L Bs B M N:Nat} {r:Tryz.Rg} {b2:Nat} {sk:Nat→Tryz.SS} {gk:Nat→Nat→Int} {rows:Nat→List Tryz.vZ} {f:FuncId} {args:List AV} {res:AV} {k k':Nat}
end
end Go.Proofs
namespace Go.Proofs
open Go.Dw Go.RowKit Go.Maps Go.Sort
theorem Tryz.Ja:(prog.info? 3).map (fun i=>(i.zero,i.size,i.bytes))=some (some (.int .i64 0),1,8):=by kernel_rfl
end Go.Proofs
namespace Go.Proofs
open Go.Dw
def Tryz.ztu:List aK:= []
def Tryz.zx4:List Sh:= [.ro Wq]
def Tryz.Kj:List (Nat×AV):= [(0,.sx 4 (au 7) 8 [(au 6,1)]),(3,.int .i64 (au 6))]
def Tryz.zpg:List cB:= []
def Tryz.zph:List dU:= []
def Tryz.zx5:Option AV:=none
def Tryz.zEk:List (SB×Bool):= [(.cmp .lss (au 6) (au 7),true)]
def Tryz.Wh:List gu:= [
 ⟨.ret,[2],none,⟨.aH [.bool (.lit false)],[],[],0,[]⟩⟩,
 ⟨.normal,[0,3],none,⟨.aH [.sx 4 ((au 7)) 8 [((au 6),1)],.int .i64 (.bin .add .i64 (au 6) (.lit 1))],[],[],0,[]⟩⟩,
 ⟨(.exit 0),[0],none,⟨.aH [.sx 4 ((au 7)) 8 [((au 6),1)]],[],[],0,[]⟩⟩]
def Tryz.Wd:List (List (SB×Bool)×Nat):= [
 ([((.cmp .leq (au 6) (.lit 60)),true),((.cmp .gtr (au 4) (.lit 100)),true)],0),
 ([((.cmp .leq (au 6) (.lit 60)),true),((.cmp .gtr (au 4) (.lit 100)),false)],1),
 ([((.cmp .leq (au 6) (.lit 60)),false)],2)]
theorem Tryz.zEj:(eU prog (bG ztu) (fB zpg) (eY zph) 100000 (.code (bf prog [0,0,1,0,1,23]) [0,0,1,0,1,23] 24 (bR 24 Kj zx5) (bn 0 zx4) (fJ Wh 0))).ways zEk=some Wd:=by kernel_rfl
theorem Tryz.zF2:(bJ zx4&&bI ztu&&fK zpg&&fM zph&&fV Kj&&gK Wh&&fI 24 Kj&&Nat.ble 24 bS&&gJ zx5)=true:=by kernel_rfl
def Tryz.ztt:List aK:= []
def Tryz.zx2:List Sh:= []
def Tryz.Ki:List (Nat×AV):= [(0,.sx 4 (au 7) 8 []),(3,.int .i64 (au 6))]
def Tryz.zpe:List cB:= []
def Tryz.zpf:List dU:= []
def Tryz.zx3:Option AV:=none
def Tryz.zEi:List (SB×Bool):= [(.cmp .lss (au 6) (au 7),false)]
def Tryz.V9:List gu:= [
 ⟨(.exit 0),[0],none,⟨.aH [.sx 4 ((au 7)) 8 []],[],[],0,[]⟩⟩]
def Tryz.V8:List (List (SB×Bool)×Nat):= [
 ([], 0)]
theorem Tryz.zEh:(eU prog (bG ztt) (fB zpe) (eY zpf) 100000 (.code (bf prog [0,0,1,0,1,23]) [0,0,1,0,1,23] 24 (bR 24 Ki zx3) (bn 0 zx2) (fJ V9 0))).ways zEi=some V8:=by kernel_rfl
theorem Tryz.zF1:(bJ zx2&&bI ztt&&fK zpe&&fM zpf&&fV Ki&&gK V9&&fI 24 Ki&&Nat.ble 24 bS&&gJ zx3)=true:=by kernel_rfl
def Tryz.zts:List aK:= []
def Tryz.zx0:List Sh:= []
def Tryz.Kh:List (Nat×AV):= [(0,.sx 4 (au 7) 8 [])]
def Tryz.zpc:List cB:= []
def Tryz.zpd:List dU:= []
def Tryz.zx1:Option AV:=none
def Tryz.zEg:List (SB×Bool):= []
def Tryz.V7:List gu:= [
 ⟨.ret,[2],none,⟨.aH [.bool (.cmp .leq (au 7) (.lit 60))],[],[],0,[]⟩⟩]
def Tryz.V5:List (List (SB×Bool)×Nat):= [
 ([], 0)]
theorem Tryz.zEf:(eU prog (bG zts) (fB zpc) (eY zpd) 100000 (.code (bf prog [1,1,23]) [1,1,23] 24 (bR 24 Kh zx1) (bn 0 zx0) (fJ V7 0))).ways zEg=some V5:=by kernel_rfl
theorem Tryz.zF0:(bJ zx0&&bI zts&&fK zpc&&fM zpd&&fV Kh&&gK V7&&fI 24 Kh&&Nat.ble 24 bS&&gJ zx1)=true:=by kernel_rfl
open Go.RowKit Go.Maps Go.Sort
structure Tryz.Ac where
 k:Int
 n:Int
 v:Int
 a:Int
 l:Int
 f:Int
 x:Int
 sv:Value
 sl:List Sg
def Tryz.Ac.cells (c:Ac):List Value:= [.int .i64 c.k,.int .i64 c.n,.int .u32 c.v,.int .u64 c.a,.int .u32 c.l,.int .u16 c.f,.int .u16 c.x,c.sv]
structure Tryz.Ac.ok (c:Ac) (w:World):Prop where
 k: -9223372036854775808≤c.k∧c.k<9223372036854775808
 n: -9223372036854775808≤c.n∧c.n<9223372036854775808
 v:0≤c.v∧c.v<4294967296
 a:0≤c.a∧c.a<18446744073709551616
 l:0≤c.l∧c.l<4294967296
 f:0≤c.f∧c.f<65536
 x:0≤c.x∧c.x<65536
 sv:aL (fun _=>False) w c.sv c.sl
 sn:c.sl.length<4000000000000000
structure Tryz.sN (w:World) (av:Value) (acts:List Ac):Prop where
 val: ∃aa c,av= .slice aa acts.length c∧(acts= []∨ ∃R o,aa=some ⟨R,o,none⟩∧ ∀i,(hi:i<acts.length)→w.rangeAt R (o+8*i) acts[i].cells)
 ok: ∀x∈acts,x.ok w
 len:acts.length<4000000000000000
theorem Tryz.sN.below {w w':World} {av:Value} {acts:List Ac} (h:sN w av acts) (hb:Below w.heap.size w w'):sN w' av acts:=by
 obtain ⟨aa,c,e,hr⟩:=h.val;refine ⟨⟨aa,c,e,?_⟩,fun x hx=> ?_,h.len⟩
 ·rcases hr with hr|⟨R,o,e1,hr⟩
  ·exact .inl hr
  ·exact .inr ⟨R,o,e1,fun i hi=>gL (hr i hi) (hb.block R (yan w _ (hr i hi 0 _ rfl)))⟩
 ·have o:=h.ok x hx;exact ⟨o.k,o.n,o.v,o.a,o.l,o.f,o.x,o.sv.kept (fun k hk _=>hb.block k hk),o.sn⟩
def Tryz.pJ (i n:Int) (c:Ac) (av:Value):Val:=⟨fun m=>match m with|4=>c.sl.length|6=>i|7=>n|8=>c.k|9=>c.n|10=>c.v|11=>c.a|12=>c.l|13=>c.f|14=>c.x|_=>0,fun _=>false,fun m=>match m with|1=>c.sv|4=>av|_=>undef⟩
theorem Tryz.zF3 {ρ:Val} {j:J} {w:World} {c:Ac} (h:c.ok w) (i4:ρ.i 4=c.sl.length) (i8:ρ.i 8=c.k) (i9:ρ.i 9=c.n) (i10:ρ.i 10=c.v) (i11:ρ.i 11=c.a) (i12:ρ.i 12=c.l) (i13:ρ.i 13=c.f) (i14:ρ.i 14=c.x) (v1:ρ.v 1=c.sv):RL ρ j Wq c.cells:=by
 obtain ⟨sa,cc,e,_⟩:=h.sv;have:=h.sn;have d4:(au 4).den ρ=c.sl.length:=(mh (by rw [i4];omega) (by rw [i4];omega)).trans i4;exact ai (aA i8) (ai (aA i9) (ai (aA ((pF (by rw [i10];exact h.v.1) (by rw [i10];exact h.v.2)).trans i10)) (ai (aA ((iI (by rw [i11];exact h.a.1) (by rw [i11];exact h.a.2)).trans i11)) (ai (aA ((pF (by rw [i12];exact h.l.1) (by rw [i12];exact h.l.2)).trans i12))
  (ai (aA ((jC (by rw [i13];exact h.f.1) (by rw [i13];exact h.f.2)).trans i13)) (ai (aA ((jC (by rw [i14];exact h.x.1) (by rw [i14];exact h.x.2)).trans i14)) (ai ⟨v1.symm,sa,_,cc,e,d4.symm,trivial⟩ RL.nil)))))))
end Go.Proofs
namespace Go.Proofs
open Go.Dw Go.RowKit
def Tryz.Ay:Ac:=⟨0,0,0,0,0,0,0,.slice none 0 0,[]⟩
set_option maxRecDepth 100000 in
theorem Tryz.zpl {w:World} {av:Value} {acts:List Ac} (h:sN w av acts):
  Calls prog 23 #[av] w fun e w'=> ∃b,e= .returned (.bool b)∧(b=true→acts.length≤60∧ ∀x∈acts,x.sl.length≤100)∧Below w.heap.size w w':=by
 obtain ⟨aa,c,rfl,hr⟩:=h.val;have hl:=h.len;have hok:=h.ok;go_enter func23,ntmps23;go_wp2;refine kF (c':= .loop (bf prog [0,0,1,0,1,23])) (by kernel_rfl) ?_;have post: ∀ {a':Act} {w':World} {b:Bool},a'.defers= []→a'.tmps.getD 2 undef= .bool b→(b=true→acts.length≤60∧ ∀x∈acts,x.sl.length≤100)→Below w.heap.size w w'→
   bodyPost prog f23 (fun e w'=> ∃b,e= .returned (.bool b)∧(b=true→acts.length≤60∧ ∀x∈acts,x.sl.length≤100)∧RowKit.Below w.heap.size w w') .ret a' w':=fun {a' w' b} h1 h2 h3 h4=>
  xR (fn:=f23) (Post:=fun e w'=> ∃b,e= .returned (.bool b)∧(b=true→acts.length≤60∧ ∀x∈acts,x.sl.length≤100)∧RowKit.Below w.heap.size w w') h1 rfl h2 ⟨b,rfl,h3,h4⟩
 have tail: ∀ {a':Act} {w':World} {Q:Exit→Act→World→Prop},a'.tmps.size=24→a'.defers= []→a'.tmps.getD 0 undef= .slice aa acts.length c→(acts.length≤60→ ∀x∈acts,x.sl.length≤100)→Below w.heap.size w w'→
   (∀ a2 w2,bodyPost prog f23 (fun e w'=> ∃b,e= .returned (.bool b)∧(b=true→acts.length≤60∧ ∀x∈acts,x.sl.length≤100)∧RowKit.Below w.heap.size w w') .ret a2 w2→Q .ret a2 w2)→(bf prog [1,1,23]).wp prog Q a' w':=fun {a' w' Q} h1 h2 h3 h4 h5 h6=>by
  have d7:(au 7).den (pJ 0 acts.length Ay (.slice aa acts.length c))=acts.length:=mh (by show (0:Int)≤acts.length;omega) (by show (acts.length:Int)<_;omega);have v4:(pJ 0 acts.length Ay (.slice aa acts.length c)).v 4= .slice aa acts.length c:=rfl;generalize pJ 0 acts.length Ay (.slice aa acts.length c)=ρ at d7 v4;refine ya3 (iM (ρ:=ρ) (K:=fun _=>False) (g:=aU.none) (bl:= []) mixed zEf zF0 (fun b h=>h.elim) trivial trivial eH trivial trivial trivial h1 h2 ?_ (aT.2 trivial)) fun ex a2 w2 hh=> ?_
  ·intro t ht;simp only [Kh,yac,yae,yav] at ht;subst ht;rw [h3];exact ⟨v4.symm,_,_,_,rfl,d7.symm,trivial⟩
  ·obtain ⟨q,hq,hto,lf,hlf,rfl,hsz2,j2,iD,he⟩:=hh;have hb3:=fG he (fun _ h=>h);unfold V5 at hq;simp only [yac,yae,yav] at hq;subst hq;cases hlf;have hs2:=iH he.ret;simp only [AV.aP,AV.val,mV,d7,zag,yaK,ya0,yaR,yaU] at hs2;refine h6 _ _ (post iD hs2 (fun hb=> ?_) (h5.trans (hb3.mono h5.size)));have hb:=ybB hb;exact ⟨by omega,h4 (by omega)⟩
 refine xQ (fun (i:Nat) a' w'=>i≤acts.length∧a'.tmps.size=24∧a'.defers= []∧a'.tmps.getD 0 undef= .slice aa acts.length c∧a'.tmps.getD 3 undef= .int .i64 i∧(∀q,(hq:q<acts.length)→q<i→acts[q].sl.length≤100)∧Below w.heap.size w w')
  (fun i=>acts.length-i) (fun i a1 w1 hI=> ?_) 0 _ _ ⟨yax _,rfl,rfl,rfl,rfl,fun q _ h=>by omega,yag _ _⟩
 obtain ⟨hil,q0,qd,p0,p3,hbd,hb⟩:=hI;have hwi:=Cw i (by omega);by_cases hi:i<acts.length
 ·rcases hr with h0|⟨R,o,rfl,hr⟩
  ·rw [h0] at hi;simp at hi
  have hx:=gL (hr i hi) (hb.block R (yan w _ (hr i hi 0 _ rfl)));have hxo:=hok acts[i] (yaL hi);have hEq: ∃C,acts[i]=C:=⟨_,rfl⟩;obtain ⟨C,hC⟩:=hEq;rw [hC] at hx hxo;have hact:=fun j=>zF3 (ρ:=pJ i acts.length C (.slice (some ⟨R,o,none⟩) acts.length c)) (j:=j) hxo rfl rfl rfl rfl rfl rfl rfl rfl rfl;have d4:(au 4).den (pJ i acts.length C (.slice (some ⟨R,o,none⟩) acts.length c))=C.sl.length:=mh (by show (0:Int)≤C.sl.length;omega) (by have:=hxo.sn;show (C.sl.length:Int)<_;omega);have d6:(au 6).den (pJ i acts.length C (.slice (some ⟨R,o,none⟩) acts.length c))=i:=mh (by show (0:Int)≤i;omega) (by show (i:Int)<_;omega);have d7:(au 7).den (pJ i acts.length C (.slice (some ⟨R,o,none⟩) acts.length c))=acts.length:=mh (by show (0:Int)≤acts.length;omega) (by show (acts.length:Int)<_;omega);have v4:(pJ i acts.length C (.slice (some ⟨R,o,none⟩) acts.length c)).v 4= .slice (some ⟨R,o,none⟩) acts.length c:=rfl;generalize pJ i acts.length C (.slice (some ⟨R,o,none⟩) acts.length c)=ρ at hact d4 d6 d7 v4;have hj1:aJ [(R,o+8*i)] 1=some ⟨R,o+8*i,0,none⟩:=rfl;refine ya3 (iM (ρ:=ρ) (K:=fun _=>False) (g:=aU.none) (bl:= [(R,o+8*i)]) mixed zEj zF2 (fun b h=>h.elim) ⟨jQ hx (by simp [Ac.cells]) (hact _) (fun h=>h),trivial⟩ ⟨fun h=>(by cases h),trivial⟩ eH trivial trivial trivial q0 qd ?_ (aZ.2 ⟨by rw [gT,d6,d7];simp only [yap];omega,aT.2 trivial⟩)) fun ex a2 w2 hh=> ?_
  ·intro t ht;simp only [Kj,yac,yae,yav] at ht;rcases ht with rfl|rfl
   ·rw [p0];exact ⟨v4.symm,_,_,_,rfl,d7.symm,⟨R,o,_,i,rfl,hj1,rfl,d6,hi,rfl⟩,trivial⟩
   ·rw [p3];exact aA d6
  ·obtain ⟨q,hq,hto,lf,hlf,rfl,hsz2,j2,iD,he⟩:=hh;have hb3:=fG he (fun _ h=>h);unfold Wd at hq;simp only [yac,yae,yav] at hq;rcases hq with rfl|rfl|rfl
   all_goals
    simp only [aZ,aT,mV,jY,d4,d6,zag,yap,yat,yaU] at hto;cases hlf;have hs2:=iH he.ret;simp only [AV.aP,AV.val,v4,d6,den_add,zag,hwi,yaK,ya0,yaR,yaU] at hs2
   ·exact post iD hs2 (fun hb=>by cases hb) (hb.trans (hb3.mono hb.size))
   ·refine ⟨i+1,by omega,hi,hsz2,iD,hs2.1,hs2.2,fun q hq hlt=> ?_,hb.trans (hb3.mono hb.size)⟩;by_cases hqi:q=i
    ·subst hqi;rw [hC];omega
    ·exact hbd q hq (by omega)
   ·simp only [sW,Exit.inBlock,Exit.then,yak];rename_i K hK;exact hK _ _ (kF (c':=bf prog [1,1,23]) (by kernel_rfl) (tail hsz2 iD hs2 (fun hh=>by omega) (hb.trans (hb3.mono hb.size)) fun _ _ h=>h))
 ·have hii:i=acts.length:=by omega
  subst hii;have d6:(au 6).den (pJ acts.length acts.length Ay (.slice aa acts.length c))=acts.length:=mh (by show (0:Int)≤acts.length;omega) (by show (acts.length:Int)<_;omega);have d7:(au 7).den (pJ acts.length acts.length Ay (.slice aa acts.length c))=acts.length:=mh (by show (0:Int)≤acts.length;omega) (by show (acts.length:Int)<_;omega);have v4:(pJ acts.length acts.length Ay (.slice aa acts.length c)).v 4= .slice aa acts.length c:=rfl;generalize pJ acts.length acts.length Ay (.slice aa acts.length c)=ρ at d6 d7 v4;refine ya3 (iM (ρ:=ρ) (K:=fun _=>False) (g:=aU.none) (bl:= []) mixed zEh zF1 (fun b h=>h.elim) trivial trivial eH trivial trivial trivial q0 qd ?_ (aZ.2 ⟨by rw [gT,d6,d7];simp,aT.2 trivial⟩)) fun ex a2 w2 hh=> ?_
  ·intro t ht;simp only [Ki,yac,yae,yav] at ht;rcases ht with rfl|rfl
   ·rw [p0];exact ⟨v4.symm,_,_,_,rfl,d7.symm,trivial⟩
   ·rw [p3];exact aA d6
  ·obtain ⟨q,hq,hto,lf,hlf,rfl,hsz2,j2,iD,he⟩:=hh;have hb3:=fG he (fun _ h=>h);unfold V8 at hq;simp only [yac,yae,yav] at hq;subst hq;cases hlf;have hs2:=iH he.ret;simp only [AV.aP,AV.val,v4,yaK,ya0,yaR,yaU] at hs2;simp only [sW,Exit.inBlock,Exit.then,yak];rename_i K hK;refine hK _ _ (kF (c':=bf prog [1,1,23]) (by kernel_rfl) (tail hsz2 iD hs2 (fun _ x hx=> ?_) (hb.trans (hb3.mono hb.size)) fun _ _ h=>h));obtain ⟨q,hq,rfl⟩:=ycn.1 hx;exact hbd q hq hq
open Go.Maps Go.Sort
section
variable {ρ:Val} {w0:World} {K:Nat→Prop} {X:Nat→Prop} {bX:Nat} {S P L Bs B M N:Nat} {r:Tryz.Rg} {b2:Nat} {sk:Nat→Tryz.SS} {gk:Nat→Nat→Int} {rows:Nat→List Tryz.vZ} {k k' q:Nat}
end
end Go.Proofs
namespace Go.Proofs
open Go.Dw Go.RowKit Go.Maps Go.Sort
theorem Tryz.znz (N:Nat) (r:Rg) (s:SS) (g:Nat→Int): ∃x y z,(bW N r s g).1=dM x y z:=by
 unfold bW kH;split
 ·exact ⟨_,_,_,rfl⟩
 ·split<;>exact ⟨_,_,_,rfl⟩
open Go.Deep Go.ChangeShapes Go.WideShapes
section
variable {H:Type} {enc:TypeId×Value→H} {W:World} {sp:Nat→Bool} {held:Bool} {fuel:Nat}
theorem Tryz.RN {α:Type} {p:Nat→α→Prop}: ∀n,(∀i,i<n→ ∃x,p i x)→ ∃l:List α,l.length=n∧ ∀(i:Nat) (hi:i<l.length),p i l[i]
 | 0,_=>⟨[],rfl,fun i hi=>absurd hi (Nat.not_lt_zero i)⟩
 | n+1,h=>by
  obtain ⟨l,hl,hp⟩:=RN n fun i hi=>h i (by omega);obtain ⟨x,hx⟩:=h n (by omega);refine ⟨l++ [x],by simp [hl],fun i hi=> ?_⟩;by_cases hlt:i<l.length
  ·rw [ybR hlt];exact hp i hlt
  ·have e:i=n:=by simp at hi;omega
   subst e;simp only [ybL (by omega:l.length≤i),hl,ydq,List.getElem_singleton];exact hx
theorem Tryz.addr_add (b o n:Nat):(⟨b,o,none⟩:Addr).add n=⟨b,o+n,none⟩:=by
 unfold Addr.add;split
 ·rename_i h;rw [h];rfl
 ·rfl
theorem Tryz.Cn {α:Type} {l:List α} {i:Nat} (h:i<l.length):l[i]? =some l[i]:=yam h
set_option maxRecDepth 100000 in
theorem Tryz.zzZ {cs:List Value} {x:DataW H×List MemPlace} (h:DataW.trod enc prog W 0 sp held fuel 48 cs=some x): ∃s:Sg,cs=s.cells∧s.ok:=by
 obtain ⟨xs,n,rfl,rfl,hl,hx,hf⟩:=ydA underlying48 h;have hl:cs.length=3:=hl.trans (by kernel_rfl);have hx:xs.length=3:=hx
 match cs,hl with
 | [c0,c1,c2],_=>
  have f0:DataW.trod enc prog W 0 sp held n 30 [c0]=xs[0]? :=by
   have:=(show DataW.trod enc prog W 0 sp held n 30 (([c0,c1,c2].drop 0).take (prog.cellsOf 30))=xs[0]? from hf 0 _ rfl);rw [show prog.cellsOf 30=1 from by kernel_rfl] at this;exact this
  have f1:DataW.trod enc prog W 0 sp held n 46 [c1]=xs[1]? :=by
   have:=(show DataW.trod enc prog W 0 sp held n 46 (([c0,c1,c2].drop 1).take (prog.cellsOf 46))=xs[1]? from hf 1 _ rfl);rw [show prog.cellsOf 46=1 from by kernel_rfl] at this;exact this
  have f2:DataW.trod enc prog W 0 sp held n 4 [c2]=xs[2]? :=by
   have:=(show DataW.trod enc prog W 0 sp held n 4 (([c0,c1,c2].drop 2).take (prog.cellsOf 4))=xs[2]? from hf 2 _ rfl);rw [show prog.cellsOf 4=1 from by kernel_rfl] at this;exact this
  rw [Cn (by omega)] at f0 f1 f2;obtain ⟨n0,e0,_,w0⟩:=ybM underlying30 f0;obtain ⟨n1,e1,_,w1⟩:=ybM underlying46 f1;obtain ⟨b,e2,_⟩:=DataW.trod_bool underlying4 f2;simp only [yaR,yaU] at e0 e1 e2;subst e0 e1 e2;have b0:=bounds_u64 w0;have b1:=bounds_u32 w1;exact ⟨⟨n0,n1,b⟩,rfl,by show 0≤n0;omega,by show n0<_;omega,by show 0≤n1;omega,by show n1<_;omega⟩
theorem Tryz.Z8 {R:Nat}: ∀ {l:List Sg} {o:Nat},(∀(i:Nat) (hi:i<l.length),W.rangeAt R (o+3*i) l[i].cells)→W.rangeAt R o (dX l)
 | [], o,_=>fun j v hv=>by simp [dX] at hv
 | x::r,o,h=>fun j v hv=>by
  have h0:=h 0 (by simp);have hr:=Z8 (R:=R) (l:=r) (o:=o+3) fun i hi=>by
   have:=h (i+1) (by simpa using hi);rw [show o+3*(i+1)=o+3+3*i by omega] at this;simpa using this
  have hv:(x.cells++dX r)[j]? =some v:=hv;by_cases hj:j<3
  ·rw [yaX (by simpa [Sg.cells] using hj)] at hv;exact h0 j v hv
  ·rw [yaY (by simp [Sg.cells];omega)] at hv;have:=hr (j-3) v hv;rw [show o+3+(j-3)=o+j by omega] at this;exact this
set_option maxRecDepth 100000 in
theorem Tryz.zwI {v:Value} {x:DataW H×List MemPlace} (h:DataW.trod enc prog W 0 sp held fuel 36 [v]=some x) (hw: ∀n∈x.1.weights prog 36,n≤reachBytes):
  ∃ l,aL (fun _=>False) W v l∧l.length<4000000000000000:=by
 rcases DataW.trod_slice underlying36 h with ⟨e,_⟩|⟨a,len,cap,elems,rest,n,rfl,e,rfl,_,hlc,hcap,hel,hc,_⟩
 ·simp only [yaR,yaU] at e;subst e;exact ⟨[],aL.none,by decide⟩
 ·simp only [yaR,yaU] at e;subst e;have hb:prog.bytesOf 48=16:=by kernel_rfl
  have hsz:=hw ((elems.length+rest.length)*16) (by
   unfold DataW.weights;rw [underlying36];simp [hb])
  unfold reachBytes at hsz;obtain ⟨l,hll,hl⟩:=RN (p:=fun i (s:Sg)=>W.cells? 0 (a.add (i*3)) 3=some s.cells∧s.ok) len fun i hi=>by
   have:=hc i hi;rw [Cn (by omega)] at this;obtain ⟨cs,h1,h2⟩:=yc4.1 this;obtain ⟨s,rfl,hs⟩:=zzZ h2;exact ⟨s,h1,hs⟩
  subst hll;refine ⟨l,⟨some a,cap,rfl,fun s hs=> ?_,?_⟩,by omega⟩
  ·obtain ⟨i,hi,rfl⟩:=ycn.1 hs;exact (hl i hi).2
  ·by_cases h0:l= []
   ·exact .inl h0
   ·right;obtain ⟨ab,ao,aq⟩:=a;have hp:0<l.length:=ybt.2 h0;have hs:aq=none:=cell_spot ((yc5 (hl 0 hp).1).2.2 0 (by decide));subst hs;refine ⟨ab,ao,rfl,fun h=>h,Z8 fun i hi j y hy=> ?_⟩;have hj:j<3:=by
     have:=yay.1 hy;simpa [Sg.cells] using this.1
    have:=(yc5 (hl i hi).1).2.2 j hj;rw [hy,addr_add,addr_add] at this;rw [show ao+3*i+j=ao+i*3+j by omega];exact this
end
end Go.Proofs
namespace Go.Proofs
open Go.Dw Go.RowKit Go.Maps Go.Sort Go.Deep Go.ChangeShapes Go.WideShapes
section
variable {H:Type} {enc:TypeId×Value→H} {W:World} {sp:Nat→Bool} {held:Bool} {fuel:Nat}
set_option maxRecDepth 100000 in
theorem Tryz.zy3 {cs:List Value} {x:DataW H×List MemPlace} (h:DataW.trod enc prog W 0 sp held fuel 74 cs=some x): ∃a l f y:Int,cs= [.int .u64 a,.int .u32 l,.int .u16 f,.int .u16 y]∧(0≤a∧a<18446744073709551616)∧(0≤l∧l<4294967296)∧(0≤f∧f<65536)∧(0≤y∧y<65536):=by
 obtain ⟨xs,n,rfl,rfl,hl,hx,hf⟩:=ydA underlying74 h;have hl:cs.length=4:=hl.trans (by kernel_rfl);have hx:xs.length=4:=hx
 match cs,hl with
 | [c0,c1,c2,c3],_=>
  have f0:DataW.trod enc prog W 0 sp held n 30 [c0]=xs[0]? :=by
   have:=(show DataW.trod enc prog W 0 sp held n 30 (([c0,c1,c2,c3].drop 0).take (prog.cellsOf 30))=xs[0]? from hf 0 _ rfl);rw [show prog.cellsOf 30=1 from by kernel_rfl] at this;exact this
  have f1:DataW.trod enc prog W 0 sp held n 46 [c1]=xs[1]? :=by
   have:=(show DataW.trod enc prog W 0 sp held n 46 (([c0,c1,c2,c3].drop 1).take (prog.cellsOf 46))=xs[1]? from hf 1 _ rfl);rw [show prog.cellsOf 46=1 from by kernel_rfl] at this;exact this
  have f2:DataW.trod enc prog W 0 sp held n 72 [c2]=xs[2]? :=by
   have:=(show DataW.trod enc prog W 0 sp held n 72 (([c0,c1,c2,c3].drop 2).take (prog.cellsOf 72))=xs[2]? from hf 2 _ rfl);rw [show prog.cellsOf 72=1 from by kernel_rfl] at this;exact this
  have f3:DataW.trod enc prog W 0 sp held n 72 [c3]=xs[3]? :=by
   have:=(show DataW.trod enc prog W 0 sp held n 72 (([c0,c1,c2,c3].drop 3).take (prog.cellsOf 72))=xs[3]? from hf 3 _ rfl);rw [show prog.cellsOf 72=1 from by kernel_rfl] at this;exact this
  rw [Cn (by omega)] at f0 f1 f2 f3;obtain ⟨n0,e0,_,w0⟩:=ybM underlying30 f0;obtain ⟨n1,e1,_,w1⟩:=ybM underlying46 f1;obtain ⟨n2,e2,_,w2⟩:=ybM underlying72 f2;obtain ⟨n3,e3,_,w3⟩:=ybM underlying72 f3;simp only [yaR,yaU] at e0 e1 e2 e3;subst e0 e1 e2 e3;have b0:=bounds_u64 w0;have b1:=bounds_u32 w1;have b2:=bounds_u16 w2;have b3:=bounds_u16 w3;exact ⟨n0,n1,n2,n3,rfl,by omega,by omega,by omega,by omega⟩
set_option maxRecDepth 100000 in
theorem Tryz.zB8 {cs:List Value} {x:DataW H×List MemPlace} (h:DataW.trod enc prog W 0 sp held fuel 76 cs=some x) (hw: ∀n∈x.1.weights prog 76,n≤reachBytes): ∃c:Ac,cs=c.cells∧c.ok W:=by
 obtain ⟨xs,n,rfl,rfl,hl,hx,hf⟩:=ydA underlying76 h;have hl:cs.length=8:=hl.trans (by kernel_rfl);have hx:xs.length=5:=hx
 match cs,hl with
 | [c0,c1,c2,c3,c4,c5,c6,c7],_=>
  have f0:DataW.trod enc prog W 0 sp held n 3 [c0]=xs[0]? :=by
   have:=(show DataW.trod enc prog W 0 sp held n 3 (([c0,c1,c2,c3,c4,c5,c6,c7].drop 0).take (prog.cellsOf 3))=xs[0]? from hf 0 _ rfl);rw [show prog.cellsOf 3=1 from by kernel_rfl] at this;exact this
  have f1:DataW.trod enc prog W 0 sp held n 3 [c1]=xs[1]? :=by
   have:=(show DataW.trod enc prog W 0 sp held n 3 (([c0,c1,c2,c3,c4,c5,c6,c7].drop 1).take (prog.cellsOf 3))=xs[1]? from hf 1 _ rfl);rw [show prog.cellsOf 3=1 from by kernel_rfl] at this;exact this
  have f2:DataW.trod enc prog W 0 sp held n 46 [c2]=xs[2]? :=by
   have:=(show DataW.trod enc prog W 0 sp held n 46 (([c0,c1,c2,c3,c4,c5,c6,c7].drop 2).take (prog.cellsOf 46))=xs[2]? from hf 2 _ rfl);rw [show prog.cellsOf 46=1 from by kernel_rfl] at this;exact this
  have f3:DataW.trod enc prog W 0 sp held n 74 [c3,c4,c5,c6]=xs[3]? :=by
   have:=(show DataW.trod enc prog W 0 sp held n 74 (([c0,c1,c2,c3,c4,c5,c6,c7].drop 3).take (prog.cellsOf 74))=xs[3]? from hf 3 _ rfl);rw [show prog.cellsOf 74=4 from by kernel_rfl] at this;exact this
  have f4:DataW.trod enc prog W 0 sp held n 36 [c7]=xs[4]? :=by
   have:=(show DataW.trod enc prog W 0 sp held n 36 (([c0,c1,c2,c3,c4,c5,c6,c7].drop 7).take (prog.cellsOf 36))=xs[4]? from hf 4 _ rfl);rw [show prog.cellsOf 36=1 from by kernel_rfl] at this;exact this
  rw [Cn (by omega)] at f0 f1 f2 f3 f4;obtain ⟨n0,e0,_,w0⟩:=ybM underlying3 f0;obtain ⟨n1,e1,_,w1⟩:=ybM underlying3 f1;obtain ⟨n2,e2,_,w2⟩:=ybM underlying46 f2;obtain ⟨a,l,f,y,e3,ha,hl2,hf2,hy⟩:=zy3 f3;obtain ⟨sl,hsl,hsn⟩:=zwI f4 fun m hm=>hw m (by
   unfold DataW.weights;rw [underlying76];exact DataW.weights_mem_each (j:=4) (t:=36) (d:=xs[4].1) rfl (by rw [ya5,Cn (by omega)];rfl) m hm)
  simp only [yaR,yaU] at e0 e1 e2 e3;obtain ⟨e3,e4,e5,e6⟩:=e3;subst e0 e1 e2 e3 e4 e5 e6;have b0:=bounds_i64 w0;have b1:=bounds_i64 w1;have b2:=bounds_u32 w2;exact ⟨⟨n0,n1,n2,a,l,f,y,c7,sl⟩,rfl,⟨by show _≤n0;omega,by show n0<_;omega⟩,⟨by show _≤n1;omega,by show n1<_;omega⟩,⟨by show 0≤n2;omega,by show n2<_;omega⟩,ha,hl2,hf2,hy,hsl,hsn⟩
theorem Tryz.XV {e:TypeId}: ∀ {l:List (DataW H)} {d:DataW H},d∈l→ ∀n∈d.weights prog e,n∈DataW.weightsAll prog e l
 | x::r,d,h,n,hn=>by
  unfold DataW.weightsAll;rcases yac.1 h with rfl|h
  ·exact yco _ hn
  ·exact ycg _ (XV h n hn)
set_option maxRecDepth 100000 in
theorem Tryz.aad {v:Value} {x:DataW H×List MemPlace} (h:DataW.trod enc prog W 0 sp held fuel 68 [v]=some x) (hw: ∀n∈x.1.weights prog 68,n≤reachBytes):
  ∃ l,sN W v l:=by
 rcases DataW.trod_slice underlying68 h with ⟨e,_⟩|⟨a,len,cap,elems,rest,n,rfl,e,rfl,_,hlc,hcap,hel,hc,_⟩
 ·simp only [yaR,yaU] at e;subst e;exact ⟨[],⟨⟨none,0,rfl,.inl rfl⟩,fun x hx=>(by cases hx),by decide⟩⟩
 ·simp only [yaR,yaU] at e;subst e;have hb:prog.bytesOf 76=64:=by kernel_rfl
  have hc8:prog.cellsOf 76=8:=by kernel_rfl
  have hws: ∀m,(m=(elems.length+rest.length)*64∨m∈DataW.weightsAll prog 76 (elems.map (·.1)))→m≤reachBytes:=fun m hm=>hw m (by
   unfold DataW.weights;rw [underlying68];simp only [ybw,hb,yac,yaT];rcases hm with hm|hm
   ·exact .inl hm
   ·exact .inr (.inl hm))
  have hsz:=hws _ (.inl rfl);unfold reachBytes at hsz;rw [hc8] at hc;obtain ⟨l,hll,hl⟩:=RN (p:=fun i (s:Ac)=>W.cells? 0 (a.add (i*8)) 8=some s.cells∧s.ok W) len fun i hi=>by
   have:=hc i hi;rw [Cn (by omega)] at this;obtain ⟨cs,h1,h2⟩:=yc4.1 this;obtain ⟨s,rfl,hs⟩:=zB8 h2 fun m hm=>hws m (.inr (XV (ya6.2 ⟨_,yaL _,rfl⟩) m hm));exact ⟨s,h1,hs⟩
  subst hll;refine ⟨l,⟨⟨some a,cap,rfl,?_⟩,fun s hs=> ?_,by omega⟩⟩
  ·by_cases h0:l= []
   ·exact .inl h0
   ·right;obtain ⟨ab,ao,aq⟩:=a;have hp:0<l.length:=ybt.2 h0;have hs:aq=none:=cell_spot ((yc5 (hl 0 hp).1).2.2 0 (by decide));subst hs;refine ⟨ab,ao,rfl,fun i hi j y hy=> ?_⟩;have hj:j<8:=by
     have:=yay.1 hy;simpa [Ac.cells] using this.1
    have:=(yc5 (hl i hi).1).2.2 j hj;rw [hy,addr_add,addr_add] at this;rw [show ao+8*i+j=ao+i*8+j by omega];exact this
  ·obtain ⟨i,hi,rfl⟩:=ycn.1 hs;exact (hl i hi).2
end
end Go.Proofs
namespace Go.Proofs
open Go.Dw
def Tryz.zoz:List aK:= []
def Tryz.zsO:List Sh:= [.ro [.int .u64 (.lit 0),.int .u64 (.lit 20000)]]
def Tryz.zoA:List AV:= [.sl 1 0 1 (.known 1)]
def Tryz.zAB:List (SB×Bool):= []
def Tryz.zw9:List Leaf:= [
 ⟨.aH [.ptr 4 0,.int .i64 (.lit 0)],[(3,[.int .u64 (.lit 0),.int .u64 (.lit 20000)]),(4,[.sl 3 0 1 (.upto 0),.sl 7 0 1 (.upto 0)]),(5,(List.replicate 20000 (.int .u8 (.lit 0)))),(7,[.sl 5 0 20000 (.known 20000)])],[],0,[3,4,5,7]⟩]
def Tryz.zDG:List (List (SB×Bool)×Nat):= [
 ([], 0)]
theorem Tryz.zAA:(ev prog (bG zoz) 100000 (.call 9 zoA (bn 0 zsO) (cK zw9 0))).ways zAB=some zDG:=by kernel_rfl
theorem Tryz.zDH:(bJ zsO&&bI zoz&&AV.bQ zoA&&dx zw9)=true:=by kernel_rfl
end Go.Proofs
namespace Go.Proofs
open Go.RowKit Go.Maps Go.Sort
structure Tryz.bO (w:World) (P L Bs B N:Nat) (g:Nat→Int):Prop where
 p0: ∃c,w.cell? ⟨P,0,none⟩=some (.slice (some ⟨L,0,none⟩) 1 c)
 p1: ∃c,w.cell? ⟨P,1,none⟩=some (.slice (some ⟨Bs,0,none⟩) 1 c)
 l0:w.cell? ⟨L,0,none⟩=some (.int .u64 0)
 l1:w.cell? ⟨L,1,none⟩=some (.int .u64 N)
 b0:w.cell? ⟨Bs,0,none⟩=some (.slice (some ⟨B,0,none⟩) N N)
 full: ∀j,j<N→w.cell? ⟨B,j,none⟩=some (.int .u8 (g j))
 free: ∀j,j<N→w.frozen? ⟨B,j,none⟩=false
 byte: ∀j,0≤g j∧g j<256
 pb:P≠B
 lb:L≠B
 sb:Bs≠B
 bl:B<w.heap.size
section
variable {w w':World} {P L Bs B N:Nat} {g g':Nat→Int}
theorem Tryz.bO.pl (h:bO w P L Bs B N g):P<w.heap.size:=by obtain ⟨c,q⟩:=h.p1;exact yan w _ q
theorem Tryz.bO.ll (h:bO w P L Bs B N g):L<w.heap.size:=yan w _ h.l0
theorem Tryz.bO.sl (h:bO w P L Bs B N g):Bs<w.heap.size:=yan w _ h.b0
theorem Tryz.bO.kept (h:bO w P L Bs B N g) (hg: ∀k,k<w.heap.size→(k=P∨k=L∨k=Bs∨k=B)→w'.heap[k]? =w.heap[k]?) (hs:w.heap.size≤w'.heap.size):bO w' P L Bs B N g:=by
 have eP:=hg P h.pl (Or.inl rfl);have eL:=hg L h.ll (Or.inr (Or.inl rfl));have eS:=hg Bs h.sl (Or.inr (Or.inr (Or.inl rfl)));have eB:=hg B h.bl (Or.inr (Or.inr (Or.inr rfl)));refine ⟨?_,?_,?_,?_,?_,fun j hj=> ?_,fun j hj=> ?_,h.byte,h.pb,h.lb,h.sb,yad h.bl hs⟩
 ·obtain ⟨c,h0⟩:=h.p0;exact ⟨c,by rw [yao (a:=⟨P,0,none⟩) eP];exact h0⟩
 ·obtain ⟨c,h0⟩:=h.p1;exact ⟨c,by rw [yao (a:=⟨P,1,none⟩) eP];exact h0⟩
 ·rw [yao (a:=⟨L,0,none⟩) eL];exact h.l0
 ·rw [yao (a:=⟨L,1,none⟩) eL];exact h.l1
 ·rw [yao (a:=⟨Bs,0,none⟩) eS];exact h.b0
 ·rw [yao (a:=⟨B,j,none⟩) eB];exact h.full j hj
 ·rw [ycC (a:=⟨B,j,none⟩) eB];exact h.free j hj
theorem Tryz.bO.below (h:bO w P L Bs B N g) (hb:Below w.heap.size w w'):bO w' P L Bs B N g:=h.kept (fun k hk _=>hb.block k hk) hb.size
theorem Tryz.bO.congr (h:bO w P L Bs B N g) (hf: ∀j,g' j=g j):bO w P L Bs B N g':=by
 have:g'=g:=funext hf;rw [this];exact h
theorem Tryz.bO.Ew (h:bO w P L Bs B N g) (j:Nat) (hj:j<N) (x:Int) (hx0:0≤x) (hx1:x<256):bO (w.setCell ⟨B,j,none⟩ (.int .u8 x)) P L Bs B N (fun q=>if q=j then x else g q):=by
 have hk: ∀k,k≠B→(w.setCell ⟨B,j,none⟩ (.int .u8 x)).heap[k]? =w.heap[k]? :=fun k hk=>yah w _ _ k hk;have eP:=hk P h.pb;have eL:=hk L h.lb;have eS:=hk Bs h.sb;refine ⟨?_,?_,?_,?_,?_,fun q hq=> ?_,fun q hq=> ?_,fun q=> ?_,h.pb,h.lb,h.sb,yad h.bl (by simp)⟩
 ·obtain ⟨c,h0⟩:=h.p0;exact ⟨c,by rw [yao (a:=⟨P,0,none⟩) eP];exact h0⟩
 ·obtain ⟨c,h0⟩:=h.p1;exact ⟨c,by rw [yao (a:=⟨P,1,none⟩) eP];exact h0⟩
 ·rw [yao (a:=⟨L,0,none⟩) eL];exact h.l0
 ·rw [yao (a:=⟨L,1,none⟩) eL];exact h.l1
 ·rw [yao (a:=⟨Bs,0,none⟩) eS];exact h.b0
 ·by_cases hqj:q=j
  ·subst hqj;rw [yak rfl];exact ybO _ _ _ (by rw [h.full q hq];rfl)
  ·rw [yai hqj,ycu w ⟨B,j,none⟩ ⟨B,q,none⟩ _ (fun e=>hqj (yaH Addr.off e).symm)];exact h.full q hq
 ·rw [ydd];exact h.free q hq
 ·by_cases hqj:q=j
  ·rw [yak hqj];exact ⟨hx0,hx1⟩
  ·rw [yai hqj];exact h.byte q
theorem Tryz.bO.range (h:bO w P L Bs B N g) (a n:Nat) (hn:a+n≤N):w.rangeAt B a (row g a n):=by
 intro j v hv;simp only [row,ya5] at hv;rcases ybT j n with hj|hj
 ·rw [ybY hj] at hv;simp only [yaJ,ybP] at hv;rw [←hv];exact h.full (a+j) (by omega)
 ·rw [yaZ (by simp;omega)] at hv;cases hv
end
set_option maxRecDepth 100000 in
theorem Tryz.Fx (P L Bs B N a k:Nat) (g:Nat→Int) (w:World) (st:bO w P L Bs B N g) (hN:N≤1048576) (hk:1≤k) (hin:a+k≤N):
  Calls prog 51 #[.pointer (some ⟨P,0,none⟩),.int .u64 a,.int .u64 k] w fun e w'=>e= .returned (.tuple #[.int .i64 0,.int .i64 a])∧Below w.heap.size w w':=by
 obtain ⟨lc,c0⟩:=st.p0;have c2:=st.l0;have c3:=st.l1;have ha:IntKind.wrap .u64 ((N:Int)-k)=N-k:=wrap_u64 _ (by omega) (by omega);have rG:IntKind.wrap .u64 (a:Int)=a:=wrap_u64 _ (by omega) (by omega);have hwb:IntKind.wrap .i64 (a:Int)=a:=by unfold IntKind.wrap;simp [IntKind.signed,IntKind.bits];omega
 have hkn:(k:Int)≤N:=by omega
 have hak:(a:Int)≤N-k:=by omega
 have hk1:(1:Int)≤k:=by omega
 have ha0:(0:Int)≤a:=by omega
 have hb:=(yag _ w).alloc (yab _) (.cells #[.int .u64 0,.int .u64 N] 42);go_enter func51,ntmps51;go_wp2_with fail;go_loopw [8] (fun i wr=>i= .int .i64 0∧wr=w) (fun _ _=>0)
 case atStart=>exact ⟨rfl,rfl⟩
 case round=>
  obtain ⟨rfl,rfl⟩:=hrel;go_wp2;go_quiet (fail);go_wp2;go_ret2;exact ⟨rfl,below_drewN hb _⟩
set_option maxRecDepth 100000 in
theorem Tryz.QB (P L Bs B N:Nat) (a k:Int) (g:Nat→Int) (w:World) (st:bO w P L Bs B N g) (hN:N≤1048576) (ha0:0≤a) (ha1:a<18446744073709551616) (hk0:0≤k) (hk1:k<18446744073709551616) (hout: ¬(1≤k∧a+k≤N)):
  Calls prog 51 #[.pointer (some ⟨P,0,none⟩),.int .u64 a,.int .u64 k] w fun e w'=>e= .returned (.tuple #[.int .i64 (-1),.int .i64 0])∧Below w.heap.size w w':=by
 obtain ⟨lc,c0⟩:=st.p0;have c2:=st.l0;have c3:=st.l1;have hb:=(yag _ w).alloc (yab _) (.cells #[.int .u64 0,.int .u64 N] 42);have rG:IntKind.wrap .u64 a=a:=wrap_u64 _ (by omega) (by omega);go_enter func51,ntmps51;go_wp2_with fail;go_loopw [8] (fun i wr=>(i= .int .i64 0∧wr=w)∨(i= .int .i64 1∧wr=w.alloc (.cells #[.int .u64 0,.int .u64 N] 42))) (fun i _=>1-(RowKit.intOf i).toNat)
 case atStart=>exact .inl ⟨rfl,rfl⟩
 case round=>
  rcases hrel with ⟨rfl,rfl⟩|⟨rfl,rfl⟩
  ·by_cases h1:1≤k
   ·by_cases h2:k≤N
    ·have h3:IntKind.wrap .u64 ((N:Int)-k)=N-k:=wrap_u64 _ (by omega) (by omega);have h4: ¬a≤N-k:=by omega
     go_wp2;exact ⟨.inr (by simp),by decide⟩
    ·go_wp2;exact ⟨.inr (by simp),by decide⟩
   ·go_wp2;exact ⟨.inr (by simp),by decide⟩
  ·have st2:=st.below hb;obtain ⟨dS,c02⟩:=st2.p0;go_wp2;go_ret2;exact ⟨rfl,hb⟩
end Go.Proofs
namespace Go.Proofs
open Go.RowKit Go.Maps Go.Sort
theorem Tryz.zEx (g:Nat→Int) (hg: ∀j,0≤g j∧g j<256) (a k j:Nat) (v:Int) (hj:j+1≤k) (hk:k≤8) (h:aC g a k=aC g a (j+1)+v*256^(j+1)) (hv:0≤v∧v<256^(k-(j+1))):
  aC g a k=aC g a j+(256*v+g (a+j))*256^j∧(0≤256*v+g (a+j)∧256*v+g (a+j)<256^(k-j))∧(0≤256*v∧256*v<18446744073709551616)∧256*v+g (a+j)<18446744073709551616:=by
 have h2:=hg (a+j);have e1:(256:Int)^(k-j)=256^(k-(j+1))*256:=by rw [←ycT];congr 1;omega
 have e2:(256:Int)^(k-j)≤18446744073709551616:=by
  have q:=ybp (n:=256) (by omega) (show k-j≤8 by omega);rw [show (256:Nat)^8=18446744073709551616 from by decide] at q;have e:((256^(k-j):Nat):Int)=(256:Int)^(k-j):=Int.natCast_pow 256 (k-j);rw [←e];exact Int.ofNat_le.2 q
 refine ⟨?_,by omega,by omega,by omega⟩;rw [h];simp only [aC];rw [ycT,Int.add_mul,ydr 256 v,Int.mul_assoc v 256,ydr 256 (256^j),Int.add_comm (v*_),Int.add_assoc]
set_option maxRecDepth 100000 in
theorem Tryz.zAC (P L Bs B N a k:Nat) (g:Nat→Int) (w:World) (st:bO w P L Bs B N g) (hN:N≤1048576) (hk:k=1∨k=2∨k=4∨k=8) (hin:a+k≤N):
    Calls prog 124 #[.pointer (some ⟨P,0,none⟩),.int .u64 a,.int .i64 k] w fun e w'=>e= .returned (.tuple #[.int .u64 (aC g a k),.int .i64 0])∧Below w.heap.size w w':=by
  have hby:=Fx P L Bs B N a k g w st hN (by omega) hin;have hwk:IntKind.wrap .u64 (k:Int)=k:=wrap_u64 _ (by omega) (by omega);go_enter func124,ntmps124;obtain ⟨k0,hk0,hk1⟩: ∃k0,k0≤k∧k≤k0:=⟨k,yab _,yab _⟩;have DU:k0≤8:=by omega
  have aaE:a+k0≤N:=by omega
  have hk2:k0=1∨k0=2∨k0=4∨k0=8:=by omega
  have hw0:aC g a k=aC g a k0:=by rw [show k=k0 by omega]
  have hwp:(fun _:Unit=>aC g a k)=fun _=>aC g a k0:=by rw [hw0]
  clear hw0;rcases hk with rfl|rfl|rfl|rfl
  all_goals
    go_wp2_with (first
      | (go_at_call 51;refine hby.mono ?_;rintro e w1 ⟨rfl,hb1⟩)
      | go_in)
    go_loopw [10,11] (fun v c wr=> ∃(j:Nat) (x:Int),c= .int .i64 ((j:Int)-1)∧v= .int .u64 x∧j≤k0∧aC g a k0=aC g a j+x*256^j∧(0≤x∧x<256^(k0-j))∧wr=w1) (fun _ c _=>(RowKit.intOf c+1).toNat)
    case atStart=>exact ⟨k0,0,by congr 1;omega,rfl,yab _,by simp,by simp,rfl⟩
    case round=>
      obtain ⟨j,x,rfl,rfl,hj,he,hx,rfl⟩:=hrel;cases j with
      | zero=>
        have hx1:x=aC g a k0:=by simp [aC] at he;exact he.symm
        rw [←ybV hwp ()] at hx1;subst hx1;clear hwp;go_wp2;go_ret2;exact ⟨rfl,hb1⟩
      | succ j=>
        obtain ⟨q1,q2,q3,q4⟩:=zEx g st.byte a k0 j x hj DU he hx;obtain ⟨c1,p1⟩:=(st.below hb1).p1;have p2:=(st.below hb1).b0;have hc:=(st.below hb1).full (a+j) (by omega);have abO:=st.byte (a+j);have w1':IntKind.wrap .u64 (256*x)=256*x:=wrap_u64 _ q3.1 q3.2;have w2':IntKind.wrap .u64 (g (a+j))=g (a+j):=wrap_u64 _ (by omega) (by omega);have w3':IntKind.wrap .u64 (256*x+g (a+j))=256*x+g (a+j):=wrap_u64 _ q2.1 q4;have ej:((j+1:Nat):Int)-1=j:=by push_cast;omega
        rw [ej];go_wp2;exact ⟨⟨j,_,rfl,rfl,by omega,q1,q2,trivial⟩,by simp only [RowKit.intOf];omega⟩
set_option maxRecDepth 100000 in
theorem Tryz.zFH (P L Bs B N k:Nat) (a:Int) (g:Nat→Int) (w:World) (st:bO w P L Bs B N g) (hN:N≤1048576) (hk:k=1∨k=2∨k=4∨k=8) (ha0:0≤a) (ha1:a<18446744073709551616) (hout: ¬a+k≤N):
    Calls prog 124 #[.pointer (some ⟨P,0,none⟩),.int .u64 a,.int .i64 k] w fun e w'=>e= .returned (.tuple #[.int .u64 0,.int .i64 5])∧Below w.heap.size w w':=by
  have hby:=QB P L Bs B N a k g w st hN ha0 ha1 (by omega) (by omega) (by omega);have hwk:IntKind.wrap .u64 (k:Int)=k:=wrap_u64 _ (by omega) (by omega);go_enter func124,ntmps124;rcases hk with rfl|rfl|rfl|rfl
  all_goals
    go_wp2_with (first
      | (go_at_call 51;refine hby.mono ?_;rintro e w1 ⟨rfl,hb1⟩)
      | go_in)
    go_ret2;exact ⟨rfl,hb1⟩
set_option maxRecDepth 100000 in
theorem Tryz.zw0 (P L Bs B N a k:Nat) (v:Int) (g:Nat→Int) (w:World) (st:bO w P L Bs B N g) (hN:N≤1048576) (hk:k=1∨k=2∨k=4∨k=8) (hin:a+k≤N):
    Calls prog 123 #[.pointer (some ⟨P,0,none⟩),.int .u64 a,.int .i64 k,.int .u64 v] w fun e w'=>e= .returned (.int .i64 0)∧bO w' P L Bs B N (gF g a k v)∧Mv (· =B) w w':=by
  have hby:=Fx P L Bs B N a k g w st hN (by omega) hin;have hwk:IntKind.wrap .u64 (k:Int)=k:=wrap_u64 _ (by omega) (by omega);go_enter func123,ntmps123;obtain ⟨k0,hk0,hk1⟩: ∃k0,k0≤k∧k≤k0:=⟨k,yab _,yab _⟩;have DU:k0≤8:=by omega
  have aaE:a+k0≤N:=by omega
  rcases hk with rfl|rfl|rfl|rfl
  all_goals
    go_wp2_with (first
      | (go_at_call 51;refine hby.mono ?_;rintro e w1 ⟨rfl,hb1⟩)
      | go_in)
    go_loopw [11] (fun c wr=> ∃i:Nat,i≤k0∧c= .int .i64 i∧bO wr P L Bs B N (gF g a i v)∧Mv (· =B) w wr) (fun c _=>k0-(RowKit.intOf c).toNat)
    case atStart=>exact ⟨0,yax _,rfl,(st.below hb1).congr (fun j=>zte g a v j),Mv.of_below hb1⟩
    case round=>
      obtain ⟨i,hi,rfl,st',mv⟩:=hrel;by_cases hik:i<k0
      · obtain ⟨c1,p1⟩:=st'.p1;have p2:=st'.b0;have hc:=st'.full (a+i) (by omega);have hf:=st'.free (a+i) (by omega);have hw8:=wrap_u8 (v/2^(8*i));go_wp2;exact ⟨⟨i+1,by omega,by push_cast;rfl,(st'.Ew (a+i) (by omega) _ (ybo _ (by omega)) (ybg _ (by omega))).congr (fun j=>ztd g a i v j),mv.setCell _ _ _ (Or.inl rfl)⟩,by simp only [RowKit.intOf];omega⟩
      · have hge: ¬(i:Int)<k0:=by omega
        have hik':k0=i:=by omega
        subst hik';go_wp2;go_ret;refine ⟨rfl,?_,mv⟩
        first
          | exact st'
          | (rw [show (1:Nat)=k0 by omega];exact st')
          | (rw [show (2:Nat)=k0 by omega];exact st')
          | (rw [show (4:Nat)=k0 by omega];exact st')
          | (rw [show (8:Nat)=k0 by omega];exact st')
set_option maxRecDepth 100000 in
theorem Tryz.zoC (P L Bs B N:Nat) (a n:Int) (g:Nat→Int) (w:World) (st:bO w P L Bs B N g) (hN:N≤1048576) (ha0:0≤a) (ha1:a<18446744073709551616) (hn:0≤n) (hn1:n<18446744073709551616):
    Calls prog 11 #[.pointer (some ⟨P,0,none⟩),.int .u64 a,.int .u64 n] w fun e w'=>e= .returned (.bool (decide (1≤n∧a+n≤N)))∧Below w.heap.size w w':=by
  by_cases h:1≤n∧a+n≤N
  · obtain ⟨a',rfl⟩:=yaO ha0;obtain ⟨n',rfl⟩:=yaO hn;have hby:=Fx P L Bs B N a' n' g w st hN (by omega) (by omega);rw [ya1 h];go_enter func11,ntmps11;go_wp2_with (first
      | (go_at_call 51;refine hby.mono ?_;rintro e w1 ⟨rfl,hb1⟩)
      | go_in)
    go_ret;exact ⟨rfl,hb1⟩
  · have hby:=QB P L Bs B N a n g w st hN ha0 ha1 hn hn1 h;rw [ybd h];go_enter func11,ntmps11;go_wp2_with (first
      | (go_at_call 51;refine hby.mono ?_;rintro e w1 ⟨rfl,hb1⟩)
      | go_in)
    go_ret;exact ⟨rfl,hb1⟩
set_option maxRecDepth 100000 in
theorem Tryz.zAu (P L Bs B N a n:Nat) (g:Nat→Int) (w:World) (st:bO w P L Bs B N g) (hN:N≤1048576) (hn:1≤n) (hin:a+n≤N):
    Calls prog 156 #[.pointer (some ⟨P,0,none⟩),.int .u64 a,.int .i64 n] w fun e w'=> ∃v,e= .returned (.tuple #[v,.int .i64 0])∧w'.ownsRow w.heap.size 5 1 v n (row g a n)∧Below w.heap.size w w':=by
  obtain ⟨i0,hi0,hz0,hz1,hzb⟩:=ybl Ar;have hby:=Fx P L Bs B N a n g w st hN hn hin;have hwk:IntKind.wrap .u64 (n:Int)=n:=wrap_u64 _ (by omega) (by omega);have hkk:a+n-a=n:=by omega
  have hn1: ¬(n:Int)<0:=by omega
  have hn2: ¬(n:Int)=0:=by omega
  have b1:(0:Int)≤a:=by omega
  have b2:(a:Int)≤a+n:=by omega
  have b3:(a:Int)+n≤N:=by omega
  go_enter func156,ntmps156;go_wp2_with (first
    | (go_at_call 51;refine hby.mono ?_;rintro e w1 ⟨rfl,hb1⟩;have st1:=st.below hb1;have wW:=ydt (base:=w1.heap.size) (e:=5) (size:=1) w1 #[] 0 (yab _) (by unfold maxLen;omega) rfl;have hr':=gL (w':=w1.alloc (.cells #[] 5)) (st1.range a n hin) (ycm w1 _ B st1.bl);have hb0:=(yag w1.heap.size w1).alloc (yab _) (.cells #[] 5);obtain ⟨c1,p1⟩:=(st1.below hb0).p1;have p2:=(st1.below hb0).b0)
    | (at_builtin;go_loud (refine ycE _ rfl _ _ 77 rfl w1.heap.size 5 i0 (.int .u8 0) 1 1 underlying77 hi0 hz0 hz1 hzb rfl (by decide) _ _ _ rfl wW ⟨B,a,none⟩ n (N-a) (row g a n) (by show Value.slice (some ⟨B,a,none⟩) (a+n-a) (N-a)=_;rw [hkk]) (by rw [BM];simp) (fun j v hv=>by rw [yck];exact hr' j v hv) (row_one g a n) (by unfold maxLen;omega) (by omega) (by simp) ?_);intro v' w3 hown' hg3 hnil3;go_frame)
    | go_in)
  go_ret2;have hown2:w3.ownsRow w1.heap.size 5 1 v' n (row g a n):=by simpa using hown'
  have hb3:=hb0.grown hg3 (by simp) (fun j hj=>(wW.lt j hj).1);refine ⟨_,rfl,⟨hown2.1,?_⟩,hb1.trans (hb3.mono hb1.size)⟩;rcases hown2.2 with h|⟨g0,cap,cur,h0,h2,h3⟩
  · exact Or.inl h
  · exact Or.inr ⟨g0,cap,cur,h0,yau hb1.size h2,h3⟩
set_option maxRecDepth 100000 in
theorem Tryz.zw6 (P L Bs B N:Nat) (a n:Int) (g:Nat→Int) (w:World) (st:bO w P L Bs B N g) (hN:N≤1048576) (hn:1≤n) (hn2:n≤4294967296) (ha0:0≤a) (ha1:a<18446744073709551616) (hout: ¬a+n≤N):
    Calls prog 156 #[.pointer (some ⟨P,0,none⟩),.int .u64 a,.int .i64 n] w fun e w'=>e= .returned (.tuple #[.slice none 0 0,.int .i64 5])∧Below w.heap.size w w':=by
  have hby:=QB P L Bs B N a n g w st hN ha0 ha1 (by omega) (by omega) (by omega);have hwk:IntKind.wrap .u64 n=n:=wrap_u64 _ (by omega) (by omega);have hn1: ¬n<0:=by omega
  have hn3: ¬n=0:=by omega
  go_enter func156,ntmps156;go_wp2_with (first
    | (go_at_call 51;refine hby.mono ?_;rintro e w1 ⟨rfl,hb1⟩)
    | go_in)
  go_ret2;exact ⟨rfl,hb1⟩
theorem Tryz.bO.tX {P L Bs B N:Nat}: ∀(xs:List Int) (a:Nat) (g:Nat→Int) (w:World),bO w P L Bs B N g→a+xs.length≤N→(∀x∈xs,0≤x∧x<256)→bO (w.setCells B a (xs.map (Value.int .u8))) P L Bs B N (ic g a xs)
 | [], _,_,_,h,_,_=>h
 | x::r,a,g,w,h,hl,hb=>by
  rw [yaK,World.setCells,ic];rw [yaW] at hl;have hx:=hb x (by simp);exact bO.tX r (a+1) _ _ (h.Ew a (by omega) x hx.1 hx.2) (by omega) (fun y hy=>hb y (by simp [hy]))
set_option maxRecDepth 100000 in
theorem Tryz.zwS (P L Bs B N a R o c:Nat) (xs:List Int) (g:Nat→Int) (w:World) (st:bO w P L Bs B N g) (hN:N≤1048576) (hn:1≤xs.length) (hin:a+xs.length≤N) (hb: ∀x∈xs,0≤x∧x<256)
    (hr:w.rangeAt R o (xs.map (Value.int .u8))) (hR:R<w.heap.size):
    Calls prog 76 #[.pointer (some ⟨P,0,none⟩),.int .u64 a,.slice (some ⟨R,o,none⟩) xs.length c] w fun e w'=>e= .returned (.int .i64 0)∧bO w' P L Bs B N (ic g a xs)∧Mv (· =B) w w':=by
  have hby:=Fx P L Bs B N a xs.length g w st hN (by omega) hin;have hwk:IntKind.wrap .u64 (xs.length:Int)=xs.length:=wrap_u64 _ (by omega) (by omega);have hcp:=fun w1 (h:Below w.heap.size w w1)=>run_copy_cells (P:=prog) w1 77 77 3 5 B a (N-a) (N-a) ⟨R,o,none⟩ xs.length c (xs.map (Value.int .u8)) underlying77 (by kernel_rfl) (by rw [ybw];exact (ycL (by omega)).symm) (fun j v hv=>by rw [yck];exact (gL hr (h.block R hR)) j v hv)
    (fun j hj=>by rw [(st.below h).full (a+j) (by simp at hj;omega)];rfl) (fun j hj=>(st.below h).free (a+j) (by simp at hj;omega)) (fun v hv=>by obtain ⟨x,_,rfl⟩:=ya6.1 hv;rfl)
  rw [ybw] at hcp;go_enter func76,ntmps76;have hn0: ¬(xs.length:Int)=0:=by omega
  have b1:(0:Int)≤a:=by omega
  have b2:(a:Int)≤N:=by omega
  go_wp2_with (first
    | (go_at_call 51;refine hby.mono ?_;rintro e w1 ⟨rfl,hb1⟩;have hcp1:=hcp _ hb1;obtain ⟨c1,p1⟩:=(st.below hb1).p1;have p2:=(st.below hb1).b0)
    | go_in)
  go_ret;exact ⟨rfl,(st.below hb1).tX xs a g _ hin hb,(Mv.of_below hb1).grown (Pf B _ _ _) (Or.inl rfl)⟩
set_option maxRecDepth 100000 in
theorem Tryz.zvd (P L Bs B N:Nat) (g:Nat→Int) (w:World) (st:bO w P L Bs B N g) (h1:1≤N) (hN:N≤1048576):
    Calls prog 47 #[.pointer (some ⟨P,0,none⟩)] w fun e w'=> ∃v,e= .returned v∧w'.ownsRow w.heap.size 5 1 v N (row g 0 N)∧Below w.heap.size w w':=by
  obtain ⟨i0,hi0,hz0,hz1,hzb⟩:=ybl Ar;have zi:w.ownsRow w.heap.size 5 1 (.slice none 0 0) 0 []:=⟨rfl,.inl ⟨rfl,rfl⟩⟩;obtain ⟨q1,p1⟩:=st.p1;have p2:=st.b0;have hr1:=st.range 0 N (by omega);go_enter func47,ntmps47;go_wp2;go_loopw [3,4] (fun v i w2=>(i= .int .i64 0∧v= .slice none 0 0∧w2=w)∨(i= .int .i64 1∧w2.ownsRow w.heap.size 5 1 v N (row g 0 N)∧Below w.heap.size w w2)) (fun _ i _=>1-(RowKit.intOf i).toNat)
  case atStart=>exact Or.inl ⟨rfl,rfl,rfl⟩
  case round=>
    rcases hrel with ⟨rfl,rfl,rfl⟩|⟨rfl,hrow2,hb2⟩
    · go_wp2_with (first
        | (at_builtin;go_loud (refine ycE _ rfl _ _ 77 rfl _ 5 i0 (.int .u8 0) 1 1 underlying77 hi0 hz0 hz1 hzb rfl (by decide) _ _ _ rfl zi ⟨B,0,none⟩ N N (row g 0 N) rfl (by rw [BM];simp) (fun j v hv=>by rw [yck];exact hr1 j v hv) (row_one g 0 N) (by unfold maxLen;omega) (by omega) (yab _) ?_);intro v' w3 hown' hg3 hnil3;go_frame)
        | go_in)
      exact ⟨Or.inr ⟨rfl,by simpa using hown',(yag _ _).grown hg3 (yab _) (fun j hj=>(zi.lt j hj).1)⟩,by simp [RowKit.intOf]⟩
    · obtain ⟨q2,rR⟩:=(st.below hb2).p1;go_wp2;go_ret;exact ⟨_,rfl,hrow2,hb2⟩
end Go.Proofs
namespace Go.Proofs
open Go.Dw Go.RowKit
theorem Tryz.zr3 {ρ:Val} {lc:Nat→Dw.Loc}: ∀n:Nat,AV.aP ρ lc (List.replicate n (.int .u8 (.lit 0)))=List.replicate n (.int .u8 0)
 | 0=>rfl
 | n+1=>by
  rw [List.replicate_succ,List.replicate_succ,←zr3 n];rfl
set_option maxRecDepth 10000 in
theorem Tryz.zxa {w:World} {R:Nat} (c0:w.cell? ⟨R,0,none⟩=some (.int .u64 0)) (c1:w.cell? ⟨R,1,none⟩=some (.int .u64 20000)):
  Calls prog 9 #[.slice (some ⟨R,0,none⟩) 1 1] w fun e w'=> ∃P L Bs B,e= .returned (.tuple #[.pointer (some ⟨P,0,none⟩),.int .i64 0])∧bO w' P L Bs B 20000 (fun _=>0)∧Below w.heap.size w w'∧w.heap.size≤P∧w.heap.size≤L∧w.heap.size≤Bs∧w.heap.size≤B:=by
 obtain ⟨ρ,hρ⟩: ∃ρ:Val,ρ=BH [] [] []:=⟨_,rfl⟩;have hj1:aJ [(R,0)] 1=some ⟨R,0,0,none⟩:=rfl;have r2:w.rangeAt R 0 [.int .u64 0,.int .u64 20000]:=fun j v hv=>by
  match j,hv with
  | 0,hv=>cases hv;exact c0
  | 1,hv=>cases hv;exact c1
 refine yas (eD (ρ:=ρ) (K:=fun _=>False) (g:=aU.none) (bl:= [(R,0)]) (vals:= [.slice (some ⟨R,0,none⟩) 1 1]) mixed zAA zDH (fun b h=>h.elim)
  ⟨jQ r2 (by simp) (ai (aA rfl) (ai (aA rfl) RL.nil)) (fun h=>h),trivial⟩ ⟨fun hh=>(by cases hh),trivial⟩ eH trivial (ai ⟨⟨R,0,0,none⟩,hj1,by simp [Wu],rfl⟩ RL.nil) (aT.2 trivial)) fun e w' hh=> ?_
 obtain ⟨_,j,he⟩:=iN hh;have hb:=fG he (fun _ h=>h);have hr:=he.ret;simp only [AV.val,AV.aP,zag] at hr;have n4:=he.names 4 (by simp [AV.names,AV.lG]);obtain ⟨f4,o4⟩:=he.fresh 4 (by simp) _ n4;have rw4:=he.rows.2.1 _ n4;have n3:=he.Ev.2.1 _ n4 3 (by simp [AV.names,AV.lG]);have n7:=he.Ev.2.1 _ n4 7 (by simp [AV.names,AV.lG]);obtain ⟨f3,o3⟩:=he.fresh 3 (by simp) _ n3;obtain ⟨f7,o7⟩:=he.fresh 7 (by simp) _ n7;have n5:=he.Ev.2.2.2.1 _ n7 5 (by simp [AV.names,AV.lG]);obtain ⟨f5,o5⟩:=he.fresh 5 (by simp) _ n5;have w3:=(he.rows.1 _ n3).2 f3 o3;have w4:=rw4.2 f4 o4;have w7:=(he.rows.2.2.2.1 _ n7).2 f7 o7;have w5:=(he.rows.2.2.1 _ n5).2 f5 o5;simp only [AV.val,AV.aP,zag,o3,o5,o7] at w3 w4 w7;rw [show (5,List.replicate 20000 (AV.int IntKind.u8 (SE.lit 0))).2=List.replicate 20000 (AV.int IntKind.u8 (SE.lit 0)) from rfl,zr3] at w5;rw [o4] at hr;have z: ∀ {n m:Nat} (hn: ∃r∈ [(3,[AV.int IntKind.u64 (SE.lit 0),AV.int IntKind.u64 (SE.lit 20000)]),(4,[AV.sl 3 0 1 (kJ.upto 0),AV.sl 7 0 1 (kJ.upto 0)]),(5,List.replicate 20000 (AV.int IntKind.u8 (SE.lit 0))),(7,[AV.sl 5 0 20000 (kJ.known 20000)])],r.1=n) (hm: ∃r∈ [(3,[AV.int IntKind.u64 (SE.lit 0),AV.int IntKind.u64 (SE.lit 20000)]),(4,[AV.sl 3 0 1 (kJ.upto 0),AV.sl 7 0 1 (kJ.upto 0)]),(5,List.replicate 20000 (AV.int IntKind.u8 (SE.lit 0))),(7,[AV.sl 5 0 20000 (kJ.known 20000)])],r.1=m),n≠m→j n=some (dH j n)→j m=some (dH j m)→w.heap.size≤(dH j n).blk→(dH j n).blk≠(dH j m).blk:=fun hn hm hne h1 h2 h3 e=>by
  obtain ⟨r,hr,rfl⟩:=hn;obtain ⟨r',hr',rfl⟩:=hm;exact he.apart r hr r' hr' hne _ _ h1 h2 e (.inl h3)
 have g3:w.heap.size≤(dH j 3).blk:=f3.elim id False.elim;have g4:w.heap.size≤(dH j 4).blk:=f4.elim id False.elim;have g5:w.heap.size≤(dH j 5).blk:=f5.elim id False.elim;have g7:w.heap.size≤(dH j 7).blk:=f7.elim id False.elim;have q45:=z ⟨_,.tail _ (.head _),rfl⟩ ⟨_,.tail _ (.tail _ (.head _)),rfl⟩ (show (4:Nat)≠5 by decide) n4 n5 g4;have q35:=z ⟨_,.head _,rfl⟩ ⟨_,.tail _ (.tail _ (.head _)),rfl⟩ (show (3:Nat)≠5 by decide) n3 n5 g3;have q75:=z ⟨_,.tail _ (.tail _ (.tail _ (.head _))),rfl⟩ ⟨_,.tail _ (.tail _ (.head _)),rfl⟩ (show (7:Nat)≠5 by decide) n7 n5 g7;refine ⟨(dH j 4).blk,(dH j 3).blk,(dH j 7).blk,(dH j 5).blk,hr,⟨⟨_,kV w4 (i:=0) rfl⟩,⟨_,kV w4 (i:=1) rfl⟩,kV w3 (i:=0) rfl,kV w3 (i:=1) rfl,kV w7 (i:=0) rfl,fun i hi=> ?_,fun i hi=> ?_,fun i=>⟨ybC _,by decide⟩,q45,q35,q75,qH w5⟩,hb,g4,g3,g7,g5⟩
 ·exact kV w5 (i:=i) (by rw [List.getElem?_replicate];simp [hi])
 ·obtain ⟨arr,t,e1,_⟩:=w5;simp [World.frozen?,e1]
open Go.Maps Go.Sort
theorem Tryz.Cl.kept {w w':World} {b:Nat} {l:List Value} (h:Cl w b l) (e:w'.heap[b]? =w.heap[b]?):Cl w' b l:=by
 refine ⟨?_,fun i v hv=>by rw [yao (a:=⟨b,i,none⟩) e];exact h.cell i v hv,fun i=>by rw [ycC (a:=⟨b,i,none⟩) e];exact h.free i⟩;have q:w'.heap[b]? =some (w.heap[b]'h.lt):=by rw [e];exact yaM h.lt
 exact (yar.1 q).1
theorem Tryz.Rv (F:Int) (k:Nat) (hk:k≤2) (h0:0≤F) (h1:F<65536):bits .and .u16 F ((2^k:Nat):Int)=F/((2^k:Nat):Int)%2*((2^k:Nat):Int):=by
 obtain ⟨x,rfl⟩:=yaO h0;have hx:x<2^16:=by omega
 have hp:2^k<2^16:=Nat.pow_lt_pow_right (by decide) (by omega);unfold bits;simp only [ydv];have ex:(BitVec.ofInt IntKind.u16.bits (x:Int)).toNat=x:=by
  rw [ycI,yb8];exact ybe hx
 have ey:(BitVec.ofInt IntKind.u16.bits ((2^k:Nat):Int)).toNat=2^k:=by
  rw [ycI,yb8];exact ybe hp
 have e0:x&&&2^k=x/2^k%2*2^k:=by
  have e1:x&&&2^k=if x.testBit k then 2^k else 0:=by
   apply ybj;intro i;rw [ycb,yct];by_cases hi:k=i
   ·subst hi;cases x.testBit k<;>simp [yct]
   ·cases x.testBit k<;>simp [yct,hi]
  rw [e1,Nat.testBit_eq_decide_div_mod_eq];have:x/2^k%2=0∨x/2^k%2=1:=by omega
  rcases this with h|h<;>simp [h]
 rw [ex,ey,e0];have hb:x/2^k%2*2^k≤2^k:=by
  have:x/2^k%2≤1:=by omega
  calc _≤1*2^k:=ybf _ this
   _=_:=Nat.one_mul _
 have hc:(x:Int)/((2^k:Nat):Int)%2*((2^k:Nat):Int)=((x/2^k%2*2^k:Nat):Int):=by rw [Int.natCast_mul,Int.natCast_emod,Int.natCast_ediv];rfl
 rw [hc];generalize x/2^k%2*2^k=y at hb ⊢;exact yw (by omega) (by omega)
def Tryz.xG (e e1:Int):Int:=if e=0 then e1 else e
set_option maxRecDepth 100000 in
theorem Tryz.Ka (X:Nat) (a b:Value) (n e e1:Int) (w:World) (hX:Cl w X [a,b,.int .i64 n,.int .i64 e]):
  Calls prog 142 #[.pointer (some ⟨X,0,none⟩),.int .i64 e1] w fun en w'=>en= .returned (.tuple #[])∧Cl w' X [a,b,.int .i64 n,.int .i64 (xG e e1)]∧Dw.Mv (· =X) w w':=by
 have c3:=hX.cell 3 _ rfl;have f3:=hX.free 3;go_enter func142,ntmps142;by_cases he:e=0
 ·go_wp2;go_end0;refine ⟨rfl,?_,⟨rfl,rfl,rfl,by simp,fun k hk hne=>yah w _ _ k hne⟩⟩;rw [show xG e e1=e1 from yak he];exact hX.set 3 (.int .i64 e1) (by simp)
 ·go_wp2;go_end0;refine ⟨rfl,?_,⟨rfl,rfl,rfl,yab _,fun _ _ _=>rfl⟩⟩;rw [show xG e e1=e from yai he];exact hX
set_option maxRecDepth 100000 in
theorem Tryz.zw5 (X b2:Nat) (p v:Value) (n e A Ln F:Int) (l:List Sg) (w:World) (hX:Cl w X [p,v,.int .i64 n,.int .i64 e]) (hv:cO w b2 v l) (hb2:b2≤w.heap.size) (hXb:X<b2) (hl:l.length≤100000) (hF:0≤F∧F<65536):
  Calls prog 145 #[.pointer (some ⟨X,0,none⟩),.int .u64 A,.int .u32 Ln,.int .u16 F] w fun en w'=>en= .returned (.tuple #[])∧ ∃v',Cl w' X [p,v',.int .i64 n,.int .i64 e]∧cO w' b2 v' (l++ [⟨A,Ln,F/2%2*2 !=0⟩])∧Dw.Mv (fun b=>b=X∨v.ownBlock=some b) w w'∧ ∀b,v'.ownBlock=some b→v.ownBlock=some b∨w.heap.size≤b:=by
 obtain ⟨i0,hi0,hz0,hz1,hzb⟩:=ybl FR;obtain ⟨sa,sc,rfl,_⟩:=hv.slice;have hbt:bits .and .u16 F 2=F/2%2*2:=by have:=Rv F 1 (by decide) hF.1 hF.2;simpa using this
 have c1:=hX.cell 1 _ rfl;have hb0:=(yag w.heap.size w).alloc (yab _) (.cells #[.int .u64 A,.int .u32 Ln,.bool (F/2%2*2 !=0)] 48);have hrow:cO (w.alloc (.cells #[.int .u64 A,.int .u32 Ln,.bool (F/2%2*2 !=0)] 48)) b2 (.slice sa l.length sc) l:=hv.kept fun b e=>hb0.block b (hv.lt b e).2.1;have hlt:=hv.lt;have Du:=hX.lt;go_enter func145,ntmps145;refine wp_region_lit ?_
 iterate 12 (refine ydW fun K hK=> ?_;go_simp;refine hK _ _ ?_;clear hK)
 refine ya4 _ rfl _ _ 36 rfl b2 48 i0 (.agg #[.int .u64 0,.int .u32 0,.bool false]) 3 16 underlying36 hi0 hz0 hz1 hzb rfl (by decide) (.slice sa l.length sc) l.length (dX l) rfl hrow ⟨w.heap.size,0,none⟩ 1 1 [.int .u64 A,.int .u32 Ln,.bool (F/2%2*2 !=0)] rfl rfl (fun j u hu=>by rw [yck];exact (Cl.new w _ _).cell (0+j) u (by rw [yaq];exact hu)) (fun u hu=>by simp only [yac,yae,yav] at hu;rcases hu with rfl|rfl|rfl<;>rfl) (by unfold maxLen;omega) (by omega) (by simp;omega) ?_;intro v' w3 hown' hg3 hnil3 Hr;have MV:=hX.kept ((hg3.block X (by simp;omega) (fun e=>by have:=(hlt X e.symm).1;omega)).trans (hb0.block X Du));have d1:=MV.cell 1 _ rfl;have g1:=MV.free 1;have hlen:(dX l++ [.int .u64 A,.int .u32 Ln,.bool (F/2%2*2 !=0)])=dX (l++ [⟨A,Ln,F/2%2*2 !=0⟩]):=by simp [dX,Sg.cells]
 have hl1:l.length+1=(l++ [(⟨A,Ln,F/2%2*2 !=0⟩:Sg)]).length:=by simp
 rw [hlen,hl1] at hown';have Oi:cO w3 b2 v' (l++ [⟨A,Ln,F/2%2*2 !=0⟩]):=hown';obtain ⟨sa',sc',rfl,_⟩:=Oi.slice;rw [show (l++ [(⟨A,Ln,F/2%2*2 !=0⟩:Sg)]).length=l.length+1 from by simp] at Oi Hr;clear hown' hlen hl1 hrow c1 hnil3;refine ydW fun K hK=> ?_;go_simp;refine hK _ _ ?_;clear hK;refine ydW fun K hK=> ?_;go_simp;refine hK _ _ ?_;clear hK;refine ydW fun K hK=> ?_;go_simp;refine hK _ _ ?_;clear hK;refine wpList_nil ?_;go_end0;have hs3:=hg3.size;have gY:(Value.slice sa' (l.length+1) sc').ownBlock≠some X:=fun e=>by
  rcases Hr with h|h
  ·rw [h] at e;have:=(hlt X e).1;omega
  ·rw [h] at e;simp at e;omega
 refine ⟨rfl,_,MV.set 1 _ (by simp),Oi.kept fun b e=>yah w3 ⟨X,1,none⟩ _ b (fun e2=>by have e2:b=X:=e2;rw [e2] at e;exact gY e),⟨hg3.os,hg3.tape,hg3.output,by simp at hs3 ⊢;omega,fun b hb hn=> ?_⟩,fun b hb=> ?_⟩
 ·rw [yah w3 ⟨X,1,none⟩ _ b (fun e2=>hn (.inl e2))];exact (hg3.block b (by simp;omega) (fun e2=>hn (.inr e2.symm))).trans (hb0.block b hb)
 ·rcases Hr with h|h
  ·exact .inl (h▸hb)
  ·rw [h] at hb;simp at hb;exact .inr (by omega)
theorem Tryz.bO.lF {w w':World} {P L Bs B N X:Nat} {g:Nat→Int} (h:bO w P L Bs B N g) (hm:Dw.Mv (· =X) w w') (hx:X≠P∧X≠L∧X≠Bs∧X≠B):bO w' P L Bs B N g:=
 h.kept (fun k hk hq=>hm.block k hk fun e=>by
  have e:k=X:=e;obtain ⟨h1,h2,h3,h4⟩:=hx;rcases hq with q|q|q|q<;>(rw [e] at q;contradiction)) hm.size
def Tryz.wO (e x:Int):Int:=if x=0 then e else xG e x
set_option maxRecDepth 100000 in
theorem Tryz.zxg (X P L Bs B N:Nat) (v:Value) (n e A k:Int) (g:Nat→Int) (w:World) (hX:Cl w X [.pointer (some ⟨P,0,none⟩),v,.int .i64 n,.int .i64 e]) (st:bO w P L Bs B N g) (hN:N≤1048576) (ha:0≤A∧A<18446744073709551616) (hk:0≤k∧k<4294967296):
    Calls prog 158 #[.pointer (some ⟨X,0,none⟩),.int .u64 A,.int .u32 k] w fun en w'=>en= .returned (.tuple #[.int .i64 (dA N A k).1,.bool (decide ((dA N A k).2=0))])∧
      Cl w' X [.pointer (some ⟨P,0,none⟩),v,.int .i64 n,.int .i64 (wO e (dA N A k).2)]∧Dw.Mv (· =X) w w':=by
  have c0:=hX.cell 0 _ rfl;have t1:k.tmod 16=k%16:=ybs hk.1;have t2:k.tdiv 16=k/16:=ydN hk.1;have hst:=fun e1 w1 (h1:Cl w1 X [.pointer (some ⟨P,0,none⟩),v,.int .i64 n,.int .i64 e])=>Ka X (.pointer (some ⟨P,0,none⟩)) v n e e1 w1 h1;have hhas:=zoC P L Bs B N A k g w st hN ha.1 ha.2 hk.1 (by omega);have wk:IntKind.wrap .u64 k=k:=bE (by omega) (by omega);have wd:IntKind.wrap .i64 (k/16)=k/16:=gV (by omega) (by omega);have wq:IntKind.wrap .u32 (k/16)=k/16:=La (by omega) (by omega);have yV: ∀ {a b:World},Below a.heap.size a b→Dw.Mv (· =X) a b:=fun h=>⟨h.os,h.tape,h.output,h.size,fun b hb _=>h.block b hb⟩;by_cases hbad:k=0∨ ¬k%16=0∨64<k/16
  · have he:dA N A k=(0,4):=by unfold dA;rw [yak hbad]
    rw [he,show wO e (0,(4:Int)).2=xG e 4 from rfl,show decide ((((0:Int),(4:Int)).2)=0)=false from rfl];go_enter func158,ntmps158;by_cases q1:k=0
    · subst q1;go_wp2_with (first
        | (go_at_call 142;refine (hst 4 _ hX).mono ?_;rintro en w1 ⟨rfl,h1,hm1⟩)
        | go_in)
      go_ret2;exact ⟨rfl,h1,hm1⟩
    · by_cases q2:k%16=0
      · have q3:64<k/16:=by
          rcases hbad with h|h|h
          · exact absurd h q1
          · exact absurd q2 h
          · exact h
        go_wp2_with (first
          | (go_at_call 142;refine (hst 4 _ hX).mono ?_;rintro en w1 ⟨rfl,h1,hm1⟩)
          | go_in)
        go_ret2;exact ⟨rfl,h1,hm1⟩
      · go_wp2_with (first
          | (go_at_call 142;refine (hst 4 _ hX).mono ?_;rintro en w1 ⟨rfl,h1,hm1⟩)
          | go_in)
        go_ret2;exact ⟨rfl,h1,hm1⟩
  · have q1: ¬k=0:=fun h=>hbad (.inl h);have q2:k%16=0:=by
      by_cases h:k%16=0
      · exact h
      · exact absurd (.inr (.inl h)) hbad
    have q3: ¬64<k/16:=fun h=>hbad (.inr (.inr h));by_cases hin:A+k≤N
    · have he:dA N A k=(k/16,0):=by unfold dA;rw [yai hbad,yak hin]
      rw [he,show wO e (k/16,(0:Int)).2=e from rfl,show decide (((k/16,(0:Int)).2)=0)=true from rfl];rw [ya1 (show 1≤k∧A+k≤N from ⟨by omega,hin⟩)] at hhas;go_enter func158,ntmps158;go_wp2_with (first
        | (go_at_call 11;refine hhas.mono ?_;rintro en w1 ⟨rfl,hb1⟩)
        | go_in)
      go_ret2;exact ⟨rfl,hX.below hb1 hX.lt,yV hb1⟩
    · have he:dA N A k=(0,5):=by unfold dA;rw [yai hbad,yai hin]
      rw [he,show wO e (0,(5:Int)).2=xG e 5 from rfl,show decide ((((0:Int),(5:Int)).2)=0)=false from rfl];rw [ybd (show¬(1≤k∧A+k≤N) from fun h=>hin h.2)] at hhas;go_enter func158,ntmps158;go_wp2_with (first
        | (go_at_call 11;refine hhas.mono ?_;rintro en w1 ⟨rfl,hb1⟩)
        | (go_at_call 142;refine (hst 5 _ (hX.below hb1 hX.lt)).mono ?_;rintro en w2 ⟨rfl,h2,hm2⟩)
        | go_in)
      go_ret2;exact ⟨rfl,h2,(yV hb1).trans hm2⟩
open Go.Deep
structure Tryz.Sc (a b:Bool):Prop where
 eq:a=b
theorem Tryz.VU {w wr:World} {R o:Nat} {l:List Sg} (hr:w.rangeAt R o (dX l)) (hb:Below w.heap.size w wr) {k:Nat} (hk:k<l.length):wr.cell? ⟨R,o+k*3,none⟩=some (.int .u64 l[k].di)∧wr.cell? ⟨R,o+k*3+1,none⟩=some (.int .u32 l[k].len)∧wr.cell? ⟨R,o+k*3+2,none⟩=some (.bool l[k].wr):=by
 obtain ⟨d0,d1,d2⟩:=EI l k hk;have hRl:R<w.heap.size:=yan w _ (hr _ _ d1);refine ⟨?_,?_,?_⟩
 ·rw [ybH k 3];exact (hb.cell (p:=⟨R,o+3*k,none⟩) hRl).trans (hr _ _ d0)
 ·rw [show o+k*3+1=o+(3*k+1) by omega];exact (hb.cell (p:=⟨R,o+(3*k+1),none⟩) hRl).trans (hr _ _ d1)
 ·rw [show o+k*3+2=o+(3*k+2) by omega];exact (hb.cell (p:=⟨R,o+(3*k+2),none⟩) hRl).trans (hr _ _ d2)
set_option maxRecDepth 100000 in
theorem Tryz.zn5 {A B:Nat→Prop} {w:World} {v1 v2:Value} {l1 l2:List Sg} (h1:aL A w v1 l1) (h2:aL B w v2 l2) (hl:l1.length<4000000) (hl2:l2.length<4000000):
  Calls prog 16 #[v1,v2] w fun e w'=>e= .returned (.bool (decide (l1=l2)))∧Below w.heap.size w w':=by
 obtain ⟨sa,c,rfl,hok,hr⟩:=h1;obtain ⟨sb,d,rfl,hok2,hr2⟩:=h2;by_cases hlen:l1.length=l2.length
 ·obtain ⟨z,hz⟩: ∃z,Sc z (decide (l1=l2)):=⟨_,⟨rfl⟩⟩;rw [←hz.eq];obtain ⟨m,hm⟩: ∃m,m=l1.length:=⟨_,rfl⟩;rw [←hlen,←hm];have hm1:l1.length≤m∧m≤l1.length:=by omega
  have hm2:l2.length≤m∧m≤l2.length:=by omega
  clear hm hlen;go_enter func16,ntmps16;go_wp2_with fail;go_loopw [5] (fun i wr=>Below w.heap.size w wr∧ ∃k:Nat,k≤m∧i= .int .i64 k∧l1.take k=l2.take k) (fun i _=>m-(RowKit.intOf i).toNat)
  case atStart=>exact ⟨yag _ _,0,yax _,rfl,rfl⟩
  case round=>
   obtain ⟨hb,k,hk,rfl,hall⟩:=hrel;by_cases hkm:k<m
   ·have Nz:(k:Int)<m:=by omega
    have k1:k<l1.length:=by omega
    have k2:k<l2.length:=by omega
    rcases hr with hr|⟨R,o,rfl,A9,hr⟩
    ·subst hr;simp at k1
    rcases hr2 with hr2|⟨R2,o2,rfl,abM,hr2⟩
    ·subst hr2;simp at k2
    obtain ⟨f0,f1,f2⟩:=VU hr hb k1;obtain ⟨g0,g1,g2⟩:=VU hr2 hb k2;have ht:l1[k]=l2[k]→l1.take (k+1)=l2.take (k+1):=fun e=>by rw [ybr k1,ybr k2,hall,e]
    have hne:l1[k]≠l2[k]→ ¬l1=l2:=fun e q=>e (by subst q;rfl);clear hr hr2;generalize l1[k]=x1 at*;generalize l2[k]=x2 at*;obtain ⟨a1,n1,t1⟩:=x1;obtain ⟨a2,n2,t2⟩:=x2;by_cases he:a1=a2∧n1=n2∧t1=t2
    ·obtain ⟨rfl,rfl,rfl⟩:=he;have ht:=ht rfl;clear hne;go_wp2_with fail;go_quiet (fail);go_wp2;exact ⟨⟨below_drewN hb _,k+1,by omega,by push_cast;rfl,ht trivial⟩,by simp only [RowKit.intOf];omega⟩
    ·have rJ:=hz.eq;rw [ybd (hne fun q=>he (by cases q;exact ⟨rfl,rfl,rfl⟩))] at rJ;subst rJ;clear hz ht hne;have h3: ¬a1=a2∨ ¬n1=n2∨ ¬t1=t2:=by
      by_cases q1:a1=a2
      ·by_cases q2:n1=n2
       ·exact .inr (.inr fun q3=>he ⟨q1,q2,q3⟩)
       ·exact .inr (.inl q2)
      ·exact .inl q1
     clear he;rcases h3 with h|h|h
     all_goals
      have hbf:=beq_false_of_ne h;go_wp2_with fail;go_quiet (fail);go_wp2;go_ret;exact ⟨rfl,below_drewN hb _⟩
   ·have Nz: ¬(k:Int)<m:=by omega
    have:k=m:=by omega
    subst this;have:l1=l2:=by rw [yb5 hm1.1,yb5 hm2.1] at hall;exact hall
    have rJ:=hz.eq;rw [ya1 this] at rJ;subst rJ;clear hz;go_wp2;go_ret;exact ⟨rfl,hb⟩
 ·have hn: ¬l1=l2:=fun q=>hlen (by rw [q]);rw [ybd hn];have hne: ¬(l1.length:Int)=l2.length:=by omega
  go_enter func16,ntmps16;go_wp2_with fail;go_ret;exact ⟨rfl,yag _ _⟩
def Tryz.yJ (w:World) (v:Value) (xs:List Int):Prop:=
 ∃ (sa:Option Addr) (c:Nat),v= .slice sa xs.length c∧(xs= []∨ ∃R o,sa=some ⟨R,o,none⟩∧w.rangeAt R o (bg xs))
theorem Tryz.Vr {w wr:World} {R o:Nat} {l:List Int} (hr:w.rangeAt R o (bg l)) (hb:Below w.heap.size w wr) {k:Nat} (hk:k<l.length):wr.cell? ⟨R,o+k,none⟩=some (.int .i64 l[k]):=by
 have h:=hr k (.int .i64 l[k]) (by simp [bg,hk]);exact (hb.cell (p:=⟨R,o+k,none⟩) (yan w _ h)).trans h
set_option maxRecDepth 100000 in
theorem Tryz.zwM {w:World} {v1 v2:Value} {l1 l2:List Int} (h1:yJ w v1 l1) (h2:yJ w v2 l2) (hl:l1.length<4000000) (hl2:l2.length<4000000):
  Calls prog 17 #[v1,v2] w fun e w'=>e= .returned (.bool (decide (l1=l2)))∧Below w.heap.size w w':=by
 obtain ⟨sa,c,rfl,hr⟩:=h1;obtain ⟨sb,d,rfl,hr2⟩:=h2;by_cases hlen:l1.length=l2.length
 ·obtain ⟨z,hz⟩: ∃z,Sc z (decide (l1=l2)):=⟨_,⟨rfl⟩⟩;rw [←hz.eq];obtain ⟨m,hm⟩: ∃m,m=l1.length:=⟨_,rfl⟩;rw [←hlen,←hm];have hm1:l1.length≤m∧m≤l1.length:=by omega
  have hm2:l2.length≤m∧m≤l2.length:=by omega
  clear hm hlen;go_enter func17,ntmps17;go_wp2_with fail;go_loopw [5] (fun i wr=>Below w.heap.size w wr∧ ∃k:Nat,k≤m∧i= .int .i64 k∧l1.take k=l2.take k) (fun i _=>m-(RowKit.intOf i).toNat)
  case atStart=>exact ⟨yag _ _,0,yax _,rfl,rfl⟩
  case round=>
   obtain ⟨hb,k,hk,rfl,hall⟩:=hrel;by_cases hkm:k<m
   ·have Nz:(k:Int)<m:=by omega
    have k1:k<l1.length:=by omega
    have k2:k<l2.length:=by omega
    rcases hr with hr|⟨R,o,rfl,hr⟩
    ·subst hr;simp at k1
    rcases hr2 with hr2|⟨R2,o2,rfl,hr2⟩
    ·subst hr2;simp at k2
    have f0:=Vr hr hb k1;have g0:=Vr hr2 hb k2;have ht:l1[k]=l2[k]→l1.take (k+1)=l2.take (k+1):=fun e=>by rw [ybr k1,ybr k2,hall,e]
    have hne:l1[k]≠l2[k]→ ¬l1=l2:=fun e q=>e (by subst q;rfl);clear hr hr2;generalize l1[k]=x1 at*;generalize l2[k]=x2 at*;by_cases he:x1=x2
    ·subst he;have ht:=ht rfl;clear hne;go_wp2_with fail;go_quiet (fail);go_wp2;exact ⟨⟨below_drewN hb _,k+1,by omega,by push_cast;rfl,ht trivial⟩,by simp only [RowKit.intOf];omega⟩
    ·have rJ:=hz.eq;rw [ybd (hne he)] at rJ;subst rJ;clear hz ht hne;have hbf:=beq_false_of_ne he;go_wp2_with fail;go_quiet (fail);go_wp2;go_ret;exact ⟨rfl,below_drewN hb _⟩
   ·have Nz: ¬(k:Int)<m:=by omega
    have:k=m:=by omega
    subst this;have:l1=l2:=by rw [yb5 hm1.1,yb5 hm2.1] at hall;exact hall
    have rJ:=hz.eq;rw [ya1 this] at rJ;subst rJ;clear hz;go_wp2;go_ret;exact ⟨rfl,hb⟩
 ·have hn: ¬l1=l2:=fun q=>hlen (by rw [q]);rw [ybd hn];have hne: ¬(l1.length:Int)=l2.length:=by omega
  go_enter func17,ntmps17;go_wp2_with fail;go_ret;exact ⟨rfl,yag _ _⟩
end Go.Proofs
namespace Go.Proofs
open Go.Dw Go.RowKit Go.Maps Go.Sort
section
variable {X:Nat→Prop} {bX:Nat} {ρ:Val} {w0:World} {K:Nat→Prop} {S P L Bs B M N:Nat} {r:Tryz.Rg} {b2:Nat} {sk:Nat→Tryz.SS} {gk:Nat→Nat→Int} {rows:Nat→List Tryz.vZ} {f:FuncId} {args:List AV} {res:AV} {k k':Nat}
end
end Go.Proofs
namespace Go.Proofs
open Go.Dw Go.RowKit Go.Maps Go.Sort Go.Deep
theorem Tryz.gI {fn:Func} {p u:Tmp} {ty:TypeId} (h:fn.results= #[.cell p ty,.tmp u]) (tmps:Array Value) (w:World) (b:Nat) (cs:List Value) (d:TypeDesc)
  (hp:tmps.getD p undef= .pointer (some ⟨b,0,none⟩)) (hg:w.rangeAt b 0 cs) (hu:prog.underlying ty=some d) (hd:d.isRow=true) (hi:(prog.info? ty).map (·.size)=some cs.length):
  (results fn tmps).run prog w= .ok (.tuple #[.agg cs.toArray,tmps.getD u undef]) w:=by
 have hp':tmps[p]?.getD undef= .pointer (some ⟨b,0,none⟩):=by simpa using hp
 simp [results,h,hp',asAddr,run_loadVar_mid w b 0 ty cs d hg hu hd hi]
set_option maxRecDepth 100000 in
theorem Tryz.zBP {A:Nat→Prop} {w:World} {S P M:Nat} {r:Rg} {s:SS} (h:iq A w S P M r s) (H8:s.ph=0) (hbr:s.br=false) (hdn:s.dn=true) (hln:s.sg.length≤1000000):
    Calls prog 15 #[.pointer (some ⟨S,0,none⟩)] w fun e w'=> ∃u,e= .returned (.tuple #[.agg #[.int .i64 s.op,.bool s.nn,.int .i64 s.hd,u,.int .u32 s.wr,.bool s.it],.bool true])∧cO w' w.heap.size u s.sg∧Below w.heap.size w w':=by
  have hm:=fun w1 (hb:Below w.heap.size w w1)=>Ch (h.kept (hb.block S h.rO) (hb.block M h.tO) fun k hk _=>hb.block k hk);have hbz:=fun w1 (hb:Below w.heap.size w w1)=>KH (h.kept (hb.block S h.rO) (hb.block M h.tO) fun k hk _=>hb.block k hk);rw [H8] at hbz;obtain ⟨nv,sv,ho,hn,hsv⟩:=h.obj;obtain ⟨sa,c,rfl,hok,hr⟩:=hsv;have hcl:=fun w1 (hb:Below w.heap.size w w1)=>JW (show aL A w1 _ s.sg from aL.below ⟨sa,c,rfl,hok,hr⟩ hb) hln;have c13:=kV ho (i:=13) rfl;have c14:=kV ho (i:=14) rfl;have c15:=kV ho (i:=15) rfl;have c16:=kV ho (i:=16) rfl;have c17:=kV ho (i:=17) rfl;have c18:=kV ho (i:=18) rfl;have c19:=kV ho (i:=19) rfl;rw [hdn] at c19;have HY:=h.rO;have hA:=(yag w.heap.size w).alloc (yab _);clear ho;go_enter func15,ntmps15;go_wp2_with (first
    | (go_at_call 56;refine (hm _ (hA _)).mono ?_;rintro e w' ⟨rfl,hw⟩;have hw:=hw.symm;subst hw)
    | (go_at_call 27;refine (hbz _ (hA _)).mono ?_;rintro e w' ⟨rfl,hw⟩;have hw:=hw.symm;subst hw)
    | (go_at_call 57;refine (hcl _ ((hA _).alloc (by simp) _)).mono ?_;rintro e w2 ⟨u,rfl,hu,hb2⟩;have ka:=((Cl.new w _ _).alloc _).below hb2 (by simp<;>omega);have kb:=(Cl.new (w.alloc _) _ _).below hb2 (by simp<;>omega);rw [jB] at kb;obtain ⟨fU,c2,hue,_⟩:=hu.rV hok (A:=fun _=>False) fun _ _ h=>h;subst hue;have x0:=ka.cell 0 _ rfl;have x1:=ka.cell 1 _ rfl;have x2:=ka.cell 2 _ rfl;have x3:=ka.cell 3 _ rfl;have x4:=ka.cell 4 _ rfl;have x5:=ka.cell 5 _ rfl;have y0:=kb.cell 0 _ rfl;have y1:=kb.cell 1 _ rfl;have y2:=kb.cell 2 _ rfl;have y3:=kb.cell 3 _ rfl;have y4:=kb.cell 4 _ rfl;have y5:=kb.cell 5 _ rfl;have f0:=ka.free 0;have f1:=ka.free 1;have f2:=ka.free 2;have f3:=ka.free 3;have f4:=ka.free 4;have f5:=ka.free 5;have g3:=kb.free 3)
    | go_in)
  have hs2:=hb2.size;simp only [jB] at hs2;have Tg:Below w.heap.size w w2:=(((yag w.heap.size w).alloc (yab _) _).alloc (by simp) _).trans (hb2.mono (by simp only [jB];omega));have hlt:=hu.lt;simp only [jB] at hlt;have hq:=(Mv.refl (· =w.heap.size+1) w2).setCell (w.heap.size+1) 3 (.slice fU s.sg.length c2) (.inl rfl);have NZ:=ka.below (hq.below (base:=w.heap.size+1) (fun k hk=>by omega) (by omega)) (by omega);have k0:=(((((NZ.set 0 (.int .i64 s.op) (show 0<6 by decide)).set 1 (.bool s.nn) (show 1<6 by decide)).set 2 (.int .i64 s.hd) (show 2<6 by decide)).set 3 (.slice fU s.sg.length c2) (show 3<6 by decide)).set 4 (.int .u32 s.wr) (show 4<6 by decide)).set 5 (.bool s.it) (show 5<6 by decide);have hmv:=(((((((Mv.refl (fun b=>b=w.heap.size∨b=w.heap.size+1) w2).setCell (w.heap.size+1) 3 (.slice fU s.sg.length c2) (.inl (.inr rfl))).setCell (w.heap.size) 0 (.int .i64 s.op) (.inl (.inl rfl))).setCell (w.heap.size) 1 (.bool s.nn) (.inl (.inl rfl))).setCell (w.heap.size) 2 (.int .i64 s.hd) (.inl (.inl rfl))).setCell (w.heap.size) 3 (.slice fU s.sg.length c2) (.inl (.inl rfl))).setCell (w.heap.size) 4 (.int .u32 s.wr) (.inl (.inl rfl))).setCell (w.heap.size) 5 (.bool s.it) (.inl (.inl rfl));generalize (((((((w2.setCell ⟨w.heap.size+1,3,none⟩ (.slice fU s.sg.length c2)).setCell ⟨w.heap.size,0,none⟩ (.int .i64 s.op)).setCell ⟨w.heap.size,1,none⟩ (.bool s.nn)).setCell ⟨w.heap.size,2,none⟩ (.int .i64 s.hd)).setCell ⟨w.heap.size,3,none⟩ (.slice fU s.sg.length c2)).setCell ⟨w.heap.size,4,none⟩ (.int .u32 s.wr)).setCell ⟨w.heap.size,5,none⟩ (.bool s.it))=w3 at k0 hmv ⊢;refine yaI (gI rfl _ _ w.heap.size [.int .i64 s.op,.bool s.nn,.int .i64 s.hd,.slice fU s.sg.length c2,.int .u32 s.wr,.bool s.it] _ rfl (fun j v hv=>by rw [yaq];exact k0.cell j v hv) underlying53 rfl (by kernel_rfl)) rfl ?_;refine ⟨_,rfl,(hu.kept fun b hb=>hmv.block b (hlt b hb).2.1 fun e=>by have:=(hlt b hb).1;omega).mono (by simp only [jB];omega),Tg.trans (hmv.below (base:=w.heap.size) (fun k hk=>by omega) Tg.size)⟩
end Go.Proofs
namespace Go.Proofs
open Go.Dw Go.RowKit Go.Maps Go.Sort
section
variable {X:Nat→Prop} {bX:Nat} {ρ:Val} {w0:World} {K:Nat→Prop} {S P L Bs B M N:Nat} {r:Tryz.Rg} {b2:Nat} {sk:Nat→Tryz.SS} {gk:Nat→Nat→Int} {rows:Nat→List Tryz.vZ} {f:FuncId} {args:List AV} {res:AV} {k k':Nat}
end
end Go.Proofs
namespace Go.Proofs
open Go.Dw Go.RowKit Go.Maps Go.Sort
theorem Tryz.zvU {P0:Program} (w:World) (base:Nat) (t ty e t0:TypeId) (i:TypeInfo) (z:Value) (size bytes:Nat) (ht:P0.underlying t=some (.slice e)) (hi:P0.info? e=some i) (hz:i.zero=some z)
  (hsize:i.size=size) (hby:i.bytes=bytes) (hzs:z.cells.size=size) (hsz:0<size)
  (v:Value) (n:Nat) (xs:List Value) (hown:w.ownsRow base t0 size v n xs)
  (a:Addr) (m c:Nat) (news:List Value) (hl:news.length=m*size) (hnews: ∀j u,news[j]? =some u→w.cell? (a.add j)=some u) (h1: ∀u∈news,u.oneCell'=true)
  (h63:n+m≤maxLen) (hbytes:(n+m)*bytes≤140737488355328) (hbase:base≤w.heap.size):
  ∃ v' w' t',(Builtin.append_ #[t,t] ty #[v,.slice (some a) m c]).run P0 w= .ok v' w'∧w'.ownsRow base t' size v' (n+m) (xs++news)∧w.grownBy w' v.ownBlock∧(v'.ownBlock=v.ownBlock∨v'.ownBlock=some w.heap.size):=by
 have hsmall:n+m≤9223372036854775807:=by simp only [maxLen] at h63;omega
 have hlen:(xs++news).length=(n+m)*size:=by rw [yaQ,hown.1,hl,ybJ]
 rcases hown.2 with ⟨rfl,rfl⟩|⟨g,cap,cur,rfl,hbg,hg,hnc,hcm,hcs,htake⟩
 ·obtain ⟨v',w',q1,q2,q3,_,q5⟩:=ydz (P:=P0) w base t ty e i z size bytes ht hi hz hsize hby hzs hsz (.slice none 0 0) 0 xs ⟨hown.1,.inl ⟨rfl,rfl⟩⟩ a m c news hl hnews h1 h63 hbytes hbase;exact ⟨v',w',e,q1,q2,q3,q5⟩
 ·subst hsize;subst hby;by_cases hroom:n+m≤cap
  ·have hfit:n*i.size+news.length≤cur.size:=by rw [hl,hcs,←ybJ];exact ybf _ hroom
   have hf:=run_firstCells_some (P:=P0) w i.size m a m c news hl hnews;have hst:=ydy P0 g (n*i.size) t0 news 0 cur w hg (by simpa using hfit) h1;simp only [ya7] at hst;have hr:(Builtin.append_ #[t,t] ty #[.slice (some ⟨g,0,none⟩) n cap,.slice (some a) m c]).run P0 w= .ok (.slice (some ⟨g,0,none⟩) (n+m) cap) (w.setRow g (cur.toList.take (n*i.size)++news++cur.toList.drop (n*i.size+news.length)).toArray):=by
    simp [Builtin.append_,run_underlying ht,sizeOf,typeInfo,hi,Builtin.lenOf,hroom,hf,Addr.add_lit,hst]
   refine ⟨_,_,t0,hr,⟨hlen,.inr ⟨g,cap,_,rfl,hbg,setRow_heap w g cur _ t0 _ hg,hroom,hcm,?_,?_⟩⟩,⟨rfl,rfl,rfl,by simp,fun k _ hk=>setRow_other w g k _ (fun e=>hk (by simp [Value.ownBlock,e]))⟩,Or.inl rfl⟩
   ·simp only [yci,yaQ,ybz,ycs,ybc];omega
   ·rw [htake,←hlen];exact ydQ
  ·have holds: ∀j u,xs[j]? =some u→w.cell? ((⟨g,0,none⟩:Addr).add j)=some u:=hown.cells (g:=g) rfl;have hr:=run_append_grow (P:=P0) w t ty e i z ht hi hz ⟨g,0,none⟩ n cap xs hown.1 holds a m c news hl hnews (by omega) (by omega) (growslice_fits (by omega) hbytes);have hge:=grownCap_ge w (n+m) cap e;have hcm2:grownCap w (n+m) cap e≤maxLen:=grownCap_le_maxLen w (n+m) cap e h63;refine ⟨_,_,e,hr,⟨hlen,.inr ⟨w.heap.size,_,_,rfl,hbase,ydh w.drew _,hge,hcm2,?_,?_⟩⟩,⟨rfl,rfl,rfl,by simp,fun k hk _=>yc3 w.drew _ (h:=hk)⟩,Or.inr rfl⟩
   ·simp only [yc2,yci,size_zeroCells,hzs,hown.1,hl,←ybJ];congr 1;omega
   ·simp only [Array.toList_append,ybQ];rw [←ybQ,←hlen];exact ydQ
section
variable {X:Nat→Prop} {bX:Nat} {ρ:Val} {w0:World} {K:Nat→Prop} {S P L Bs B M N:Nat} {r:Tryz.Rg} {b2:Nat} {sk:Nat→Tryz.SS} {gk:Nat→Nat→Int} {rows:Nat→List Tryz.vZ} {k k' q:Nat}
end
end Go.Proofs
namespace Go.Proofs
open Go.Dw Go.RowKit Go.Maps Go.Sort Go.Deep Go.ChangeShapes Go.WideShapes
section
variable {H:Type} {enc:TypeId×Value→H} {W:World} {sp:Nat→Bool} {held:Bool} {fuel:Nat}
end
end Go.Proofs
namespace Go.Proofs
open Go.Dw Go.RowKit Go.Maps Go.Sort
section
variable {W0:World} {H4 X11 S P L Bs B M:Nat} {r:Tryz.Rg} {av ov:Value} {ls:List (List Tryz.Sg)} {s:Tryz.SS} {g:Nat→Int} {hs:List Int} {bs:List (List Tryz.Sg)} {next:Int} {vh:Value} {i:Nat} {a:Act} {w:World}
end
end Go.Proofs
namespace Go.Proofs
open Go.Dw Go.RowKit Go.Maps Go.Sort Go.Deep
theorem Tryz.qC {P0:Program} {w:World} {ops:Array Oper} {o:Oper} {a:Act} {K:Act→World→Prop} {Q:Exit→Act→World→Prop} {E:Prop} (hgd:o.guard=none) (s x:Operand) (t:TypeId)
  (ho:o.op= .call { callee:= .builtin .append,args:= #[s,x],argTypes:= #[t,t] })
  (base:Nat) (e t0:TypeId) (i:TypeInfo) (z:Value) (size bytes:Nat) (ht:P0.underlying t=some (.slice e)) (hi:P0.info? e=some i) (hz:i.zero=some z)
  (hsize:i.size=size) (hby:i.bytes=bytes) (hzs:z.cells.size=size) (hsz:0<size)
  (v:Value) (n:Nat) (xs:List Value) (hs:a.eval s=v) (hown:w.ownsRow base t0 size v n xs)
  (sa:Option Addr) (ad:Addr) (hsa:sa=some ad) (m c:Nat) (news:List Value) (hx:a.eval x= .slice sa m c) (hl:news.length=m*size) (hnews: ∀j u,news[j]? =some u→w.cell? (ad.add j)=some u) (h1: ∀u∈news,u.oneCell'=true)
  (h63:n+m≤maxLen) (hbytes:(n+m)*bytes≤140737488355328) (hbase:base≤w.heap.size)
  (h: ∀v' w' t',w'.ownsRow base t' size v' (n+m) (xs++news)→w.grownBy w' v.ownBlock→(v'.ownBlock=v.ownBlock∨v'.ownBlock=some w.heap.size)→K (a.put o.dst v') w'):
  if Region.wanted o (yielded ops a.tmps)=true then Oper.wp P0 o a w K Q else E:=by
 subst hsa;have hw:Region.wanted o (yielded ops a.tmps)=true:=by simp [Region.wanted,hgd]
 rw [yak hw];obtain ⟨v',w',t',hr,h2,h3,h4⟩:=zvU (P0:=P0) w base t o.type e t0 i z size bytes ht hi hz hsize hby hzs hsz v n xs hown ad m c news hl hnews h1 h63 hbytes hbase;unfold Oper.wp execOp;simp only [ho,resolve,invoke,builtin,yaf,yaj,yaa,List.map_toArray,yaK,ya0,hs,hx,hr];exact h v' w' t' h2 h3 h4
theorem Tryz.WZ: ∀(l:List Sg) (i:Nat) (hi:i<l.length),(dX l)[i*3]? =some (.int .u64 l[i].di)∧(dX l)[i*3+1]? =some (.int .u32 l[i].len)
 | x::r,0,_=>⟨rfl,rfl⟩
 | x::r,i+1,hi=>by
  have h:=WZ r i (by simp at hi;omega);rw [O8,show (i+1)*3=i*3+1+1+1 by omega];simpa using h
set_option maxRecDepth 100000 in
theorem Tryz.zDJ {A:Nat→Prop} {w:World} {P L Bs B N:Nat} {g:Nat→Int} {v:Value} {l:List Sg} (st:bO w P L Bs B N g) (hN:N≤1048576) (h:aL A w v l) (hl:l.length≤100000):
    Calls prog 146 #[.pointer (some ⟨P,0,none⟩),v] w fun e w'=>e= .returned (.int .i64 (oH N l))∧Below w.heap.size w w':=by
  have hck:=Kr h;obtain ⟨sa,c,rfl,hok,hr⟩:=h;go_enter func146,ntmps146;go_wp2_with (first
    | (go_at_call 80;refine hck.mono ?_;rintro en w1 ⟨rfl,hb1⟩)
    | go_in)
  go_loopw [5,6] (fun e i w2=>Below w.heap.size w w2∧ ∃(k:Nat) (x:Int),k≤l.length∧i= .int .i64 k∧e= .int .i64 x∧((¬x=0∧x=oH N l)∨(x=0∧gM l=0∧ ∀(j:Nat) (hj:j<l.length),j<k→1≤l[j].len∧l[j].di+l[j].len≤N))) (fun e i _=>if RowKit.intOf e=0 then l.length+1-(RowKit.intOf i).toNat else 0)
  case atStart=>
    refine ⟨hb1,0,gM l,yax _,rfl,rfl,?_⟩;by_cases he:gM l=0
    · exact .inr ⟨he,he,fun j _ hj=>absurd hj (by omega)⟩
    · exact .inl ⟨he,by unfold oH;rw [yai he]⟩
  case round=>
    obtain ⟨hb2,k,x,hk,rfl,rfl,hx⟩:=hrel;rcases hx with ⟨hx0,hx⟩|⟨rfl,he0,hall⟩
    · have hx':(fun _:Unit=>x)=fun _=>oH N l:=by rw [hx]
      clear hx;by_cases hkl:(k:Int)<l.length
      · go_wp2;go_ret;exact ⟨by rw [←ybV hx' ()];rfl,hb2⟩
      · go_wp2;go_ret;exact ⟨by rw [←ybV hx' ()];rfl,hb2⟩
    · by_cases hkl:k<l.length
      · have hkl':(k:Int)<l.length:=by omega
        rcases hr with hr|⟨R,o,rfl,A9,hr⟩
        · subst hr;simp at hkl
        obtain ⟨d0,d1⟩:=WZ l k hkl;have e0:=hr _ _ d0;have e1:=hr _ _ d1;have hx1:=hok l[k] (yaL hkl);have hRl:R<w.heap.size:=yan w _ e0;have f0:=(hb2.cell (p:=⟨R,o+k*3,none⟩) hRl).trans e0;have f1:wr.cell? ⟨R,o+k*3+1,none⟩=some (.int .u32 l[k].len):=(hb2.cell (p:=⟨R,o+(k*3+1),none⟩) hRl).trans e1;have uO:R<wr.heap.size:=yan wr _ f0;have hlc:(l.length:Int)≤l.length:=ybC _;obtain ⟨q1,q2,q3,q4⟩:=hx1;have wl:IntKind.wrap .u64 l[k].len=l[k].len:=bE q3 (by omega);have st2:=st.below hb2;have hhas:=fun w4 (h4:bO w4 P L Bs B N g)=>zoC P L Bs B N l[k].di l[k].len g w4 h4 hN q1 q2 q3 (by omega);generalize hat:l[k].di=a1 at*;generalize hln:l[k].len=n1 at*;by_cases hin:1≤n1∧a1+n1≤N
        · rw [ya1 hin] at hhas;go_wp2_with fail;go_region_held3 (fun w'=>w'.cell? ⟨R,o+k*3,none⟩=some (.int .u64 a1)∧w'.cell? ⟨R,o+k*3+1,none⟩=some (.int .u32 n1)) (go_keep)
            ((first|(go_at_call 11;refine (hhas wr.drew (st2.kept (w':=wr.drew) (fun _ _ _=>rfl) (yab _))).mono ?_;rintro en w3 ⟨rfl,hb3⟩;have f2:=(hb3.cell (p:=⟨R,o+k*3,none⟩) uO).trans f0;have f3:=(hb3.cell (p:=⟨R,o+k*3+1,none⟩) uO).trans f1)))
          all_goals go_wp2_with fail
          all_goals
            refine ⟨⟨hb2.drew.trans (hb3.mono hb2.size),k+1,by omega,by push_cast;rfl,fun j hj hlt=> ?_⟩,by simp only [RowKit.intOf];omega⟩;by_cases hjk:j=k
            · subst hjk;rw [hat,hln];exact hin
            · exact hall j hj (by omega)
        · rw [ybd hin] at hhas;go_wp2_with fail;go_region_held3 (fun w'=>w'.cell? ⟨R,o+k*3,none⟩=some (.int .u64 a1)∧w'.cell? ⟨R,o+k*3+1,none⟩=some (.int .u32 n1)) (go_keep)
            ((first|(go_at_call 11;refine (hhas wr.drew (st2.kept (w':=wr.drew) (fun _ _ _=>rfl) (yab _))).mono ?_;rintro en w3 ⟨rfl,hb3⟩;have f2:=(hb3.cell (p:=⟨R,o+k*3,none⟩) uO).trans f0;have f3:=(hb3.cell (p:=⟨R,o+k*3+1,none⟩) uO).trans f1)))
          all_goals go_wp2_with fail
          all_goals
            refine ⟨⟨hb2.drew.trans (hb3.mono hb2.size),k+1,by omega,by push_cast;rfl,?_⟩,by simp only [RowKit.intOf];omega⟩;unfold oH;rw [yak he0,yai fun h=>hin ?_];have:=EU.1 h l[k] (yaL hkl)
            rwa [hat,hln] at this
      · have hkl': ¬(k:Int)<l.length:=by omega
        go_wp2;go_ret;refine ⟨?_,hb2⟩;have hz:oH N l=0:=by
          unfold oH;rw [yak he0,yak (EU.2 fun x hx=>by
            obtain ⟨j,hj,rfl⟩:=ydg hx;exact hall j hj (by omega))]
        rw [hz];rfl
set_option maxRecDepth 100000 in
theorem Tryz.zu4 {A:Nat→Prop} {w:World} {v:Value} {l:List Sg} (h:aL A w v l) (hl:l.length≤1000000):
    Calls prog 74 #[v] w fun e w'=>e= .returned (.tuple #[.int .u64 (iT l).1,.int .u64 (iT l).2])∧Below w.heap.size w w':=by
  have hck:=fun w' (hb:Below w.heap.size w w')=>Kr (aL.below h hb);obtain ⟨sa,c,rfl,hok,hr⟩:=h;unfold iT;by_cases he:gM l=0
  · rw [yak he];rw [he] at hck;have hS1:(fun _:Unit=>dZ false l)=fun _=>dZ false (l.take l.length):=by rw [ycG]
    have hS2:(fun _:Unit=>dZ true l)=fun _=>dZ true (l.take l.length):=by rw [ycG]
    go_enter func74,ntmps74;go_wp2_with fail;go_loopw [4,5,6] (fun x y i wr=>Below w.heap.size w wr∧ ∃k:Nat,k≤l.length∧i= .int .i64 k∧x= .int .u64 (dZ false (l.take k))∧y= .int .u64 (dZ true (l.take k))) (fun _ _ i _=>l.length-(RowKit.intOf i).toNat)
    case atStart=>exact ⟨yag _ w,0,yax _,rfl,rfl,rfl⟩
    case round=>
      obtain ⟨hb2,k,hk,rfl,rfl,rfl⟩:=hrel;by_cases hkl:k<l.length
      · have hkl':(k:Int)<l.length:=by omega
        rcases hr with hr|⟨R,o,rfl,A9,hr⟩
        · subst hr;simp at hkl
        obtain ⟨d0,d1,d2⟩:=EI l k hkl;have e1:=hr _ _ d1;have e2:=hr _ _ d2;have hRl:R<w.heap.size:=yan w _ e1;obtain ⟨q1,q2,q3,q4⟩:=hok l[k] (yaL hkl);have hs1:=Jl false l k hkl;have hs2:=Jl true l k hkl;have b1:=zP false (l.take (k+1)) (fun y hy=>hok y (ybA hy));have b2:=zP true (l.take (k+1)) (fun y hy=>hok y (ybA hy));have hlt:(l.take (k+1)).length≤1000000:=by simp;omega
        have Hw:=hck _ hb2;have g1:wr.cell? ⟨R,o+k*3+1,none⟩=some (.int .u32 l[k].len):=by
          rw [show o+k*3+1=o+(3*k+1) by omega];exact (hb2.cell (p:=⟨R,o+(3*k+1),none⟩) hRl).trans e1
        have g2:wr.cell? ⟨R,o+k*3+2,none⟩=some (.bool l[k].wr):=by
          rw [show o+k*3+2=o+(3*k+2) by omega];exact (hb2.cell (p:=⟨R,o+(3*k+2),none⟩) hRl).trans e2
        have uO:R<wr.heap.size:=yan wr _ g1;have u0:IntKind.wrap .u64 l[k].len=l[k].len:=bE q3 (by omega);clear hr e1 e2 d0 d1 d2 hS1 hS2;cases hw:l[k].wr with
        | false=>
          rw [hw] at g2;rw [yak hw] at hs1;rw [yai (by rw [hw];decide),yds] at hs2;have u1:IntKind.wrap .u64 (dZ false (l.take k)+l[k].len)=dZ false (l.take k)+l[k].len:=bE (by omega) (by omega);generalize l[k].len=n1 at*;generalize hA1:dZ false (l.take k)=S1 at*;generalize hA2:dZ true (l.take k)=S2 at*;clear hA1 hA2;have qg:(fun _:Unit=>dZ false (l.take (k+1)))=fun _=>S1+n1:=by rw [hs1]
          have wT:(fun _:Unit=>dZ true (l.take (k+1)))=fun _=>S2:=by rw [hs2]
          clear hs1 hs2;go_wp2_with (first
            | (go_at_call 80;refine Hw.mono ?_;rintro en w3 ⟨rfl,hb3⟩;have f1:=(hb3.cell (p:=⟨R,o+k*3+1,none⟩) uO).trans g1;have f2:=(hb3.cell (p:=⟨R,o+k*3+2,none⟩) uO).trans g2)
            | go_in)
          exact ⟨⟨hb2.trans (hb3.mono hb2.size),k+1,by omega,by push_cast;rfl,by rw [ybV qg ()],by rw [ybV wT ()]⟩,by simp only [RowKit.intOf];omega⟩
        | true=>
          rw [hw] at g2;rw [yak hw] at hs2;rw [yai (by rw [hw];decide),yds] at hs1;have u1:IntKind.wrap .u64 (dZ true (l.take k)+l[k].len)=dZ true (l.take k)+l[k].len:=bE (by omega) (by omega);generalize l[k].len=n1 at*;generalize hA1:dZ false (l.take k)=S1 at*;generalize hA2:dZ true (l.take k)=S2 at*;clear hA1 hA2;have qg:(fun _:Unit=>dZ false (l.take (k+1)))=fun _=>S1:=by rw [hs1]
          have wT:(fun _:Unit=>dZ true (l.take (k+1)))=fun _=>S2+n1:=by rw [hs2]
          clear hs1 hs2;go_wp2_with (first
            | (go_at_call 80;refine Hw.mono ?_;rintro en w3 ⟨rfl,hb3⟩;have f1:=(hb3.cell (p:=⟨R,o+k*3+1,none⟩) uO).trans g1;have f2:=(hb3.cell (p:=⟨R,o+k*3+2,none⟩) uO).trans g2)
            | go_in)
          exact ⟨⟨hb2.trans (hb3.mono hb2.size),k+1,by omega,by push_cast;rfl,by rw [ybV qg ()],by rw [ybV wT ()]⟩,by simp only [RowKit.intOf];omega⟩
      · have hkl': ¬(k:Int)<l.length:=by omega
        go_wp2;go_ret2;have:k=l.length:=by omega
        subst this;exact ⟨by rw [ybV hS1 (),ybV hS2 ()];rfl,hb2⟩
  · rw [yai he];go_enter func74,ntmps74;go_wp2_with fail;go_loopw [4,5,6] (fun x y i wr=>wr=w∧i= .int .i64 0∧x= .int .u64 0∧y= .int .u64 0) (fun _ _ i _=>0)
    case atStart=>exact ⟨rfl,rfl,rfl,rfl⟩
    case round=>
      obtain ⟨rfl,rfl,rfl,rfl⟩:=hrel;have Hw:=hck _ (yag _ _);have he2:(gM l==0)=false:=by simpa using he
      by_cases hkl:(0:Int)<l.length
      · go_wp2_with (first
          | (go_at_call 80;refine Hw.mono ?_;rintro en w1 ⟨rfl,hb1⟩)
          | go_in)
        go_ret2;exact ⟨rfl,hb1⟩
      · go_wp2_with fail;go_ret2;exact ⟨rfl,yag _ _⟩
end Go.Proofs
namespace Go.Proofs
open Go.Dw Go.RowKit
structure Tryz.PTk where
 ct:Int
 sg:List Sg
structure Tryz.PS where
 ev:Bool
 tb:Bool
 nx:Int
 nw:Bool
 us:Int
 uw:Bool
 tk:List (Int×PTk)
 ou:Int
 ph:Nat
 op:Int
 nn:Bool
 hd:Int
 sg:List Sg
 wr:Int
 it:Bool
 dn:Bool
 br:Bool
section
variable {A:Nat→Prop} {w w':World} {S P L Bs B M N:Nat} {r:Tryz.Rg} {s s':Tryz.PS} {g g':Nat→Int}
end
section
variable {ρ:Val} {w0:World} {K:Nat→Prop} {P L Bs B N:Nat} {g:Nat→Int} {gs:List (Nat→Int)}
end
end Go.Proofs
namespace Go.Proofs
open Go.Dw Go.RowKit Go.Maps Go.Sort Go.Deep
section
variable {A:Nat→Prop} {w w':World} {S P L Bs B N b2:Nat} {r:Tryz.Rg} {s s':Tryz.PS} {g g':Nat→Int} {lv:Value}
theorem Tryz.aL.Il {A':Nat→Prop} {v:Value} {l:List Sg} (h:aL A' w v l) (hk: ∀b,b<w.heap.size→ ¬A' b→w'.heap[b]? =w.heap[b]?):aL A' w' v l:=by
 obtain ⟨sa,c,e,hok,hr⟩:=h;refine ⟨sa,c,e,hok,?_⟩;rcases hr with hr|⟨R,o,q1,q2,q3⟩
 ·exact .inl hr
 ·by_cases hl:l= []
  ·exact .inl hl
  ·exact .inr ⟨R,o,q1,q2,gL q3 (hk R (uz q3 hl) q2)⟩
end
end Go.Proofs
namespace Go.Proofs
open Go.Dw Go.RowKit Go.Maps Go.Sort Go.Deep
theorem Tryz.cZ {K:Nat→Prop} {a w:World} (h:Dw.Mv K a w) (b o:Nat) (v:Value) (hb:K b):Dw.Mv K a (w.setCell ⟨b,o,none⟩ v):=by
 have q:=(Mv.setCell (S:=K) (a:=a) (w:=w) ⟨h.os,h.tape,h.output,h.size,h.block⟩ b o v (.inl hb));exact ⟨q.os,q.tape,q.output,q.size,q.block⟩
theorem Tryz.SW.below {A:Nat→Prop} {w w':World} {S P L Bs B M N:Nat} {r:Rg} {s:SS} {g:Nat→Int} (h:SW A w S P L Bs B M N r s g) (hb:Below w.heap.size w w'):SW A w' S P L Bs B M N r s g:=
 h.kept (hb.block _ h.aj.rO) (hb.block _ h.aj.tO) (fun k hk _=>hb.block k hk) (fun k hk=>by rcases hk with rfl|rfl|rfl|rfl;exact hb.block _ h.mem.pl;exact hb.block _ h.mem.ll;exact hb.block _ h.mem.sl;exact hb.block _ h.mem.bl) hb.size
theorem Tryz.aG.Un {t:TypeId} {w:World} {b2:Nat} {v:Value} {xs:List Int} (h:aG t 1 w b2 v xs.length (bg xs)):yJ w v xs:=by
 obtain ⟨sa,c,e,hr⟩:=aG.row h;refine ⟨sa,c,e,?_⟩;rcases hr with hr|⟨G,e2,_,hG⟩
 ·left;have:=yaH List.length hr;simp [bg] at this;exact yb0.1 (by simpa using this)
 ·exact .inr ⟨G,0,e2,hG⟩
theorem Tryz.aG.cap {t:TypeId} {sz n:Nat} {w:World} {b2:Nat} {sa:Option Addr} {c:Nat} {cs:List Value} (h:aG t sz w b2 (.slice sa n c) n cs) (hn:0<n):n≤c:=by
 obtain ⟨h1,h2⟩:=h;rcases h2 with ⟨h2,h3⟩|⟨G,cap,cur,e,h3,h4,h5,_⟩
 ·omega
 ·cases e;exact h5
theorem Tryz.YL {w w':World} {G o:Nat} {cs:List Value} {row:Option Nat} (h:w.rangeAt G o cs) (hg:w.grownBy w' row) (hl:G<w.heap.size) (hn:some G≠row):w'.rangeAt G o cs:=gL h (hg.block G hl hn)
theorem Tryz.zmt {w:World} {G:Nat} {cs:List Value} (h:w.rangeAt G 0 cs) (k:Nat): ∀j u,(cs.take k)[j]? =some u→w.cell? ((⟨G,0,none⟩:Addr).add j)=some u:=fun j u hu=>by
 rw [Dw.addr_add];rw [List.getElem?_take] at hu;split at hu
 ·have:=h j u hu
  rwa [yaq] at this ⊢
 ·cases hu
theorem Tryz.zvO {w:World} {G:Nat} {cs:List Value} (h:w.rangeAt G 0 cs) (k:Nat): ∀j u,(cs.drop k)[j]? =some u→w.cell? ((⟨G,k,none⟩:Addr).add j)=some u:=fun j u hu=>by
 rw [Dw.addr_add];rw [yb7] at hu;have:=h (k+j) u hu
 rwa [yaq] at this
theorem Tryz.Zq {w:World} {G:Nat} {cs:List Value} (h:w.rangeAt G 0 cs) {k c:Nat} (hc:cs.length≤c): ∀j u,(cs.drop k)[j]? =some u→w.cell? ((if c=k then (⟨G,0,none⟩:Addr) else ⟨G,k,none⟩).add j)=some u:=fun j u hu=>by
 by_cases hk:c=k
 ·subst hk;rw [List.drop_eq_nil_of_le hc] at hu;cases hu
 ·rw [yai hk];exact zvO h k j u hu
theorem Tryz.gN {K:Nat→Prop} {a w:World} (h:Dw.Mv K a w) (b o:Nat) (v:Value) (hb:K b∨a.heap.size≤b):Dw.Mv K a (w.setCell ⟨b,o,none⟩ v):=by
 have q:=(Mv.setCell (S:=K) (a:=a) (w:=w) ⟨h.os,h.tape,h.output,h.size,h.block⟩ b o v hb);exact ⟨q.os,q.tape,q.output,q.size,q.block⟩
theorem Tryz.eO {K:Nat→Prop} {a w:World} (h:Below a.heap.size a w):Dw.Mv K a w:=⟨h.os,h.tape,h.output,h.size,fun b hb _=>h.block b hb⟩
def Tryz.dI:List (Int×List Sg)→List Value→List Value
 | e::r,v::vs=> .int .i64 e.1::v::dI r vs
 | _,_=> []
theorem Tryz.vF: ∀(tk:List (Int×List Sg)) (vs:List Value),vs.length=tk.length→(dI tk vs).length=tk.length*2
 | [], vs,_=>by cases vs<;>rfl
 | e::r,[],h=>by simp at h
 | e::r,v::vs,h=>by
  have:=vF r vs (by simpa using h);simp only [dI,yaW,this];omega
theorem Tryz.ET: ∀(tk:List (Int×List Sg)) (vs:List Value) (h:vs.length=tk.length) (i:Nat) (hi:i<tk.length),(dI tk vs)[i*2]? =some (.int .i64 tk[i].1)∧(dI tk vs)[i*2+1]? =some (vs[i]'(by omega))
 | e::r,v::vs,h,0,_=>⟨rfl,rfl⟩
 | e::r,v::vs,h,i+1,hi=>by
  have q:=ET r vs (by simpa using h) i (by simpa using hi);simp only [dI,show (i+1)*2=i*2+1+1 by omega];simpa using q
theorem Tryz.Xy: ∀(tk:List (Int×List Sg)) (vs:List Value) (_:vs.length=tk.length) (e:Int×List Sg) (v:Value),dI (tk++ [e]) (vs++ [v])=dI tk vs++ [.int .i64 e.1,v]
 | [], [], _,e,v=>rfl
 | x::r,[],h,_,_=>by simp at h
 | x::r,y::vs,h,e,v=>by
  simp only [yb3,dI,Xy r vs (by simpa using h) e v]
def Tryz.wu (A:Nat→Prop) (w:World) (b2:Nat) (lv:Value) (tk:List (Int×List Sg)) (vs:List Value):Prop:=
 vs.length=tk.length∧(∃t,aG t 2 w b2 lv tk.length (dI tk vs))∧ ∀(i:Nat) (h:i<tk.length) (h':i<vs.length),aL (fun b=>A b∨lv.ownBlock=some b) w vs[i] tk[i].2
def Tryz.SS.aI (s:SS) (r:Rg) (P:Nat) (sv lv:Value):List Value:=
 [.pointer (some ⟨P,0,none⟩),.bool false,.int .i64 r.n,.int .u64 r.d,.int .u64 r.v,.int .u64 r.c,.bool s.ev,.bool s.tb,.bool s.pk,.int .u16 s.nx,.int .u16 s.us,lv,.int .i64 s.ph,
  .int .i64 s.op,.bool s.nn,.int .i64 s.hd,sv,.int .u32 s.wr,.bool s.it,.bool s.dn,.bool s.br]
set_option maxRecDepth 100000 in
theorem Tryz.Jm {A:Nat→Prop} {w:World} {S b2:Nat} {lv:Value} {tk:List (Int×List Sg)} {vs:List Value} (h11:w.cell? ⟨S,11,none⟩=some lv) (hL:wu A w b2 lv tk vs) (hl:tk.length≤100000) (id:Int) (i:Int) (hi:(i= -1∧ ∀(j:Nat) (hj:j<tk.length),tk[j].1≠id)∨ ∃(k:Nat) (hk:k<tk.length),i=k∧tk[k].1=id∧ ∀(j:Nat) (hj:j<k),tk[j].1≠id):
  Calls prog 73 #[.pointer (some ⟨S,0,none⟩),.int .i64 id] w fun e w'=>e= .returned (.int .i64 i)∧Below w.heap.size w w':=by
 obtain ⟨hvl,⟨t,hrow⟩,_⟩:=hL;obtain ⟨sa,c,rfl,hr⟩:=aG.row hrow;have hi':(fun _:Unit=>i)=fun _=>i:=rfl;go_enter func73,ntmps73;go_wp2_with fail;go_loopw [5] (fun x wr=>wr=w∧ ∃k:Nat,k≤tk.length∧x= .int .i64 k∧ ∀(j:Nat) (hj:j<tk.length),j<k→tk[j].1≠id) (fun x _=>tk.length-(RowKit.intOf x).toNat)
 case atStart=>exact ⟨rfl,0,yax _,rfl,fun j _ hj=>absurd hj (by omega)⟩
 case round=>
  obtain ⟨rfl,k,hk,rfl,hall⟩:=hrel;by_cases hkl:k<tk.length
  ·have hkl':(k:Int)<tk.length:=by omega
   rcases hr with hr|⟨G,rfl,_,hr⟩
   ·have:=yaH List.length hr;rw [vF tk vs hvl] at this;simp only [ybv] at this;omega
   have e1:=hr _ _ (ET tk vs hvl k hkl).1;rw [yaq] at e1;clear hr hrow;by_cases hid:tk[k].1=id
   ·have hik:i=k:=by
     rcases hi with ⟨_,q⟩|⟨k',hk',q1,q2,q3⟩
     ·exact absurd hid (q k hkl)
     ·rcases Nat.lt_trichotomy k k' with z|z|z
      ·exact absurd hid (q3 k z)
      ·rw [q1,z]
      ·exact absurd q2 (hall k' hk' z)
    clear hi hi';subst hik;rw [hid] at e1;clear hid;go_wp2;go_ret;exact ⟨rfl,yag _ _⟩
   ·have aaC:(tk[k].1==id)=false:=by simpa using hid
    generalize hx:tk[k].1=x at e1 hid aaC;clear hi';go_wp2;refine ⟨⟨trivial,k+1,by omega,by push_cast;rfl,fun j hj hlt=> ?_⟩,by simp only [RowKit.intOf];omega⟩;by_cases hjk:j=k
    ·subst hjk;rw [hx];exact hid
    ·exact hall j hj (by omega)
  ·have hkl': ¬(k:Int)<tk.length:=by omega
   have him:i= -1:=by
    rcases hi with ⟨q,_⟩|⟨k',hk',_,q,_⟩
    ·exact q
    ·exact absurd q (hall k' hk' (by omega))
   subst him;go_wp2;go_ret;exact ⟨rfl,yag _ _⟩
structure Tryz.eF (s:SS):Prop where
 nx:0≤s.nx∧s.nx<65536
 us:0≤s.us∧s.us<65536
 hd:0≤s.hd∧s.hd<65536
 wr:0≤s.wr∧s.wr<4294967296
 ph:s.ph≤7∨(11≤s.ph∧s.ph≤15)
 ret:11≤s.ph→ ∃t,dP s.hd s.tk=some t
structure Tryz.aV (A:Nat→Prop) (w:World) (S P L Bs B N b2:Nat) (r:Rg) (s:SS) (g:Nat→Int) (lv:Value):Prop where
 obj: ∃sv vs,Cl w S (s.aI r P sv lv)∧aL (fun b=>A b∨lv.ownBlock=some b) w sv s.sg∧wu A w b2 lv s.tk vs
 rm:bO w P L Bs B N g
 aS:A S
 aB:A B
 lt: ∀b,A b→b<w.heap.size
 lo:S<b2∧P<b2∧L<b2∧Bs<b2∧B<b2
 b2:b2≤w.heap.size
 sd:S≠P∧S≠L∧S≠Bs∧S≠B
 rg:RgOk r
 pb:eF s
 hN:N≤1048576
 fit:r.d+16*r.n≤N∧r.v+6+2*r.n≤N∧r.c+6+8*r.n≤N
 dn:(s.ph≠0∨s.br=true)→s.dn=false
 mP: ∀e∈s.tk,0≤e.1∧e.1<65536
 nd:(s.tk.map (·.1)).Nodup
section
variable {A:Nat→Prop} {w w':World} {S P L Bs B N b2:Nat} {r:Tryz.Rg} {s s':Tryz.SS} {g g':Nat→Int} {lv:Value}
theorem Tryz.wu.kept {tk:List (Int×List Sg)} {vs:List Value} (h:wu A w b2 lv tk vs) (hk: ∀b,b<w.heap.size→ ¬A b→w'.heap[b]? =w.heap[b]?) (hl: ∀b,lv.ownBlock=some b→w'.heap[b]? =w.heap[b]?):wu A w' b2 lv tk vs:=by
 obtain ⟨h1,⟨t,h2⟩,h3⟩:=h;exact ⟨h1,⟨t,h2.kept hl⟩,fun i q q'=>(h3 i q q').Il fun b hb hn=>hk b hb fun q=>hn (.inl q)⟩
theorem Tryz.aV.UZ (h:aV A w S P L Bs B N b2 r s g lv) (hm:Dw.Mv (· =S) w w') {nH:Value} (hc:Cl w' S (s'.aI r P nH lv)) (hsv:aL (fun b=>A b∨lv.ownBlock=some b) w' nH s'.sg) (ht:s'.tk=s.tk) (hp:eF s') (hd:(s'.ph≠0∨s'.br=true)→s'.dn=false):aV A w' S P L Bs B N b2 r s' g lv:=by
 obtain ⟨sv,vs,q1,q2,q3⟩:=h.obj;obtain ⟨_,⟨t,hrow⟩,_⟩:=id q3;refine ⟨⟨nH,vs,hc,hsv,?_⟩,h.rm.lF hm h.sd,h.aS,h.aB,fun b hb=>yad (h.lt b hb) hm.size,h.lo,yau h.b2 hm.size,h.sd,h.rg,hp,h.hN,h.fit,hd,ht▸h.mP,ht▸h.nd⟩;rw [ht];exact q3.kept (fun b hb hn=>hm.block b hb fun e=>by have e:b=S:=e;exact hn (e▸h.aS)) (fun b e=>hm.block b (hrow.lt b e).2 fun e2=>by have e2:b=S:=e2;have:=(hrow.lt b e).1;have:=h.lo.1;omega)
theorem Tryz.aV.below (h:aV A w S P L Bs B N b2 r s g lv) (hb:Below w.heap.size w w'):aV A w' S P L Bs B N b2 r s g lv:=by
 obtain ⟨sv,vs,q1,q2,q3⟩:=h.obj;obtain ⟨_,⟨t,hrow⟩,_⟩:=id q3;exact ⟨⟨sv,vs,q1.below hb q1.lt,q2.Il fun b hh _=>hb.block b hh,q3.kept (fun b hh _=>hb.block b hh) (fun b e=>hb.block b (hrow.lt b e).2)⟩,h.rm.below hb,h.aS,h.aB,fun b hh=>yad (h.lt b hh) hb.size,h.lo,yau h.b2 hb.size,h.sd,h.rg,h.pb,h.hN,h.fit,h.dn,h.mP,h.nd⟩
end
set_option maxRecDepth 100000 in
theorem Tryz.zvf {A:Nat→Prop} {w:World} {S P L Bs B N b2:Nat} {r:Rg} {s:SS} {g:Nat→Int} {lv:Value} (h:aV A w S P L Bs B N b2 r s g lv):
  Calls prog 46 #[.pointer (some ⟨S,0,none⟩)] w fun e w'=>e= .returned (.int .i64 (if s.br then 4 else 0))∧w'=w:=by
 obtain ⟨sv,vs,q1,_⟩:=h.obj;have oJ:=q1.cell 20 _ rfl;go_enter func46,ntmps46;cases hb:s.br<;>rw [hb] at oJ<;>(go_wp2_with fail;go_ret;exact ⟨rfl,rfl⟩)
end Go.Proofs
namespace Go.Proofs
open Go.Dw Go.RowKit Go.Maps Go.Sort Go.Deep
theorem Tryz.eF.begin {s:SS} (h:eF s) (p:Nat) (op hd wr:Int) (hp:p≤7∨(11≤p∧p≤15)∧ ∃t,dP hd s.tk=some t) (hh:0≤hd∧hd<65536) (hw:0≤wr∧wr<4294967296):eF (({ s with op:=op,nn:=false,hd:=hd,sg:= [],wr:=wr,it:=false }:SS).goto p):=⟨h.nx,h.us,hh,hw,by show p≤7∨(11≤p∧p≤15);omega,fun q=>by
  rcases hp with hp|⟨_,hp⟩
  ·have q:11≤p:=q;omega
  ·exact hp⟩
theorem Tryz.eF.goto {s:SS} (h:eF s) (p:Nat) (hp:p≤7∨11≤s.ph∧11≤p∧p≤15):eF (s.goto p):=⟨h.nx,h.us,h.hd,h.wr,by show p≤7∨(11≤p∧p≤15);omega,fun q=>by
  have q:11≤p:=q;rcases hp with hp|hp
  ·omega
  ·exact h.ret hp.1⟩
set_option maxRecDepth 100000 in
theorem Tryz.zq6 {A:Nat→Prop} {w:World} {S P L Bs B N b2:Nat} {r:Rg} {s:SS} {g:Nat→Int} {lv:Value} (h:aV A w S P L Bs B N b2 r s g lv):
  Calls prog 34 #[.pointer (some ⟨S,0,none⟩)] w fun e w'=>e= .returned (.int .i64 (sI s).1)∧aV A w' S P L Bs B N b2 r (sI s).2 g lv∧Dw.Mv (· =S) w w':=by
 obtain ⟨sv,vs,q1,q2,q3⟩:=h.obj;have c14:=q1.cell 12 _ rfl;have c15:=q1.cell 13 _ rfl;have c16:=q1.cell 14 _ rfl;have c17:=q1.cell 15 _ rfl;have c18:=q1.cell 16 _ rfl;have c19:=q1.cell 17 _ rfl;have c20:=q1.cell 18 _ rfl;have c21:=q1.cell 19 _ rfl;have oJ:=q1.cell 20 _ rfl;have f14:=q1.free 12;have f15:=q1.free 13;have f16:=q1.free 14;have f17:=q1.free 15;have f18:=q1.free 16;have f19:=q1.free 17;have f20:=q1.free 18;have f21:=q1.free 19;unfold sI;cases hb:s.br with
 | true=>
  rw [hb] at oJ;rw [yak rfl];go_enter func34,ntmps34;go_wp2_with fail;go_ret;exact ⟨rfl,h,Dw.Mv.refl _ _⟩
 | false=>
  rw [hb] at oJ;rw [yai (by decide)];by_cases hp:s.ph=0
  ·rw [yai (by rw [hp];decide)];have ha:(s.ph:Int)=0:=by rw [hp];rfl
   rw [ha] at c14;have hC:=(((((((q1.set 12 (.int .i64 1) (by simp [SS.aI])).set 19 (.bool false) (by simp [SS.aI])).set 13 (.int .i64 3) (by simp [SS.aI])).set 14 (.bool false) (by simp [SS.aI])).set 15 (.int .i64 0) (by simp [SS.aI])).set 16 (.slice none 0 0) (by simp [SS.aI])).set 17 (.int .u32 0) (by simp [SS.aI])).set 18 (.bool false) (by simp [SS.aI]);obtain ⟨s',hs'⟩: ∃s':SS,s'=(({ s with op:=3,nn:=false,hd:=0,sg:= [],wr:=0,it:=false }:SS).goto 1):=⟨_,rfl⟩;have hrow:((((((((s.aI r P sv lv).set 12 (.int .i64 1)).set 19 (.bool false)).set 13 (.int .i64 3)).set 14 (.bool false)).set 15 (.int .i64 0)).set 16 (.slice none 0 0)).set 17 (.int .u32 0)).set 18 (.bool false)=s'.aI r P (.slice none 0 0) lv:=by
    rw [hs'];unfold SS.aI;rw [hb];rfl
   rw [hrow] at hC;have hpb:eF s':=hs'▸h.pb.begin 1 3 0 0 (.inl (by decide)) ⟨by decide,by decide⟩ ⟨by decide,by decide⟩;have t1:s'.tk=s.tk:=by rw [hs'];rfl
   have t2:s'.sg= []:=by rw [hs'];rfl
   have t3:s'.ph=1:=by rw [hs'];rfl
   have t4:s'.dn=false:=by rw [hs'];rfl
   show Calls _ _ _ _ fun e w'=>e= .returned (.int .i64 0)∧aV A w' S P L Bs B N b2 r (({ s with op:=3,nn:=false,hd:=0,sg:= [],wr:=0,it:=false }:SS).goto 1) g lv∧Dw.Mv (· =S) w w';rw [←hs'];clear hs' hrow;go_enter func34,ntmps34;go_wp2_with fail;go_ret;have hm:=cZ (cZ (cZ (cZ (cZ (cZ (cZ (cZ (Dw.Mv.refl (· =S) w) S 12 (.int .i64 1) rfl) S 19 (.bool false) rfl) S 13 (.int .i64 3) rfl) S 14 (.bool false) rfl) S 15 (.int .i64 0) rfl) S 16 (.slice none 0 0) rfl) S 17 (.int .u32 0) rfl) S 18 (.bool false) rfl;exact ⟨rfl,h.UZ hm hC (by rw [t2];exact aL.none) t1 hpb (fun _=>t4),hm⟩
  ·rw [yak hp];have ha: ¬(s.ph:Int)=0:=by
    omega
   generalize (s.ph:Int)=di at c14 ha;go_enter func34,ntmps34;go_wp2_with fail;go_ret;exact ⟨rfl,h,Dw.Mv.refl _ _⟩
theorem Tryz.Ez {h:Int}: ∀ {tk:List (Int×List Sg)},dP h tk=none→ ∀(j:Nat) (hj:j<tk.length),tk[j].1≠h
 | [], _,j,hj=>by simp at hj
 | e::r,hh,j,hj=>by
  unfold dP at hh;split at hh
  ·cases hh
  ·rename_i hne;cases j with
   | zero=>exact fun q=>hne q.symm
   | succ j=>exact Ez hh j (by simpa using hj)
theorem Tryz.Ey {h:Int} {t:List Sg}: ∀ {tk:List (Int×List Sg)},dP h tk=some t→ ∃(k:Nat) (hk:k<tk.length),tk[k].1=h∧tk[k].2=t∧ ∀(j:Nat) (hj:j<k),tk[j].1≠h
 | [], hh=>by cases hh
 | e::r,hh=>by
  unfold dP at hh;split at hh
  ·rename_i he;cases hh;exact ⟨0,by simp,he.symm,rfl,fun j hj=>absurd hj (by omega)⟩
  ·rename_i hne;obtain ⟨k,hk,q1,q2,q3⟩:=Ey hh;refine ⟨k+1,by simpa using hk,q1,q2,fun j hj=> ?_⟩;cases j with
   | zero=>exact fun q=>hne q.symm
   | succ j=>exact q3 j (by omega)
set_option maxRecDepth 100000 in
theorem Tryz.zva {A:Nat→Prop} {w:World} {S P L Bs B N b2:Nat} {r:Rg} {s:SS} {g:Nat→Int} {lv:Value} (h:aV A w S P L Bs B N b2 r s g lv) (hl:s.tk.length≤100000) (hlen: ∀e∈s.tk,e.2.length≤1000000) (hd wr:Int) (hw:0≤wr∧wr<4294967296):
    Calls prog 35 #[.pointer (some ⟨S,0,none⟩),.int .i64 hd,.int .u32 wr] w fun e w'=>e= .returned (.int .i64 (nE s hd wr).1)∧aV A w' S P L Bs B N b2 r (nE s hd wr).2 g lv∧Dw.Mv (· =S) w w':=by
  obtain ⟨sv,vs,q1,q2,q3⟩:=h.obj;have c11:=q1.cell 11 _ rfl;have c12:=q1.cell 12 _ rfl;have c20:=q1.cell 20 _ rfl;unfold nE;cases hb:s.br with
  | true=>
    rw [hb] at c20;rw [yak rfl];go_enter func35,ntmps35;go_wp2_with fail;go_ret;exact ⟨rfl,h,Dw.Mv.refl _ _⟩
  | false=>
    rw [hb] at c20;rw [yai (by decide)];by_cases hp:s.ph=0
    · rw [yai (by rw [hp];decide)];have ha:(s.ph:Int)=0:=by rw [hp];rfl
      rw [ha] at c12;have hfind:=fun i hi=>Jm (w:=w) (S:=S) c11 q3 hl hd i hi;cases hg:dP hd s.tk with
      | none=>
        have hf:=hfind (-1) (.inl ⟨rfl,Ez hg⟩);clear hfind;go_enter func35,ntmps35;go_wp2_with (first
          | (go_at_call 73;refine hf.mono ?_;rintro en w1 ⟨rfl,hb1⟩)
          | go_in)
        go_ret;exact ⟨rfl,h.below hb1,⟨hb1.os,hb1.tape,hb1.output,hb1.size,fun b hh _=>hb1.block b hh⟩⟩
      | some t=>
        obtain ⟨k,hk,k1,k2,k3⟩:=Ey hg;have hf:=hfind k (.inr ⟨k,hk,rfl,k1,k3⟩);clear hfind;have hvk:k<vs.length:=by rw [q3.1];exact hk
        have hsv:=q3.2.2 k hk hvk;have hlk:s.tk[k].2.length≤1000000:=hlen _ (yaL hk);obtain ⟨_,⟨ty,hrow⟩,_⟩:=id q3;obtain ⟨sa,c,hlv,hr⟩:=aG.row hrow;rcases hr with hr|⟨G,rfl,hG,hr⟩
        · have:=yaH List.length hr;rw [vF s.tk vs q3.1] at this;simp only [ybv] at this;omega
        obtain ⟨d0,d1⟩:=ET s.tk vs q3.1 k hk;have e2:=hr _ _ d1;rw [yaq] at e2;rw [k2] at hsv hlk;have uL:G<w.heap.size:=yan w _ e2;have hkl:(k:Int)<s.tk.length:=by omega
        have hk0: ¬(k:Int)<0:=by omega
        have htb:=WY (l:=t) (by obtain ⟨_,_,_,q,_⟩:=hsv;exact q);have htot:=fun w1 (hb1:Below w.heap.size w w1)=>zu4 (aL.below hsv hb1) hlk;have hwr:IntKind.wrap .u64 wr=wr:=bE hw.1 (by omega);have hcap:s.tk.length≤c:=by rw [hlv] at hrow;exact aG.cap hrow (by omega)
        subst hlv;generalize vs[k]=vk at e2 htot;have yV: ∀ {x y:World},Below x.heap.size x y→Dw.Mv (· =S) x y:=fun h=>⟨h.os,h.tape,h.output,h.size,fun b hb _=>h.block b hb⟩;by_cases hlt:(iT t).2<wr
        · show Calls _ _ _ _ fun e w'=>e= .returned (.int .i64 (if (iT t).2<wr then ((2:Int),s) else _).1)∧aV A w' S P L Bs B N b2 r (if (iT t).2<wr then ((2:Int),s) else _).2 g _∧Dw.Mv (· =S) w w';rw [yak hlt];generalize (iT t).1=T1 at htot htb;generalize (iT t).2=T2 at htot htb hlt;go_enter func35,ntmps35;go_wp2_with (first
            | (go_at_call 73;refine hf.mono ?_;rintro en w1 ⟨rfl,hb1⟩;have y13:=(hb1.cell (p:=⟨S,11,none⟩) q1.lt).trans c11;have y2:=(hb1.cell (p:=⟨G,k*2+1,none⟩) uL).trans e2)
            | (go_at_call 74;refine (htot _ hb1).mono ?_;rintro en w2 ⟨rfl,hb2⟩)
            | go_in)
          go_ret;exact ⟨rfl,(h.below hb1).below hb2,(yV hb1).trans (yV hb2)⟩
        · show Calls _ _ _ _ fun e w'=>e= .returned (.int .i64 (if (iT t).2<wr then ((2:Int),s) else _).1)∧aV A w' S P L Bs B N b2 r (if (iT t).2<wr then ((2:Int),s) else _).2 g _∧Dw.Mv (· =S) w w';rw [yai hlt];obtain ⟨s',hs'⟩: ∃s':SS,s'=(({ s with op:=4,nn:=false,hd:=hd,sg:= [],wr:=wr,it:=false }:SS).goto 11):=⟨_,rfl⟩;show Calls _ _ _ _ fun e w'=>e= .returned (.int .i64 0)∧aV A w' S P L Bs B N b2 r (({ s with op:=4,nn:=false,hd:=hd,sg:= [],wr:=wr,it:=false }:SS).goto 11) g _∧Dw.Mv (· =S) w w';rw [←hs'];have Ia:=h.mP _ (yaL hk);rw [k1] at Ia;have hpb:eF s':=hs'▸h.pb.begin 11 4 hd wr (.inr ⟨by decide,t,hg⟩) Ia hw;have t1:s'.tk=s.tk:=by rw [hs'];rfl
          have t2:s'.sg= []:=by rw [hs'];rfl
          have t4:s'.dn=false:=by rw [hs'];rfl
          have hrow2: ∀lv,(((((((((s.aI r P sv lv).set 12 (.int .i64 11)).set 19 (.bool false)).set 13 (.int .i64 4)).set 14 (.bool false)).set 15 (.int .i64 hd)).set 16 (.slice none 0 0)).set 17 (.int .u32 wr)).set 18 (.bool false))=s'.aI r P (.slice none 0 0) lv:=fun lv=>by
            rw [hs'];unfold SS.aI;rw [hb];rfl
          clear hs';generalize (iT t).1=T1 at htot htb;generalize (iT t).2=T2 at htot htb hlt;go_enter func35,ntmps35;go_wp2_with (first
            | (go_at_call 73;refine hf.mono ?_;rintro en w1 ⟨rfl,hb1⟩;have y13:=(hb1.cell (p:=⟨S,11,none⟩) q1.lt).trans c11;have y2:=(hb1.cell (p:=⟨G,k*2+1,none⟩) uL).trans e2)
            | (go_at_call 74;refine (htot _ hb1).mono ?_;rintro en w2 ⟨rfl,hb2⟩;have z1:=(q1.below hb1 q1.lt).below hb2 (yad q1.lt hb1.size);have z14:=z1.cell 12 _ rfl;have BI:=z1.cell 13 _ rfl;have o8:=z1.cell 14 _ rfl;have z17:=z1.cell 15 _ rfl;have z18:=z1.cell 16 _ rfl;have z19:=z1.cell 17 _ rfl;have z20:=z1.cell 18 _ rfl;have z21:=z1.cell 19 _ rfl;have f14:=z1.free 12;have f15:=z1.free 13;have f16:=z1.free 14;have f17:=z1.free 15;have f18:=z1.free 16;have f19:=z1.free 17;have f20:=z1.free 18;have f21:=z1.free 19)
            | go_in)
          go_ret;have hC:=(((((((z1.set 12 (.int .i64 11) (by simp [SS.aI])).set 19 (.bool false) (by simp [SS.aI])).set 13 (.int .i64 4) (by simp [SS.aI])).set 14 (.bool false) (by simp [SS.aI])).set 15 (.int .i64 hd) (by simp [SS.aI])).set 16 (.slice none 0 0) (by simp [SS.aI])).set 17 (.int .u32 wr) (by simp [SS.aI])).set 18 (.bool false) (by simp [SS.aI]);rw [hrow2] at hC;have hm:=cZ (cZ (cZ (cZ (cZ (cZ (cZ (cZ (Dw.Mv.refl (· =S) w2) S 12 (.int .i64 11) rfl) S 19 (.bool false) rfl) S 13 (.int .i64 4) rfl) S 14 (.bool false) rfl) S 15 (.int .i64 hd) rfl) S 16 (.slice none 0 0) rfl) S 17 (.int .u32 wr) rfl) S 18 (.bool false) rfl;exact ⟨rfl,((h.below hb1).below hb2).UZ hm hC (by rw [t2];exact aL.none) t1 hpb (fun _=>t4),((yV hb1).trans (yV hb2)).trans hm⟩
    · rw [yak hp];have ha: ¬(s.ph:Int)=0:=by omega
      generalize (s.ph:Int)=di at c12 ha;go_enter func35,ntmps35;go_wp2_with fail;go_ret;exact ⟨rfl,h,Dw.Mv.refl _ _⟩
set_option maxRecDepth 100000 in
theorem Tryz.og {w:World} {S:Nat} {l:List Value} (h:Cl w S l) (hl:l.length=21) {x14:Int} {x21:Bool} (e14:l[12]? =some (.int .i64 x14)) (e21:l[19]? =some (.bool x21)) (k what i di:Int) (b:Bool) (hb:(di==0)=b):
  Calls prog 105 #[.pointer (some ⟨S,0,none⟩),.agg #[.int .i64 k,.int .i64 what,.int .i64 i],.bool true,.int .i64 di] w fun e w'=>e= .returned (.tuple #[.agg #[.int .i64 k,.int .i64 what,.int .i64 i],.int .i64 0])∧Cl w' S ((l.set 12 (.int .i64 di)).set 19 (.bool b))∧Dw.Mv (· =S) w w':=by
 have hb2:=((yag w.heap.size w).alloc (yab _) (Obj.cells #[.int .i64 k,.int .i64 what,.int .i64 i] 81)).alloc (by simp) (Obj.cells #[.int .i64 0,.int .i64 0,.int .i64 0] 81);have k5:=(Cl.new w #[.int .i64 k,.int .i64 what,.int .i64 i] 81).alloc (Obj.cells #[.int .i64 0,.int .i64 0,.int .i64 0] 81);have k8:=Cl.new2 (w:=w.alloc (Obj.cells #[.int .i64 k,.int .i64 what,.int .i64 i] 81)) (b:=w.heap.size+1) (arr:= #[.int .i64 0,.int .i64 0,.int .i64 0]) (t:=81) (by simp);have hS:=h.below hb2 h.lt;have hlt:=h.lt;have c14:=hS.cell 12 _ e14;have c21:=hS.cell 19 _ e21;have f14:=hS.free 12;have f21:=hS.free 19;clear e14 e21;have hS2:=(hS.set 12 (.int .i64 di) (by rw [hl];decide)).set 19 (.bool b) (by rw [List.length_set,hl];decide);have hm2:=cZ (cZ (eO (K:=(· =S)) hb2) S 12 (.int .i64 di) rfl) S 19 (.bool b) rfl;have n1:w.heap.size≠S:=by omega
 have n2:w.heap.size+1≠S:=by omega
 have j5:=(k5.kept (yah _ ⟨S,12,none⟩ (.int .i64 di) w.heap.size n1)).kept (yah _ ⟨S,19,none⟩ (.bool b) w.heap.size n1);have j8:=(k8.kept (yah _ ⟨S,12,none⟩ (.int .i64 di) (w.heap.size+1) n2)).kept (yah _ ⟨S,19,none⟩ (.bool b) (w.heap.size+1) n2);have a0:=j5.cell 0 _ rfl;have a1:=j5.cell 1 _ rfl;have a2:=j5.cell 2 _ rfl;have b0:=j8.cell 0 _ rfl;have b1:=j8.cell 1 _ rfl;have b2:=j8.cell 2 _ rfl;have g0:=j8.free 0;have g1:=j8.free 1;have g2:=j8.free 2;clear hl k5 k8 hS;go_enter func105,ntmps105;clear hlt;go_wp2_with fail;have hlt:=h.lt;have sf:=((j8.set 0 (.int .i64 k) (by simp)).set 1 (.int .i64 what) (by simp)).set 2 (.int .i64 i) (by simp);refine yaI (gI rfl _ _ (w.heap.size+1) [.int .i64 k,.int .i64 what,.int .i64 i] _ rfl (fun j y hy=>by rw [yaq];exact sf.cell j y hy) underlying81 rfl (by kernel_rfl)) rfl ?_;exact ⟨rfl,((hS2.kept (yah _ ⟨w.heap.size+1,0,none⟩ _ S (fun e=>n2 e.symm))).kept (yah _ ⟨w.heap.size+1,1,none⟩ _ S (fun e=>n2 e.symm))).kept (yah _ ⟨w.heap.size+1,2,none⟩ _ S (fun e=>n2 e.symm)),gN (gN (gN hm2 (w.heap.size+1) 0 _ (.inr (by omega))) (w.heap.size+1) 1 _ (.inr (by omega))) (w.heap.size+1) 2 _ (.inr (by omega))⟩
set_option maxRecDepth 100000 in
theorem Tryz.zoD {w:World} {S P:Nat} {r:Rg} {s:SS} {sv lv:Value} (h:Cl w S (s.aI r P sv lv)) (k what i di:Int) (hdn:s.dn=false):
  Calls prog 105 #[.pointer (some ⟨S,0,none⟩),.agg #[.int .i64 k,.int .i64 what,.int .i64 i],.bool false,.int .i64 di] w fun e w'=>e= .returned (.tuple #[.agg #[.int .i64 k,.int .i64 what,.int .i64 i],.int .i64 4])∧Cl w' S (s.brk.aI r P (.slice none 0 0) lv)∧Dw.Mv (· =S) w w':=by
 have hb2:=((yag w.heap.size w).alloc (yab _) (Obj.cells #[.int .i64 k,.int .i64 what,.int .i64 i] 81)).alloc (by simp) (Obj.cells #[.int .i64 0,.int .i64 0,.int .i64 0] 81);have k5:=(Cl.new w #[.int .i64 k,.int .i64 what,.int .i64 i] 81).alloc (Obj.cells #[.int .i64 0,.int .i64 0,.int .i64 0] 81);have k8:=Cl.new2 (w:=w.alloc (Obj.cells #[.int .i64 k,.int .i64 what,.int .i64 i] 81)) (b:=w.heap.size+1) (arr:= #[.int .i64 0,.int .i64 0,.int .i64 0]) (t:=81) (by simp);have hS:=h.below hb2 h.lt;have hlt:=h.lt;have c14:=hS.cell 12 _ rfl;have c15:=hS.cell 13 _ rfl;have c16:=hS.cell 14 _ rfl;have c17:=hS.cell 15 _ rfl;have c18:=hS.cell 16 _ rfl;have c19:=hS.cell 17 _ rfl;have c20:=hS.cell 18 _ rfl;have c21:=hS.cell 19 _ rfl;have oJ:=hS.cell 20 _ rfl;have f14:=hS.free 12;have f15:=hS.free 13;have f16:=hS.free 14;have f17:=hS.free 15;have f18:=hS.free 16;have f19:=hS.free 17;have f20:=hS.free 18;have f21:=hS.free 19;have f22:=hS.free 20;have hrow:(((((((((s.aI r P sv lv).set 20 (.bool true)).set 12 (.int .i64 0)).set 19 (.bool false)).set 13 (.int .i64 0)).set 14 (.bool false)).set 15 (.int .i64 0)).set 16 (.slice none 0 0)).set 17 (.int .u32 0)).set 18 (.bool false)=s.brk.aI r P (.slice none 0 0) lv:=by
  unfold SS.aI SS.brk;rw [hdn];rfl
 have hS2:=((((((((hS.set 20 (.bool true) (by simp [SS.aI])).set 12 (.int .i64 0) (by simp [SS.aI])).set 19 (.bool false) (by simp [SS.aI])).set 13 (.int .i64 0) (by simp [SS.aI])).set 14 (.bool false) (by simp [SS.aI])).set 15 (.int .i64 0) (by simp [SS.aI])).set 16 (.slice none 0 0) (by simp [SS.aI])).set 17 (.int .u32 0) (by simp [SS.aI])).set 18 (.bool false) (by simp [SS.aI]);rw [hrow] at hS2;have hm2:=cZ (cZ (cZ (cZ (cZ (cZ (cZ (cZ (cZ (eO (K:=(· =S)) hb2) S 20 (.bool true) rfl) S 12 (.int .i64 0) rfl) S 19 (.bool false) rfl) S 13 (.int .i64 0) rfl) S 14 (.bool false) rfl) S 15 (.int .i64 0) rfl) S 16 (.slice none 0 0) rfl) S 17 (.int .u32 0) rfl) S 18 (.bool false) rfl;have n1:w.heap.size≠S:=by omega
 have n2:w.heap.size+1≠S:=by omega
 have keep: ∀(b:Nat) (l:List Value),b≠S→Cl ((w.alloc (Obj.cells #[.int .i64 k,.int .i64 what,.int .i64 i] 81)).alloc (Obj.cells #[.int .i64 0,.int .i64 0,.int .i64 0] 81)) b l→Cl ((((((((((((w.alloc (Obj.cells #[.int .i64 k,.int .i64 what,.int .i64 i] 81)).alloc (Obj.cells #[.int .i64 0,.int .i64 0,.int .i64 0] 81)).setCell ⟨S,20,none⟩ (.bool true)).setCell ⟨S,12,none⟩ (.int .i64 0)).setCell ⟨S,19,none⟩ (.bool false)).setCell ⟨S,13,none⟩ (.int .i64 0)).setCell ⟨S,14,none⟩ (.bool false)).setCell ⟨S,15,none⟩ (.int .i64 0)).setCell ⟨S,16,none⟩ (.slice none 0 0)).setCell ⟨S,17,none⟩ (.int .u32 0)).setCell ⟨S,18,none⟩ (.bool false))) b l:=fun b l hb hc=>
  ((((((((hc.kept (yah _ ⟨S,20,none⟩ _ b hb)).kept (yah _ ⟨S,12,none⟩ _ b hb)).kept (yah _ ⟨S,19,none⟩ _ b hb)).kept (yah _ ⟨S,13,none⟩ _ b hb)).kept (yah _ ⟨S,14,none⟩ _ b hb)).kept (yah _ ⟨S,15,none⟩ _ b hb)).kept (yah _ ⟨S,16,none⟩ _ b hb)).kept (yah _ ⟨S,17,none⟩ _ b hb)).kept (yah _ ⟨S,18,none⟩ _ b hb)
 have j5:=keep _ _ n1 k5;have j8:=keep _ _ n2 k8;have a0:=j5.cell 0 _ rfl;have a1:=j5.cell 1 _ rfl;have a2:=j5.cell 2 _ rfl;have b0:=j8.cell 0 _ rfl;have b1:=j8.cell 1 _ rfl;have b2:=j8.cell 2 _ rfl;have g0:=j8.free 0;have g1:=j8.free 1;have g2:=j8.free 2;clear k5 k8 hS hlt keep hrow;go_enter func105,ntmps105;go_wp2_with fail;have sf:=((j8.set 0 (.int .i64 k) (by simp)).set 1 (.int .i64 what) (by simp)).set 2 (.int .i64 i) (by simp);refine yaI (gI rfl _ _ (w.heap.size+1) [.int .i64 k,.int .i64 what,.int .i64 i] _ rfl (fun j y hy=>by rw [yaq];exact sf.cell j y hy) underlying81 rfl (by kernel_rfl)) rfl ?_;exact ⟨rfl,((hS2.kept (yah _ ⟨w.heap.size+1,0,none⟩ _ S (fun e=>n2 e.symm))).kept (yah _ ⟨w.heap.size+1,1,none⟩ _ S (fun e=>n2 e.symm))).kept (yah _ ⟨w.heap.size+1,2,none⟩ _ S (fun e=>n2 e.symm)),gN (gN (gN hm2 (w.heap.size+1) 0 _ (.inr (by omega))) (w.heap.size+1) 1 _ (.inr (by omega))) (w.heap.size+1) 2 _ (.inr (by omega))⟩
section
variable {A:Nat→Prop} {w w5:World} {S P L Bs B N b2:Nat} {r:Tryz.Rg} {s s':Tryz.SS} {g g':Nat→Int} {lv nH x0 x1 x2:Value}
theorem Tryz.aV.close (h:aV A w S P L Bs B N b2 r s g lv) (hm:Dw.Mv (fun b=>b=S∨b=B) w w5) (hc:Cl w5 S (s'.aI r P nH lv)) (hg:bO w5 P L Bs B N g') (k5:Cl w5 w.heap.size [.int .i64 0,.int .i64 0,.int .i64 0]) (hsv:aL (fun b=>A b∨lv.ownBlock=some b) w nH s'.sg) (ht:s'.tk=s.tk) (hp:eF s') (hd:(s'.ph≠0∨s'.br=true)→s'.dn=false):
  aV A (((w5.setCell ⟨w.heap.size,0,none⟩ x0).setCell ⟨w.heap.size,1,none⟩ x1).setCell ⟨w.heap.size,2,none⟩ x2) S P L Bs B N b2 r s' g' lv∧Dw.Mv (fun b=>b=S∨b=B) w (((w5.setCell ⟨w.heap.size,0,none⟩ x0).setCell ⟨w.heap.size,1,none⟩ x1).setCell ⟨w.heap.size,2,none⟩ x2)∧Cl (((w5.setCell ⟨w.heap.size,0,none⟩ x0).setCell ⟨w.heap.size,1,none⟩ x1).setCell ⟨w.heap.size,2,none⟩ x2) w.heap.size [x0,x1,x2]:=by
 obtain ⟨sv,vs,q1,q2,q3⟩:=h.obj;obtain ⟨_,⟨t,hrow⟩,_⟩:=id q3;obtain ⟨l1,l2,l3,l4,l5⟩:=h.lo;have hb2:=h.b2;have Bp:=gN (gN (gN hm w.heap.size 0 x0 (.inr (yab _))) w.heap.size 1 x1 (.inr (yab _))) w.heap.size 2 x2 (.inr (yab _));have keep: ∀b,b≠w.heap.size→(((w5.setCell ⟨w.heap.size,0,none⟩ x0).setCell ⟨w.heap.size,1,none⟩ x1).setCell ⟨w.heap.size,2,none⟩ x2).heap[b]? =w5.heap[b]? :=fun b hb=>(yah _ ⟨w.heap.size,2,none⟩ _ b hb).trans ((yah _ ⟨w.heap.size,1,none⟩ _ b hb).trans (yah _ ⟨w.heap.size,0,none⟩ _ b hb));have hk: ∀b,b<w.heap.size→ ¬A b→(((w5.setCell ⟨w.heap.size,0,none⟩ x0).setCell ⟨w.heap.size,1,none⟩ x1).setCell ⟨w.heap.size,2,none⟩ x2).heap[b]? =w.heap[b]? :=fun b hb hn=>Bp.block b hb fun e=>by
  rcases e with e|e
  ·exact hn (e▸h.aS)
  ·exact hn (e▸h.aB)
 refine ⟨⟨⟨nH,vs,hc.kept (keep S (by omega)),hsv.Il fun b hb hn=>hk b hb fun q=>hn (.inl q),?_⟩,hg.kept (fun k hk hq=>keep k (by rcases hq with q|q|q|q<;>omega)) (by simp),h.aS,h.aB,fun b hb=>yad (h.lt b hb) Bp.size,h.lo,yau h.b2 Bp.size,h.sd,h.rg,hp,h.hN,h.fit,hd,ht▸h.mP,ht▸h.nd⟩,Bp,((k5.set 0 x0 (by simp)).set 1 x1 (by simp)).set 2 x2 (by simp)⟩;rw [ht];exact q3.kept hk fun b e=>Bp.block b (hrow.lt b e).2 fun e2=>by have:=(hrow.lt b e).1;rcases e2 with e2|e2<;>omega
end
theorem Tryz.Cl.rings {w:World} {S P:Nat} {r:Rg} {s:SS} {sv lv:Value} (h:Cl w S (s.aI r P sv lv)):w.rangeAt S 1 [.bool false,.int .i64 r.n,.int .u64 r.d,.int .u64 r.v,.int .u64 r.c]:=by
 intro j v hv;rw [ycR];exact h.cell (j+1) v (by
  match j with
  | 0=>exact hv
  | 1=>exact hv
  | 2=>exact hv
  | 3=>exact hv
  | 4=>exact hv
  | j+5=>cases hv)
set_option maxRecDepth 100000 in
theorem Tryz.zL {w:World} {S P L Bs B N:Nat} {r:Rg} {s:SS} {g:Nat→Int} {sv lv:Value} (q1:Cl w S (s.aI r P sv lv)) (st:bO w P L Bs B N g) (hN:N≤1048576) (what i:Int) (a k:Nat) (hk:k=1∨k=2∨k=4∨k=8) (hin:a+k≤N)
    (eG: ∀w',Calls prog 20 #[r.val,.int .i64 what,.int .i64 i] w' fun e w2=>e= .returned (.tuple #[.int .u64 a,.int .i64 k,.int .i64 0])∧Below w'.heap.size w' w2):
    Calls prog 106 #[.pointer (some ⟨S,0,none⟩),.int .i64 what,.int .i64 i] w fun e w'=>e= .returned (.tuple #[.int .u64 (aC g a k),.bool true])∧Below w.heap.size w w':=by
  have c0:=q1.cell 0 _ rfl;have hr0:=q1.rings;have hld:=fun w1 (hb:Below w.heap.size w w1)=>zAC P L Bs B N a k g w1 (st.below hb) hN hk hin;generalize aC g a k=V at hld ⊢;unfold Rg.val at eG;go_enter func106,ntmps106;go_wp2_with (first
    | (refine wpList_load_mid rfl 32 (.tmp 16) rfl S 1 rfl [.bool false,.int .i64 r.n,.int .u64 r.d,.int .u64 r.v,.int .u64 r.c] _ hr0 underlying32 rfl (by kernel_rfl) ?_)
    | (go_at_call 20;refine (eG _).mono ?_;rintro e w1 ⟨rfl,hb1⟩;have d0:=(q1.below hb1 q1.lt).cell 0 _ rfl)
    | (go_at_call 124;refine (hld _ hb1).mono ?_;rintro e w2 ⟨rfl,hb2⟩)
    | go_in)
  go_ret2;exact ⟨rfl,hb1.trans (hb2.mono hb1.size)⟩
set_option maxRecDepth 100000 in
theorem Tryz.Pj {w:World} {S P L Bs B N:Nat} {r:Rg} {s:SS} {g:Nat→Int} {sv lv:Value} (q1:Cl w S (s.aI r P sv lv)) (st:bO w P L Bs B N g) (hN:N≤1048576) (what i v:Int) (a k:Nat) (hk:k=1∨k=2∨k=4∨k=8) (hin:a+k≤N)
    (eG: ∀w',Calls prog 20 #[r.val,.int .i64 what,.int .i64 i] w' fun e w2=>e= .returned (.tuple #[.int .u64 a,.int .i64 k,.int .i64 0])∧Below w'.heap.size w' w2):
    Calls prog 103 #[.pointer (some ⟨S,0,none⟩),.int .i64 what,.int .i64 i,.int .u64 v] w fun e w'=>e= .returned (.bool true)∧bO w' P L Bs B N (gF g a k v)∧Dw.Mv (· =B) w w':=by
  have c0:=q1.cell 0 _ rfl;have hr0:=q1.rings;have hst:=fun w1 (hb:Below w.heap.size w w1)=>zw0 P L Bs B N a k v g w1 (st.below hb) hN hk hin;unfold Rg.val at eG;go_enter func103,ntmps103;go_wp2_with (first
    | (refine wpList_load_mid rfl 32 (.tmp 15) rfl S 1 rfl [.bool false,.int .i64 r.n,.int .u64 r.d,.int .u64 r.v,.int .u64 r.c] _ hr0 underlying32 rfl (by kernel_rfl) ?_)
    | (go_at_call 20;refine (eG _).mono ?_;rintro e w1 ⟨rfl,hb1⟩;have d0:=(q1.below hb1 q1.lt).cell 0 _ rfl)
    | (go_at_call 123;refine (hst _ hb1).mono ?_;rintro e w2 ⟨rfl,h2,hm2⟩)
    | go_in)
  go_ret;exact ⟨rfl,h2,(eO hb1).trans (Wp hm2)⟩
end Go.Proofs
namespace Go.Proofs
open Go.Dw Go.RowKit Go.Maps Go.Sort Go.Deep
theorem Tryz.FC (a:Int):IntKind.wrap .u16 a=a%65536:=iF _
set_option maxRecDepth 100000 in
theorem Tryz.BU (a b:Int) (w:World):Calls prog 108 #[.int .u16 a,.int .u16 b] w fun e w'=>e= .returned (.int .u16 ((a-b)%65536))∧w'=w:=by
 have e1:=FC (a-b);go_enter func108,ntmps108;go_wp2_with fail;go_ret;exact ⟨rfl,rfl⟩
set_option maxRecDepth 100000 in
theorem Tryz.zq8 (a b c:Int) (w:World):Calls prog 107 #[.int .u16 a,.int .u16 b,.int .u16 c] w fun e w'=>e= .returned (.bool (decide (((b-a)%65536-1)%65536<(b-c)%65536)))∧w'=w:=by
  have d1:=fun w'=>BU b a w';have d2:=fun w'=>BU b c w';generalize (b-a)%65536=x at d1 ⊢;generalize (b-c)%65536=y at d2 ⊢;have e1:=FC (x-1);go_enter func107,ntmps107;go_wp2_with (first
    | (go_at_call_has 108 (Value.int IntKind.u16 a);refine (d1 _).mono ?_;rintro e w1 ⟨rfl,hw1⟩;have hw1:=hw1.symm;subst hw1)
    | (go_at_call_has 108 (Value.int IntKind.u16 c);refine (d2 _).mono ?_;rintro e w2 ⟨rfl,hw2⟩;have hw2:=hw2.symm;subst hw2)
    | go_in)
  go_ret;exact ⟨rfl,rfl⟩
set_option maxRecDepth 100000 in
theorem Tryz.zu2 (i l:Int) (hi:0≤i∧i<4294967296) (hl:0≤l∧l<4294967296) (w:World):Calls prog 104 #[.agg #[.int .u32 i,.int .u32 l]] w fun e w'=>e= .returned (.int .u64 (i+l*4294967296))∧Below w.heap.size w w':=by
 have w1:IntKind.wrap .u64 i=i:=bE hi.1 (by omega);have w2:IntKind.wrap .u64 l=l:=bE hl.1 (by omega);have w3:IntKind.wrap .u64 (l*4294967296)=l*4294967296:=bE (by omega) (by omega);have w4:IntKind.wrap .u64 (i+l*4294967296)=i+l*4294967296:=bE (by omega) (by omega);have hb:=(yag w.heap.size w).alloc (yab _) (.cells #[.int .u32 i,.int .u32 l] 65);go_enter func104,ntmps104;go_wp2_with fail;go_ret;exact ⟨rfl,hb⟩
set_option maxRecDepth 100000 in
theorem Tryz.zou {A:Nat→Prop} {w:World} {S P L Bs B N b2:Nat} {r:Rg} {s:SS} {g:Nat→Int} {lv:Value} (h:aV A w S P L Bs B N b2 r s g lv) (hb:s.br=false) (hp:s.ph=3):
    Calls prog 79 #[.pointer (some ⟨S,0,none⟩)] w fun e w'=>e= .returned (.tuple #[.agg #[.int .i64 4,.int .i64 0,.int .i64 (0)],.int .i64 0])∧aV A w' S P L Bs B N b2 r (s.goto 4) (g) lv∧Dw.Mv (fun b=>b=S∨b=B) w w':=by
  have hbx:=((yag w.heap.size w).alloc (yab _) (Obj.cells #[.int .i64 0,.int .i64 0,.int .i64 0] 81)).alloc (by simp) (Obj.cells #[.int .i64 4,.int .i64 0,.int .i64 0] 81);have kk:=(Cl.new w #[.int .i64 0,.int .i64 0,.int .i64 0] 81).alloc (Obj.cells #[.int .i64 4,.int .i64 0,.int .i64 0] 81);obtain ⟨sv,vs,q1,q2,q3⟩:=h.obj;have p1:=q1.below hbx q1.lt;have ig:=h.rm.below hbx;have c12:=p1.cell 12 _ rfl;have hbn:=h.rg.bnd;have hnx:=h.pb.nx;have fD:=h.pb.us;have hfit:=h.fit;have hN:=h.hN;obtain ⟨s',hs'⟩: ∃s':SS,s'=s.goto 4:=⟨_,rfl⟩;rw [←hs'];have hpb:eF s':=hs'▸h.pb.goto _ (.inl (by decide));have t1:s'.tk=s.tk:=by rw [hs'];rfl
  have t2:s'.sg=s.sg:=by rw [hs'];rfl
  have t4:(s'.ph≠0∨s'.br=true)→s'.dn=false:=fun _=>by rw [hs'];rfl
  have hrow:((s.aI r P sv lv).set 12 (.int .i64 (IntKind.wrap .i64 4))).set 19 (.bool false)=s'.aI r P sv lv:=by
    rw [hs'];unfold SS.aI;rw [hb];rfl
  have hg1:=fun w4 (p4:Cl w4 S (s.aI r P sv lv))=>og (l:=s.aI r P sv lv) p4 rfl rfl rfl 4 0 (0) (IntKind.wrap .i64 4) false rfl;simp only [hrow] at hg1;clear hrow;have hsv:aL (fun b=>A b∨lv.ownBlock=some b) w (sv) s'.sg:=by rw [t2];exact q2
  have hn:=q1.lt;have nS:w.heap.size≠S:=by omega
  have nB:w.heap.size≠B:=by have:=h.rm.bl;omega
  clear hs' hn;have fin: ∀(w4 w5:World),bO w4 P L Bs B N (g)→Cl w4 w.heap.size [.int .i64 0,.int .i64 0,.int .i64 0]→Dw.Mv (fun b=>b=S∨b=B) w w4→Cl w5 S (s'.aI r P (sv) lv)→Dw.Mv (· =S) w4 w5→Cl w5 w.heap.size [.int .i64 0,.int .i64 0,.int .i64 0]∧aV A (((w5.setCell ⟨w.heap.size,0,none⟩ (.int .i64 4)).setCell ⟨w.heap.size,1,none⟩ (.int .i64 0)).setCell ⟨w.heap.size,2,none⟩ (.int .i64 (0))) S P L Bs B N b2 r s' (g) lv∧Dw.Mv (fun b=>b=S∨b=B) w (((w5.setCell ⟨w.heap.size,0,none⟩ (.int .i64 4)).setCell ⟨w.heap.size,1,none⟩ (.int .i64 0)).setCell ⟨w.heap.size,2,none⟩ (.int .i64 (0)))∧Cl (((w5.setCell ⟨w.heap.size,0,none⟩ (.int .i64 4)).setCell ⟨w.heap.size,1,none⟩ (.int .i64 0)).setCell ⟨w.heap.size,2,none⟩ (.int .i64 (0))) w.heap.size [.int .i64 4,.int .i64 0,.int .i64 (0)]:=fun w4 w5 hg4 k4 hmv dR bP=>by
    have k5:=k4.kept (bP.block w.heap.size k4.lt nS);obtain ⟨dQ,hM,sf⟩:=h.close (x0:= .int .i64 4) (x1:= .int .i64 0) (x2:= .int .i64 (0)) (hmv.trans (bP.mono fun b q=> .inl q)) dR (hg4.lF bP h.sd) k5 hsv t1 hpb t4;exact ⟨k5,dQ,hM,sf⟩
  have p4:Cl ((w.alloc (Obj.cells #[.int .i64 0,.int .i64 0,.int .i64 0] 81)).alloc (Obj.cells #[.int .i64 4,.int .i64 0,.int .i64 0] 81)).drew S _:=p1.kept (w':=((w.alloc (Obj.cells #[.int .i64 0,.int .i64 0,.int .i64 0] 81)).alloc (Obj.cells #[.int .i64 4,.int .i64 0,.int .i64 0] 81)).drew) rfl;have k4:Cl ((w.alloc (Obj.cells #[.int .i64 0,.int .i64 0,.int .i64 0] 81)).alloc (Obj.cells #[.int .i64 4,.int .i64 0,.int .i64 0] 81)).drew w.heap.size _:=kk.kept (w':=((w.alloc (Obj.cells #[.int .i64 0,.int .i64 0,.int .i64 0] 81)).alloc (Obj.cells #[.int .i64 4,.int .i64 0,.int .i64 0] 81)).drew) rfl;have hg4:bO ((w.alloc (Obj.cells #[.int .i64 0,.int .i64 0,.int .i64 0] 81)).alloc (Obj.cells #[.int .i64 4,.int .i64 0,.int .i64 0] 81)).drew P L Bs B N g:=ig.kept (w':=((w.alloc (Obj.cells #[.int .i64 0,.int .i64 0,.int .i64 0] 81)).alloc (Obj.cells #[.int .i64 4,.int .i64 0,.int .i64 0] 81)).drew) (fun _ _ _=>rfl) (yab _);have hmv:Dw.Mv (fun b=>b=S∨b=B) w ((w.alloc (Obj.cells #[.int .i64 0,.int .i64 0,.int .i64 0] 81)).alloc (Obj.cells #[.int .i64 4,.int .i64 0,.int .i64 0] 81)).drew:=eO hbx.drew;have ka:=Cl.new2 (w:=w.alloc (Obj.cells #[.int .i64 0,.int .i64 0,.int .i64 0] 81)) (b:=w.heap.size+1) (arr:= #[.int .i64 4,.int .i64 0,.int .i64 0]) (t:=81) (by simp);have e0:=ka.cell 0 _ rfl;have e1:=ka.cell 1 _ rfl;have e2:=ka.cell 2 _ rfl;have hg1:=hg1 _ p4;clear hfit;rw [hp] at c12;go_enter func79,ntmps79;go_wp2_with fail;go_region_with (first
    | (go_at_call 105;refine hg1.mono ?_;rintro en w5 ⟨rfl,dR,bP⟩;obtain ⟨k5,dQ,hM,sf⟩:=fin _ _ hg4 k4 hmv dR bP;have b0:=k5.cell 0 (.int .i64 0) rfl;have b1:=k5.cell 1 (.int .i64 0) rfl;have b2':=k5.cell 2 (.int .i64 0) rfl;have g0:=k5.free 0;have g1:=k5.free 1;have g2:=k5.free 2)
)
  all_goals (go_wp2_with fail)
  all_goals
    refine yaI (gI rfl _ _ w.heap.size [.int .i64 4,.int .i64 0,.int .i64 (0)] _ rfl (fun j y hy=>by rw [yaq];exact sf.cell j y hy) underlying81 rfl (by kernel_rfl)) rfl ?_;exact ⟨rfl,dQ,hM⟩
set_option maxRecDepth 100000 in
theorem Tryz.zot {A:Nat→Prop} {w:World} {S P L Bs B N b2:Nat} {r:Rg} {s:SS} {g:Nat→Int} {lv:Value} (h:aV A w S P L Bs B N b2 r s g lv) (hb:s.br=false) (hp:s.ph=5):
    Calls prog 79 #[.pointer (some ⟨S,0,none⟩)] w fun e w'=>e= .returned (.tuple #[.agg #[.int .i64 4,.int .i64 0,.int .i64 (0)],.int .i64 0])∧aV A w' S P L Bs B N b2 r (s.goto 6) (g) lv∧Dw.Mv (fun b=>b=S∨b=B) w w':=by
  have hbx:=((yag w.heap.size w).alloc (yab _) (Obj.cells #[.int .i64 0,.int .i64 0,.int .i64 0] 81)).alloc (by simp) (Obj.cells #[.int .i64 4,.int .i64 0,.int .i64 0] 81);have kk:=(Cl.new w #[.int .i64 0,.int .i64 0,.int .i64 0] 81).alloc (Obj.cells #[.int .i64 4,.int .i64 0,.int .i64 0] 81);obtain ⟨sv,vs,q1,q2,q3⟩:=h.obj;have p1:=q1.below hbx q1.lt;have ig:=h.rm.below hbx;have c12:=p1.cell 12 _ rfl;have hbn:=h.rg.bnd;have hnx:=h.pb.nx;have fD:=h.pb.us;have hfit:=h.fit;have hN:=h.hN;obtain ⟨s',hs'⟩: ∃s':SS,s'=s.goto 6:=⟨_,rfl⟩;rw [←hs'];have hpb:eF s':=hs'▸h.pb.goto _ (.inl (by decide));have t1:s'.tk=s.tk:=by rw [hs'];rfl
  have t2:s'.sg=s.sg:=by rw [hs'];rfl
  have t4:(s'.ph≠0∨s'.br=true)→s'.dn=false:=fun _=>by rw [hs'];rfl
  have hrow:((s.aI r P sv lv).set 12 (.int .i64 (IntKind.wrap .i64 6))).set 19 (.bool false)=s'.aI r P sv lv:=by
    rw [hs'];unfold SS.aI;rw [hb];rfl
  have hg1:=fun w4 (p4:Cl w4 S (s.aI r P sv lv))=>og (l:=s.aI r P sv lv) p4 rfl rfl rfl 4 0 (0) (IntKind.wrap .i64 6) false rfl;simp only [hrow] at hg1;clear hrow;have hsv:aL (fun b=>A b∨lv.ownBlock=some b) w (sv) s'.sg:=by rw [t2];exact q2
  have hn:=q1.lt;have nS:w.heap.size≠S:=by omega
  have nB:w.heap.size≠B:=by have:=h.rm.bl;omega
  clear hs' hn;have fin: ∀(w4 w5:World),bO w4 P L Bs B N (g)→Cl w4 w.heap.size [.int .i64 0,.int .i64 0,.int .i64 0]→Dw.Mv (fun b=>b=S∨b=B) w w4→Cl w5 S (s'.aI r P (sv) lv)→Dw.Mv (· =S) w4 w5→Cl w5 w.heap.size [.int .i64 0,.int .i64 0,.int .i64 0]∧aV A (((w5.setCell ⟨w.heap.size,0,none⟩ (.int .i64 4)).setCell ⟨w.heap.size,1,none⟩ (.int .i64 0)).setCell ⟨w.heap.size,2,none⟩ (.int .i64 (0))) S P L Bs B N b2 r s' (g) lv∧Dw.Mv (fun b=>b=S∨b=B) w (((w5.setCell ⟨w.heap.size,0,none⟩ (.int .i64 4)).setCell ⟨w.heap.size,1,none⟩ (.int .i64 0)).setCell ⟨w.heap.size,2,none⟩ (.int .i64 (0)))∧Cl (((w5.setCell ⟨w.heap.size,0,none⟩ (.int .i64 4)).setCell ⟨w.heap.size,1,none⟩ (.int .i64 0)).setCell ⟨w.heap.size,2,none⟩ (.int .i64 (0))) w.heap.size [.int .i64 4,.int .i64 0,.int .i64 (0)]:=fun w4 w5 hg4 k4 hmv dR bP=>by
    have k5:=k4.kept (bP.block w.heap.size k4.lt nS);obtain ⟨dQ,hM,sf⟩:=h.close (x0:= .int .i64 4) (x1:= .int .i64 0) (x2:= .int .i64 (0)) (hmv.trans (bP.mono fun b q=> .inl q)) dR (hg4.lF bP h.sd) k5 hsv t1 hpb t4;exact ⟨k5,dQ,hM,sf⟩
  have p4:Cl ((w.alloc (Obj.cells #[.int .i64 0,.int .i64 0,.int .i64 0] 81)).alloc (Obj.cells #[.int .i64 4,.int .i64 0,.int .i64 0] 81)).drew S _:=p1.kept (w':=((w.alloc (Obj.cells #[.int .i64 0,.int .i64 0,.int .i64 0] 81)).alloc (Obj.cells #[.int .i64 4,.int .i64 0,.int .i64 0] 81)).drew) rfl;have k4:Cl ((w.alloc (Obj.cells #[.int .i64 0,.int .i64 0,.int .i64 0] 81)).alloc (Obj.cells #[.int .i64 4,.int .i64 0,.int .i64 0] 81)).drew w.heap.size _:=kk.kept (w':=((w.alloc (Obj.cells #[.int .i64 0,.int .i64 0,.int .i64 0] 81)).alloc (Obj.cells #[.int .i64 4,.int .i64 0,.int .i64 0] 81)).drew) rfl;have hg4:bO ((w.alloc (Obj.cells #[.int .i64 0,.int .i64 0,.int .i64 0] 81)).alloc (Obj.cells #[.int .i64 4,.int .i64 0,.int .i64 0] 81)).drew P L Bs B N g:=ig.kept (w':=((w.alloc (Obj.cells #[.int .i64 0,.int .i64 0,.int .i64 0] 81)).alloc (Obj.cells #[.int .i64 4,.int .i64 0,.int .i64 0] 81)).drew) (fun _ _ _=>rfl) (yab _);have hmv:Dw.Mv (fun b=>b=S∨b=B) w ((w.alloc (Obj.cells #[.int .i64 0,.int .i64 0,.int .i64 0] 81)).alloc (Obj.cells #[.int .i64 4,.int .i64 0,.int .i64 0] 81)).drew:=eO hbx.drew;have ka:=Cl.new2 (w:=w.alloc (Obj.cells #[.int .i64 0,.int .i64 0,.int .i64 0] 81)) (b:=w.heap.size+1) (arr:= #[.int .i64 4,.int .i64 0,.int .i64 0]) (t:=81) (by simp);have e0:=ka.cell 0 _ rfl;have e1:=ka.cell 1 _ rfl;have e2:=ka.cell 2 _ rfl;have hg1:=hg1 _ p4;clear hfit;rw [hp] at c12;go_enter func79,ntmps79;go_wp2_with fail;go_region_with (first
    | (go_at_call 105;refine hg1.mono ?_;rintro en w5 ⟨rfl,dR,bP⟩;obtain ⟨k5,dQ,hM,sf⟩:=fin _ _ hg4 k4 hmv dR bP;have b0:=k5.cell 0 (.int .i64 0) rfl;have b1:=k5.cell 1 (.int .i64 0) rfl;have b2':=k5.cell 2 (.int .i64 0) rfl;have g0:=k5.free 0;have g1:=k5.free 1;have g2:=k5.free 2)
)
  all_goals (go_wp2_with fail)
  all_goals
    refine yaI (gI rfl _ _ w.heap.size [.int .i64 4,.int .i64 0,.int .i64 (0)] _ rfl (fun j y hy=>by rw [yaq];exact sf.cell j y hy) underlying81 rfl (by kernel_rfl)) rfl ?_;exact ⟨rfl,dQ,hM⟩
set_option maxRecDepth 100000 in
theorem Tryz.zq5 {A:Nat→Prop} {w:World} {S P L Bs B N b2:Nat} {r:Rg} {s:SS} {g:Nat→Int} {lv:Value} (h:aV A w S P L Bs B N b2 r s g lv) (hb:s.br=false) (hp:s.ph=2):
    Calls prog 79 #[.pointer (some ⟨S,0,none⟩)] w fun e w'=>e= .returned (.tuple #[.agg #[.int .i64 3,.int .i64 9,.int .i64 (0)],.int .i64 0])∧aV A w' S P L Bs B N b2 r (s.goto 3) (gF g (r.c+4+8*r.n).toNat 2 s.nx) lv∧Dw.Mv (fun b=>b=S∨b=B) w w':=by
  have hbx:=((yag w.heap.size w).alloc (yab _) (Obj.cells #[.int .i64 0,.int .i64 0,.int .i64 0] 81)).alloc (by simp) (Obj.cells #[.int .i64 4,.int .i64 0,.int .i64 0] 81);have kk:=(Cl.new w #[.int .i64 0,.int .i64 0,.int .i64 0] 81).alloc (Obj.cells #[.int .i64 4,.int .i64 0,.int .i64 0] 81);obtain ⟨sv,vs,q1,q2,q3⟩:=h.obj;have p1:=q1.below hbx q1.lt;have ig:=h.rm.below hbx;have c12:=p1.cell 12 _ rfl;have hbn:=h.rg.bnd;have hnx:=h.pb.nx;have fD:=h.pb.us;have hfit:=h.fit;have hN:=h.hN;have eG:=fun w'=>zz9 r h.rg w';have hc0:=h.rg.c0;obtain ⟨a,ha⟩: ∃a:Nat,r.c+4+8*r.n=a:=⟨(r.c+4+8*r.n).toNat,by omega⟩;rw [ha] at eG ⊢;rw [yaV];have c9:=p1.cell 9 _ rfl;have w1':IntKind.wrap .u64 s.nx=s.nx:=bE hnx.1 (by omega);obtain ⟨s',hs'⟩: ∃s':SS,s'=s.goto 3:=⟨_,rfl⟩;rw [←hs'];have hpb:eF s':=hs'▸h.pb.goto _ (.inl (by decide));have t1:s'.tk=s.tk:=by rw [hs'];rfl
  have t2:s'.sg=s.sg:=by rw [hs'];rfl
  have t4:(s'.ph≠0∨s'.br=true)→s'.dn=false:=fun _=>by rw [hs'];rfl
  have hrow:((s.aI r P sv lv).set 12 (.int .i64 3)).set 19 (.bool false)=s'.aI r P sv lv:=by
    rw [hs'];unfold SS.aI;rw [hb];rfl
  have hg1:=fun w4 (p4:Cl w4 S (s.aI r P sv lv))=>og (l:=s.aI r P sv lv) p4 rfl rfl rfl 3 9 (0) 3 false rfl;simp only [hrow] at hg1;clear hrow;have hsv:aL (fun b=>A b∨lv.ownBlock=some b) w (sv) s'.sg:=by rw [t2];exact q2
  have hn:=q1.lt;have nS:w.heap.size≠S:=by omega
  have nB:w.heap.size≠B:=by have:=h.rm.bl;omega
  clear hs' hn;have fin: ∀(w4 w5:World),bO w4 P L Bs B N (gF g a 2 s.nx)→Cl w4 w.heap.size [.int .i64 0,.int .i64 0,.int .i64 0]→Dw.Mv (fun b=>b=S∨b=B) w w4→Cl w5 S (s'.aI r P (sv) lv)→Dw.Mv (· =S) w4 w5→Cl w5 w.heap.size [.int .i64 0,.int .i64 0,.int .i64 0]∧aV A (((w5.setCell ⟨w.heap.size,0,none⟩ (.int .i64 3)).setCell ⟨w.heap.size,1,none⟩ (.int .i64 9)).setCell ⟨w.heap.size,2,none⟩ (.int .i64 (0))) S P L Bs B N b2 r s' (gF g a 2 s.nx) lv∧Dw.Mv (fun b=>b=S∨b=B) w (((w5.setCell ⟨w.heap.size,0,none⟩ (.int .i64 3)).setCell ⟨w.heap.size,1,none⟩ (.int .i64 9)).setCell ⟨w.heap.size,2,none⟩ (.int .i64 (0)))∧Cl (((w5.setCell ⟨w.heap.size,0,none⟩ (.int .i64 3)).setCell ⟨w.heap.size,1,none⟩ (.int .i64 9)).setCell ⟨w.heap.size,2,none⟩ (.int .i64 (0))) w.heap.size [.int .i64 3,.int .i64 9,.int .i64 (0)]:=fun w4 w5 hg4 k4 hmv dR bP=>by
    have k5:=k4.kept (bP.block w.heap.size k4.lt nS);obtain ⟨dQ,hM,sf⟩:=h.close (x0:= .int .i64 3) (x1:= .int .i64 9) (x2:= .int .i64 (0)) (hmv.trans (bP.mono fun b q=> .inl q)) dR (hg4.lF bP h.sd) k5 hsv t1 hpb t4;exact ⟨k5,dQ,hM,sf⟩
  have p3:=p1;have k3:=kk;have rC:Dw.Mv (fun b=>b=S∨b=B) w _:=eO hbx;have hst:=Pj p1 ig hN 9 0 s.nx a 2 (.inr (.inl rfl)) (by omega) eG;clear ha;clear hfit;rw [hp] at c12;go_enter func79,ntmps79;go_wp2_with (first
    | (go_at_call 103;refine hst.mono ?_;rintro en w4 ⟨rfl,hg4,jU⟩;have p4:=p3.kept (jU.block S p3.lt h.sd.2.2.2);have k4:=k3.kept (jU.block _ k3.lt nB);have hmv:=rC.trans (jU.mono fun b q=>(.inr q:b=S∨b=B)))
    | (go_at_call 105;refine (hg1 _ p4).mono ?_;rintro en w5 ⟨rfl,dR,bP⟩;obtain ⟨k5,dQ,hM,sf⟩:=fin _ _ hg4 k4 hmv dR bP;have b0:=k5.cell 0 (.int .i64 0) rfl;have b1:=k5.cell 1 (.int .i64 0) rfl;have b2':=k5.cell 2 (.int .i64 0) rfl;have g0:=k5.free 0;have g1:=k5.free 1;have g2:=k5.free 2)
    | go_in)
  all_goals
    refine yaI (gI rfl _ _ w.heap.size [.int .i64 3,.int .i64 9,.int .i64 (0)] _ rfl (fun j y hy=>by rw [yaq];exact sf.cell j y hy) underlying81 rfl (by kernel_rfl)) rfl ?_;exact ⟨rfl,dQ,hM⟩
set_option maxRecDepth 100000 in
theorem Tryz.Xf {A:Nat→Prop} {w:World} {S P L Bs B N b2:Nat} {r:Rg} {s:SS} {g:Nat→Int} {lv:Value} (h:aV A w S P L Bs B N b2 r s g lv) (hb:s.br=false) (hp:s.ph=1∨s.ph=4) (hA:0<jD r g s∧jD r g s≤r.n):
    Calls prog 79 #[.pointer (some ⟨S,0,none⟩)] w fun e w'=>e= .returned (.tuple #[.agg #[.int .i64 2,.int .i64 3,.int .i64 (0)],.int .i64 0])∧aV A w' S P L Bs B N b2 r (s.goto 5) (g) lv∧Dw.Mv (fun b=>b=S∨b=B) w w':=by
  have hbx:=((yag w.heap.size w).alloc (yab _) (Obj.cells #[.int .i64 0,.int .i64 0,.int .i64 0] 81)).alloc (by simp) (Obj.cells #[.int .i64 4,.int .i64 0,.int .i64 0] 81);have kk:=(Cl.new w #[.int .i64 0,.int .i64 0,.int .i64 0] 81).alloc (Obj.cells #[.int .i64 4,.int .i64 0,.int .i64 0] 81);obtain ⟨sv,vs,q1,q2,q3⟩:=h.obj;have p1:=q1.below hbx q1.lt;have ig:=h.rm.below hbx;have c12:=p1.cell 12 _ rfl;have hbn:=h.rg.bnd;have hnx:=h.pb.nx;have fD:=h.pb.us;have hfit:=h.fit;have hN:=h.hN;have eG:=fun w'=>Fw r h.rg w';have hv0:=h.rg.v0;obtain ⟨a,ha⟩: ∃a:Nat,r.v+2=a:=⟨(r.v+2).toNat,by omega⟩;have ha2:(r.v+2).toNat=a:=by rw [ha];rfl
  unfold jD at hA;rw [ha2] at hA;simp only [ha] at eG;have hld:=zL p1 ig hN 3 0 a 2 (.inr (.inl rfl)) (by omega) eG;have bV:=kE g h.rm.byte a 2;rw [show (256:Int)^2=65536 from by decide] at bV;generalize aC g a 2=V at hld bV hA;have w1':IntKind.wrap .u16 V=V:=yw bV.1 bV.2;have hdi:=fun w'=>BU V s.nx w';have bD:0≤(V-s.nx)%65536∧(V-s.nx)%65536<65536:=by omega
  generalize (V-s.nx)%65536=D at hdi bD hA;have wD:IntKind.wrap .i64 D=D:=gV (by omega) (by omega);obtain ⟨s',hs'⟩: ∃s':SS,s'=s.goto 5:=⟨_,rfl⟩;rw [←hs'];have hpb:eF s':=hs'▸h.pb.goto _ (.inl (by decide));have t1:s'.tk=s.tk:=by rw [hs'];rfl
  have t2:s'.sg=s.sg:=by rw [hs'];rfl
  have t4:(s'.ph≠0∨s'.br=true)→s'.dn=false:=fun _=>by rw [hs'];rfl
  have hrow:((s.aI r P sv lv).set 12 (.int .i64 5)).set 19 (.bool false)=s'.aI r P sv lv:=by
    rw [hs'];unfold SS.aI;rw [hb];rfl
  have hg1:=fun w4 (p4:Cl w4 S (s.aI r P sv lv))=>og (l:=s.aI r P sv lv) p4 rfl rfl rfl 2 3 (0) 5 false rfl;simp only [hrow] at hg1;clear hrow;have hsv:aL (fun b=>A b∨lv.ownBlock=some b) w (sv) s'.sg:=by rw [t2];exact q2
  have hn:=q1.lt;have nS:w.heap.size≠S:=by omega
  have nB:w.heap.size≠B:=by have:=h.rm.bl;omega
  clear hs' hn;have fin: ∀(w4 w5:World),bO w4 P L Bs B N (g)→Cl w4 w.heap.size [.int .i64 0,.int .i64 0,.int .i64 0]→Dw.Mv (fun b=>b=S∨b=B) w w4→Cl w5 S (s'.aI r P (sv) lv)→Dw.Mv (· =S) w4 w5→Cl w5 w.heap.size [.int .i64 0,.int .i64 0,.int .i64 0]∧aV A (((w5.setCell ⟨w.heap.size,0,none⟩ (.int .i64 2)).setCell ⟨w.heap.size,1,none⟩ (.int .i64 3)).setCell ⟨w.heap.size,2,none⟩ (.int .i64 (0))) S P L Bs B N b2 r s' (g) lv∧Dw.Mv (fun b=>b=S∨b=B) w (((w5.setCell ⟨w.heap.size,0,none⟩ (.int .i64 2)).setCell ⟨w.heap.size,1,none⟩ (.int .i64 3)).setCell ⟨w.heap.size,2,none⟩ (.int .i64 (0)))∧Cl (((w5.setCell ⟨w.heap.size,0,none⟩ (.int .i64 2)).setCell ⟨w.heap.size,1,none⟩ (.int .i64 3)).setCell ⟨w.heap.size,2,none⟩ (.int .i64 (0))) w.heap.size [.int .i64 2,.int .i64 3,.int .i64 (0)]:=fun w4 w5 hg4 k4 hmv dR bP=>by
    have k5:=k4.kept (bP.block w.heap.size k4.lt nS);obtain ⟨dQ,hM,sf⟩:=h.close (x0:= .int .i64 2) (x1:= .int .i64 3) (x2:= .int .i64 (0)) (hmv.trans (bP.mono fun b q=> .inl q)) dR (hg4.lF bP h.sd) k5 hsv t1 hpb t4;exact ⟨k5,dQ,hM,sf⟩
  clear ha ha2 eG hv0;have hD0:(D==0)=false:=by simpa using (show D≠0 by omega)
  have hD1:D≤r.n:=hA.2;clear hA;clear hfit;rcases hp with hp|hp
  all_goals
    rw [hp] at c12;go_enter func79,ntmps79;go_wp2_with (first
      | (go_at_call 106;refine hld.mono ?_;rintro en w3 ⟨rfl,hb3⟩;have p3:=p1.below hb3 p1.lt;have y9:=p3.cell 9 _ rfl;have zJ:=p3.cell 12 _ rfl;have y6:=p3.cell 6 _ rfl;have y2:=p3.cell 2 _ rfl;rw [hp] at zJ;have k3:=kk.below hb3 kk.lt;have hg3:=ig.below hb3;have rC:Dw.Mv (fun b=>b=S∨b=B) w _:=eO (hbx.trans (hb3.mono hbx.size)))
      | (go_at_call 108;refine (hdi _).mono ?_;rintro en w6 ⟨rfl,nA⟩;have nA:=nA.symm;subst nA;have p4:=p3;have k4:=k3;have hg4:=hg3;have hmv:=rC)
      | (go_at_call 105;refine (hg1 _ p4).mono ?_;rintro en w5 ⟨rfl,dR,bP⟩;obtain ⟨k5,dQ,hM,sf⟩:=fin _ _ hg4 k4 hmv dR bP;have b0:=k5.cell 0 (.int .i64 0) rfl;have b1:=k5.cell 1 (.int .i64 0) rfl;have b2':=k5.cell 2 (.int .i64 0) rfl;have g0:=k5.free 0;have g1:=k5.free 1;have g2:=k5.free 2)
      | go_in)
    all_goals
      refine yaI (gI rfl _ _ w.heap.size [.int .i64 2,.int .i64 3,.int .i64 (0)] _ rfl (fun j y hy=>by rw [yaq];exact sf.cell j y hy) underlying81 rfl (by kernel_rfl)) rfl ?_;exact ⟨rfl,dQ,hM⟩
set_option maxRecDepth 100000 in
theorem Tryz.zov {A:Nat→Prop} {w:World} {S P L Bs B N b2:Nat} {r:Rg} {s:SS} {g:Nat→Int} {lv:Value} (h:aV A w S P L Bs B N b2 r s g lv) (hb:s.br=false) (hp:s.ph=1) (hev:s.ev=true) (hA:jD r g s=0):
    Calls prog 79 #[.pointer (some ⟨S,0,none⟩)] w fun e w'=>e= .returned (.tuple #[.agg #[.int .i64 2,.int .i64 3,.int .i64 (0)],.int .i64 0])∧aV A w' S P L Bs B N b2 r (s.goto 2) (g) lv∧Dw.Mv (fun b=>b=S∨b=B) w w':=by
  have hbx:=((yag w.heap.size w).alloc (yab _) (Obj.cells #[.int .i64 0,.int .i64 0,.int .i64 0] 81)).alloc (by simp) (Obj.cells #[.int .i64 4,.int .i64 0,.int .i64 0] 81);have kk:=(Cl.new w #[.int .i64 0,.int .i64 0,.int .i64 0] 81).alloc (Obj.cells #[.int .i64 4,.int .i64 0,.int .i64 0] 81);obtain ⟨sv,vs,q1,q2,q3⟩:=h.obj;have p1:=q1.below hbx q1.lt;have ig:=h.rm.below hbx;have c12:=p1.cell 12 _ rfl;have hbn:=h.rg.bnd;have hnx:=h.pb.nx;have fD:=h.pb.us;have hfit:=h.fit;have hN:=h.hN;have eG:=fun w'=>Fw r h.rg w';have hv0:=h.rg.v0;obtain ⟨a,ha⟩: ∃a:Nat,r.v+2=a:=⟨(r.v+2).toNat,by omega⟩;have ha2:(r.v+2).toNat=a:=by rw [ha];rfl
  unfold jD at hA;rw [ha2] at hA;simp only [ha] at eG;have hld:=zL p1 ig hN 3 0 a 2 (.inr (.inl rfl)) (by omega) eG;have bV:=kE g h.rm.byte a 2;rw [show (256:Int)^2=65536 from by decide] at bV;generalize aC g a 2=V at hld bV hA;have w1':IntKind.wrap .u16 V=V:=yw bV.1 bV.2;have hdi:=fun w'=>BU V s.nx w';have bD:0≤(V-s.nx)%65536∧(V-s.nx)%65536<65536:=by omega
  generalize (V-s.nx)%65536=D at hdi bD hA;have wD:IntKind.wrap .i64 D=D:=gV (by omega) (by omega);obtain ⟨s',hs'⟩: ∃s':SS,s'=s.goto 2:=⟨_,rfl⟩;rw [←hs'];have hpb:eF s':=hs'▸h.pb.goto _ (.inl (by decide));have t1:s'.tk=s.tk:=by rw [hs'];rfl
  have t2:s'.sg=s.sg:=by rw [hs'];rfl
  have t4:(s'.ph≠0∨s'.br=true)→s'.dn=false:=fun _=>by rw [hs'];rfl
  have hrow:((s.aI r P sv lv).set 12 (.int .i64 2)).set 19 (.bool false)=s'.aI r P sv lv:=by
    rw [hs'];unfold SS.aI;rw [hb];rfl
  have hg1:=fun w4 (p4:Cl w4 S (s.aI r P sv lv))=>og (l:=s.aI r P sv lv) p4 rfl rfl rfl 2 3 (0) 2 false rfl;simp only [hrow] at hg1;clear hrow;have hsv:aL (fun b=>A b∨lv.ownBlock=some b) w (sv) s'.sg:=by rw [t2];exact q2
  have hn:=q1.lt;have nS:w.heap.size≠S:=by omega
  have nB:w.heap.size≠B:=by have:=h.rm.bl;omega
  clear hs' hn;have fin: ∀(w4 w5:World),bO w4 P L Bs B N (g)→Cl w4 w.heap.size [.int .i64 0,.int .i64 0,.int .i64 0]→Dw.Mv (fun b=>b=S∨b=B) w w4→Cl w5 S (s'.aI r P (sv) lv)→Dw.Mv (· =S) w4 w5→Cl w5 w.heap.size [.int .i64 0,.int .i64 0,.int .i64 0]∧aV A (((w5.setCell ⟨w.heap.size,0,none⟩ (.int .i64 2)).setCell ⟨w.heap.size,1,none⟩ (.int .i64 3)).setCell ⟨w.heap.size,2,none⟩ (.int .i64 (0))) S P L Bs B N b2 r s' (g) lv∧Dw.Mv (fun b=>b=S∨b=B) w (((w5.setCell ⟨w.heap.size,0,none⟩ (.int .i64 2)).setCell ⟨w.heap.size,1,none⟩ (.int .i64 3)).setCell ⟨w.heap.size,2,none⟩ (.int .i64 (0)))∧Cl (((w5.setCell ⟨w.heap.size,0,none⟩ (.int .i64 2)).setCell ⟨w.heap.size,1,none⟩ (.int .i64 3)).setCell ⟨w.heap.size,2,none⟩ (.int .i64 (0))) w.heap.size [.int .i64 2,.int .i64 3,.int .i64 (0)]:=fun w4 w5 hg4 k4 hmv dR bP=>by
    have k5:=k4.kept (bP.block w.heap.size k4.lt nS);obtain ⟨dQ,hM,sf⟩:=h.close (x0:= .int .i64 2) (x1:= .int .i64 3) (x2:= .int .i64 (0)) (hmv.trans (bP.mono fun b q=> .inl q)) dR (hg4.lF bP h.sd) k5 hsv t1 hpb t4;exact ⟨k5,dQ,hM,sf⟩
  clear ha ha2 eG hv0;subst hA;have hD1:(0:Int)≤r.n:=by omega
  clear hfit;rw [hp] at c12;go_enter func79,ntmps79;go_wp2_with (first
    | (go_at_call 106;refine hld.mono ?_;rintro en w3 ⟨rfl,hb3⟩;have p3:=p1.below hb3 p1.lt;have y9:=p3.cell 9 _ rfl;have zJ:=p3.cell 12 _ rfl;have y6:=p3.cell 6 _ rfl;have y2:=p3.cell 2 _ rfl;rw [hp] at zJ;have k3:=kk.below hb3 kk.lt;have hg3:=ig.below hb3;have rC:Dw.Mv (fun b=>b=S∨b=B) w _:=eO (hbx.trans (hb3.mono hbx.size));rw [hev] at y6)
    | (go_at_call 108;refine (hdi _).mono ?_;rintro en w6 ⟨rfl,nA⟩;have nA:=nA.symm;subst nA;have p4:=p3;have k4:=k3;have hg4:=hg3;have hmv:=rC)
    | (go_at_call 105;refine (hg1 _ p4).mono ?_;rintro en w5 ⟨rfl,dR,bP⟩;obtain ⟨k5,dQ,hM,sf⟩:=fin _ _ hg4 k4 hmv dR bP;have b0:=k5.cell 0 (.int .i64 0) rfl;have b1:=k5.cell 1 (.int .i64 0) rfl;have b2':=k5.cell 2 (.int .i64 0) rfl;have g0:=k5.free 0;have g1:=k5.free 1;have g2:=k5.free 2)
    | go_in)
  all_goals
    refine yaI (gI rfl _ _ w.heap.size [.int .i64 2,.int .i64 3,.int .i64 (0)] _ rfl (fun j y hy=>by rw [yaq];exact sf.cell j y hy) underlying81 rfl (by kernel_rfl)) rfl ?_;exact ⟨rfl,dQ,hM⟩
set_option maxRecDepth 100000 in
theorem Tryz.Xe {A:Nat→Prop} {w:World} {S P L Bs B N b2:Nat} {r:Rg} {s:SS} {g:Nat→Int} {lv:Value} (h:aV A w S P L Bs B N b2 r s g lv) (hb:s.br=false) (hp:s.ph=1∧s.ev=false∨s.ph=4) (hA:jD r g s=0):
    Calls prog 79 #[.pointer (some ⟨S,0,none⟩)] w fun e w'=>e= .returned (.tuple #[.agg #[.int .i64 2,.int .i64 3,.int .i64 (0)],.int .i64 0])∧aV A w' S P L Bs B N b2 r (({ s with nn:=true }:SS).stop) (g) lv∧Dw.Mv (fun b=>b=S∨b=B) w w':=by
  have hbx:=((yag w.heap.size w).alloc (yab _) (Obj.cells #[.int .i64 0,.int .i64 0,.int .i64 0] 81)).alloc (by simp) (Obj.cells #[.int .i64 4,.int .i64 0,.int .i64 0] 81);have kk:=(Cl.new w #[.int .i64 0,.int .i64 0,.int .i64 0] 81).alloc (Obj.cells #[.int .i64 4,.int .i64 0,.int .i64 0] 81);obtain ⟨sv,vs,q1,q2,q3⟩:=h.obj;have p1:=q1.below hbx q1.lt;have ig:=h.rm.below hbx;have c12:=p1.cell 12 _ rfl;have hbn:=h.rg.bnd;have hnx:=h.pb.nx;have fD:=h.pb.us;have hfit:=h.fit;have hN:=h.hN;have eG:=fun w'=>Fw r h.rg w';have hv0:=h.rg.v0;obtain ⟨a,ha⟩: ∃a:Nat,r.v+2=a:=⟨(r.v+2).toNat,by omega⟩;have ha2:(r.v+2).toNat=a:=by rw [ha];rfl
  unfold jD at hA;rw [ha2] at hA;simp only [ha] at eG;have hld:=zL p1 ig hN 3 0 a 2 (.inr (.inl rfl)) (by omega) eG;have bV:=kE g h.rm.byte a 2;rw [show (256:Int)^2=65536 from by decide] at bV;generalize aC g a 2=V at hld bV hA;have w1':IntKind.wrap .u16 V=V:=yw bV.1 bV.2;have hdi:=fun w'=>BU V s.nx w';have bD:0≤(V-s.nx)%65536∧(V-s.nx)%65536<65536:=by omega
  generalize (V-s.nx)%65536=D at hdi bD hA;have wD:IntKind.wrap .i64 D=D:=gV (by omega) (by omega);obtain ⟨s',hs'⟩: ∃s':SS,s'=({ s with nn:=true }:SS).stop:=⟨_,rfl⟩;rw [←hs'];have hpb:eF s':=hs'▸⟨h.pb.nx,h.pb.us,h.pb.hd,h.pb.wr,.inl (yax _),fun q=>absurd q (by show¬11≤0;decide)⟩;have t1:s'.tk=s.tk:=by rw [hs'];rfl
  have t2:s'.sg=s.sg:=by rw [hs'];rfl
  have t4:(s'.ph≠0∨s'.br=true)→s'.dn=false:=by rw [hs'];intro q;rcases q with q|q;exact absurd rfl q;cases q
  have hrow:(((s.aI r P sv lv).set 14 (.bool true)).set 12 (.int .i64 0)).set 19 (.bool true)=s'.aI r P sv lv:=by
    rw [hs'];unfold SS.aI;rw [hb];rfl
  have hg1:=fun w4 (p4:Cl w4 S ((s.aI r P sv lv).set 14 (.bool true)))=>og (l:=(s.aI r P sv lv).set 14 (.bool true)) p4 rfl rfl rfl 2 3 (0) 0 true rfl;simp only [hrow] at hg1;clear hrow;have hsv:aL (fun b=>A b∨lv.ownBlock=some b) w (sv) s'.sg:=by rw [t2];exact q2
  have hn:=q1.lt;have nS:w.heap.size≠S:=by omega
  have nB:w.heap.size≠B:=by have:=h.rm.bl;omega
  clear hs' hn;have fin: ∀(w4 w5:World),bO w4 P L Bs B N (g)→Cl w4 w.heap.size [.int .i64 0,.int .i64 0,.int .i64 0]→Dw.Mv (fun b=>b=S∨b=B) w w4→Cl w5 S (s'.aI r P (sv) lv)→Dw.Mv (· =S) w4 w5→Cl w5 w.heap.size [.int .i64 0,.int .i64 0,.int .i64 0]∧aV A (((w5.setCell ⟨w.heap.size,0,none⟩ (.int .i64 2)).setCell ⟨w.heap.size,1,none⟩ (.int .i64 3)).setCell ⟨w.heap.size,2,none⟩ (.int .i64 (0))) S P L Bs B N b2 r s' (g) lv∧Dw.Mv (fun b=>b=S∨b=B) w (((w5.setCell ⟨w.heap.size,0,none⟩ (.int .i64 2)).setCell ⟨w.heap.size,1,none⟩ (.int .i64 3)).setCell ⟨w.heap.size,2,none⟩ (.int .i64 (0)))∧Cl (((w5.setCell ⟨w.heap.size,0,none⟩ (.int .i64 2)).setCell ⟨w.heap.size,1,none⟩ (.int .i64 3)).setCell ⟨w.heap.size,2,none⟩ (.int .i64 (0))) w.heap.size [.int .i64 2,.int .i64 3,.int .i64 (0)]:=fun w4 w5 hg4 k4 hmv dR bP=>by
    have k5:=k4.kept (bP.block w.heap.size k4.lt nS);obtain ⟨dQ,hM,sf⟩:=h.close (x0:= .int .i64 2) (x1:= .int .i64 3) (x2:= .int .i64 (0)) (hmv.trans (bP.mono fun b q=> .inl q)) dR (hg4.lF bP h.sd) k5 hsv t1 hpb t4;exact ⟨k5,dQ,hM,sf⟩
  clear ha ha2 eG hv0;subst hA;have hD1:(0:Int)≤r.n:=by omega
  clear hfit;rcases hp with ⟨hp,hev⟩|hp
  all_goals
    rw [hp] at c12;go_enter func79,ntmps79;go_wp2_with (first
      | (go_at_call 106;refine hld.mono ?_;rintro en w3 ⟨rfl,hb3⟩;have p3:=p1.below hb3 p1.lt;have y9:=p3.cell 9 _ rfl;have zJ:=p3.cell 12 _ rfl;have y6:=p3.cell 6 _ rfl;have y2:=p3.cell 2 _ rfl;rw [hp] at zJ;have k3:=kk.below hb3 kk.lt;have hg3:=ig.below hb3;have rC:Dw.Mv (fun b=>b=S∨b=B) w _:=eO (hbx.trans (hb3.mono hbx.size))
         try rw [hev] at y6)
      | (go_at_call 108;refine (hdi _).mono ?_;rintro en w6 ⟨rfl,nA⟩;have nA:=nA.symm;subst nA;have y14:=p3.cell 14 _ rfl;have f14:=p3.free 14;have p4:=p3.set 14 (.bool true) (by simp [SS.aI]);have k4:=k3.kept (yah w3 ⟨S,14,none⟩ (.bool true) w.heap.size nS);have hmv:=cZ rC S 14 (.bool true) (.inl rfl);have hg4:=hg3.lF (cZ (Dw.Mv.refl (· =S) w3) S 14 (.bool true) rfl) h.sd)
      | (go_at_call 105;refine (hg1 _ p4).mono ?_;rintro en w5 ⟨rfl,dR,bP⟩;obtain ⟨k5,dQ,hM,sf⟩:=fin _ _ hg4 k4 hmv dR bP;have b0:=k5.cell 0 (.int .i64 0) rfl;have b1:=k5.cell 1 (.int .i64 0) rfl;have b2':=k5.cell 2 (.int .i64 0) rfl;have g0:=k5.free 0;have g1:=k5.free 1;have g2:=k5.free 2)
      | go_in)
    all_goals
      refine yaI (gI rfl _ _ w.heap.size [.int .i64 2,.int .i64 3,.int .i64 (0)] _ rfl (fun j y hy=>by rw [yaq];exact sf.cell j y hy) underlying81 rfl (by kernel_rfl)) rfl ?_;exact ⟨rfl,dQ,hM⟩
set_option maxRecDepth 100000 in
theorem Tryz.Xg {A:Nat→Prop} {w:World} {S P L Bs B N b2:Nat} {r:Rg} {s:SS} {g:Nat→Int} {lv:Value} (h:aV A w S P L Bs B N b2 r s g lv) (hb:s.br=false) (hp:s.ph=1∨s.ph=4) (hA:r.n<jD r g s):
    Calls prog 79 #[.pointer (some ⟨S,0,none⟩)] w fun e w'=>e= .returned (.tuple #[.agg #[.int .i64 2,.int .i64 3,.int .i64 (0)],.int .i64 4])∧aV A w' S P L Bs B N b2 r (s.brk) (g) lv∧Dw.Mv (fun b=>b=S∨b=B) w w':=by
  have hbx:=((yag w.heap.size w).alloc (yab _) (Obj.cells #[.int .i64 0,.int .i64 0,.int .i64 0] 81)).alloc (by simp) (Obj.cells #[.int .i64 4,.int .i64 0,.int .i64 0] 81);have kk:=(Cl.new w #[.int .i64 0,.int .i64 0,.int .i64 0] 81).alloc (Obj.cells #[.int .i64 4,.int .i64 0,.int .i64 0] 81);obtain ⟨sv,vs,q1,q2,q3⟩:=h.obj;have p1:=q1.below hbx q1.lt;have ig:=h.rm.below hbx;have c12:=p1.cell 12 _ rfl;have hbn:=h.rg.bnd;have hnx:=h.pb.nx;have fD:=h.pb.us;have hfit:=h.fit;have hN:=h.hN;have eG:=fun w'=>Fw r h.rg w';have hv0:=h.rg.v0;obtain ⟨a,ha⟩: ∃a:Nat,r.v+2=a:=⟨(r.v+2).toNat,by omega⟩;have ha2:(r.v+2).toNat=a:=by rw [ha];rfl
  unfold jD at hA;rw [ha2] at hA;simp only [ha] at eG;have hld:=zL p1 ig hN 3 0 a 2 (.inr (.inl rfl)) (by omega) eG;have bV:=kE g h.rm.byte a 2;rw [show (256:Int)^2=65536 from by decide] at bV;generalize aC g a 2=V at hld bV hA;have w1':IntKind.wrap .u16 V=V:=yw bV.1 bV.2;have hdi:=fun w'=>BU V s.nx w';have bD:0≤(V-s.nx)%65536∧(V-s.nx)%65536<65536:=by omega
  generalize (V-s.nx)%65536=D at hdi bD hA;have wD:IntKind.wrap .i64 D=D:=gV (by omega) (by omega);obtain ⟨s',hs'⟩: ∃s':SS,s'=s.brk:=⟨_,rfl⟩;rw [←hs'];have hpb:eF s':=hs'▸⟨h.pb.nx,h.pb.us,⟨ybC 0,by show (0:Int)<65536;decide⟩,⟨ybC 0,by show (0:Int)<4294967296;decide⟩,.inl (yax _),fun q=>absurd q (by show¬11≤0;decide)⟩;have t1:s'.tk=s.tk:=by rw [hs'];rfl
  have t2:s'.sg= []:=by rw [hs'];rfl
  have t4:(s'.ph≠0∨s'.br=true)→s'.dn=false:=fun _=>by rw [hs'];exact h.dn (.inl (by omega))
  have hg1:=fun w4 (p4:Cl w4 S (s.aI r P sv lv))=>zoD (s:=s) p4 2 3 (0) 5 (h.dn (.inl (by omega)));have hsb:s.brk=s':=by rw [hs']
  simp only [hsb] at hg1;clear hsb;have hsv:aL (fun b=>A b∨lv.ownBlock=some b) w (.slice none 0 0) s'.sg:=by rw [t2];exact aL.none
  have hn:=q1.lt;have nS:w.heap.size≠S:=by omega
  have nB:w.heap.size≠B:=by have:=h.rm.bl;omega
  clear hs' hn;have fin: ∀(w4 w5:World),bO w4 P L Bs B N (g)→Cl w4 w.heap.size [.int .i64 0,.int .i64 0,.int .i64 0]→Dw.Mv (fun b=>b=S∨b=B) w w4→Cl w5 S (s'.aI r P (.slice none 0 0) lv)→Dw.Mv (· =S) w4 w5→Cl w5 w.heap.size [.int .i64 0,.int .i64 0,.int .i64 0]∧aV A (((w5.setCell ⟨w.heap.size,0,none⟩ (.int .i64 2)).setCell ⟨w.heap.size,1,none⟩ (.int .i64 3)).setCell ⟨w.heap.size,2,none⟩ (.int .i64 (0))) S P L Bs B N b2 r s' (g) lv∧Dw.Mv (fun b=>b=S∨b=B) w (((w5.setCell ⟨w.heap.size,0,none⟩ (.int .i64 2)).setCell ⟨w.heap.size,1,none⟩ (.int .i64 3)).setCell ⟨w.heap.size,2,none⟩ (.int .i64 (0)))∧Cl (((w5.setCell ⟨w.heap.size,0,none⟩ (.int .i64 2)).setCell ⟨w.heap.size,1,none⟩ (.int .i64 3)).setCell ⟨w.heap.size,2,none⟩ (.int .i64 (0))) w.heap.size [.int .i64 2,.int .i64 3,.int .i64 (0)]:=fun w4 w5 hg4 k4 hmv dR bP=>by
    have k5:=k4.kept (bP.block w.heap.size k4.lt nS);obtain ⟨dQ,hM,sf⟩:=h.close (x0:= .int .i64 2) (x1:= .int .i64 3) (x2:= .int .i64 (0)) (hmv.trans (bP.mono fun b q=> .inl q)) dR (hg4.lF bP h.sd) k5 hsv t1 hpb t4;exact ⟨k5,dQ,hM,sf⟩
  clear ha ha2 eG hv0;have hD0:(D==0)=false:=by simpa using (show D≠0 by omega)
  have hD1: ¬D≤r.n:=by omega
  have hD2:decide (D≤r.n)=false:=ybd hD1;clear hA;clear hfit;rcases hp with hp|hp
  all_goals
    rw [hp] at c12;go_enter func79,ntmps79;go_wp2_with (first
      | (go_at_call 106;refine hld.mono ?_;rintro en w3 ⟨rfl,hb3⟩;have p3:=p1.below hb3 p1.lt;have y9:=p3.cell 9 _ rfl;have zJ:=p3.cell 12 _ rfl;have y6:=p3.cell 6 _ rfl;have y2:=p3.cell 2 _ rfl;rw [hp] at zJ;have k3:=kk.below hb3 kk.lt;have hg3:=ig.below hb3;have rC:Dw.Mv (fun b=>b=S∨b=B) w _:=eO (hbx.trans (hb3.mono hbx.size)))
      | (go_at_call 108;refine (hdi _).mono ?_;rintro en w6 ⟨rfl,nA⟩;have nA:=nA.symm;subst nA;have p4:=p3;have k4:=k3;have hg4:=hg3;have hmv:=rC)
      | (go_at_call 105;refine (hg1 _ p4).mono ?_;rintro en w5 ⟨rfl,dR,bP⟩;obtain ⟨k5,dQ,hM,sf⟩:=fin _ _ hg4 k4 hmv dR bP;have b0:=k5.cell 0 (.int .i64 0) rfl;have b1:=k5.cell 1 (.int .i64 0) rfl;have b2':=k5.cell 2 (.int .i64 0) rfl;have g0:=k5.free 0;have g1:=k5.free 1;have g2:=k5.free 2)
      | go_in)
    all_goals
      refine yaI (gI rfl _ _ w.heap.size [.int .i64 2,.int .i64 3,.int .i64 (0)] _ rfl (fun j y hy=>by rw [yaq];exact sf.cell j y hy) underlying81 rfl (by kernel_rfl)) rfl ?_;exact ⟨rfl,dQ,hM⟩
set_option maxRecDepth 100000 in
theorem Tryz.zrf {A:Nat→Prop} {w:World} {S P L Bs B N b2:Nat} {r:Rg} {s:SS} {g:Nat→Int} {lv:Value} (h:aV A w S P L Bs B N b2 r s g lv) (hb:s.br=false) (hp:s.ph=12):
    Calls prog 78 #[.pointer (some ⟨S,0,none⟩)] w fun e w'=>e= .returned (.tuple #[.agg #[.int .i64 4,.int .i64 0,.int .i64 (0)],.int .i64 0])∧aV A w' S P L Bs B N b2 r (s.goto 13) (g) lv∧Dw.Mv (fun b=>b=S∨b=B) w w':=by
  have hbx:=(yag w.heap.size w).alloc (yab _) (Obj.cells #[.int .i64 0,.int .i64 0,.int .i64 0] 81);have kk:=Cl.new w #[.int .i64 0,.int .i64 0,.int .i64 0] 81;obtain ⟨sv,vs,q1,q2,q3⟩:=h.obj;have p1:=q1.below hbx q1.lt;have ig:=h.rm.below hbx;have c12:=p1.cell 12 _ rfl;have hbn:=h.rg.bnd;have hnx:=h.pb.nx;have fD:=h.pb.us;have hfit:=h.fit;have hN:=h.hN;obtain ⟨s',hs'⟩: ∃s':SS,s'=s.goto 13:=⟨_,rfl⟩;rw [←hs'];have hpb:eF s':=hs'▸h.pb.goto _ (.inr ⟨by omega,by decide⟩);have t1:s'.tk=s.tk:=by rw [hs'];rfl
  have t2:s'.sg=s.sg:=by rw [hs'];rfl
  have t4:(s'.ph≠0∨s'.br=true)→s'.dn=false:=fun _=>by rw [hs'];rfl
  have hrow:((s.aI r P sv lv).set 12 (.int .i64 13)).set 19 (.bool false)=s'.aI r P sv lv:=by
    rw [hs'];unfold SS.aI;rw [hb];rfl
  have hg1:=fun w4 (p4:Cl w4 S (s.aI r P sv lv))=>og (l:=s.aI r P sv lv) p4 rfl rfl rfl 4 0 (0) 13 false rfl;simp only [hrow] at hg1;clear hrow;have hsv:aL (fun b=>A b∨lv.ownBlock=some b) w (sv) s'.sg:=by rw [t2];exact q2
  have hn:=q1.lt;have nS:w.heap.size≠S:=by omega
  have nB:w.heap.size≠B:=by have:=h.rm.bl;omega
  clear hs' hn;have fin: ∀(w4 w5:World),bO w4 P L Bs B N (g)→Cl w4 w.heap.size [.int .i64 0,.int .i64 0,.int .i64 0]→Dw.Mv (fun b=>b=S∨b=B) w w4→Cl w5 S (s'.aI r P (sv) lv)→Dw.Mv (· =S) w4 w5→Cl w5 w.heap.size [.int .i64 0,.int .i64 0,.int .i64 0]∧aV A (((w5.setCell ⟨w.heap.size,0,none⟩ (.int .i64 4)).setCell ⟨w.heap.size,1,none⟩ (.int .i64 0)).setCell ⟨w.heap.size,2,none⟩ (.int .i64 (0))) S P L Bs B N b2 r s' (g) lv∧Dw.Mv (fun b=>b=S∨b=B) w (((w5.setCell ⟨w.heap.size,0,none⟩ (.int .i64 4)).setCell ⟨w.heap.size,1,none⟩ (.int .i64 0)).setCell ⟨w.heap.size,2,none⟩ (.int .i64 (0)))∧Cl (((w5.setCell ⟨w.heap.size,0,none⟩ (.int .i64 4)).setCell ⟨w.heap.size,1,none⟩ (.int .i64 0)).setCell ⟨w.heap.size,2,none⟩ (.int .i64 (0))) w.heap.size [.int .i64 4,.int .i64 0,.int .i64 (0)]:=fun w4 w5 hg4 k4 hmv dR bP=>by
    have k5:=k4.kept (bP.block w.heap.size k4.lt nS);obtain ⟨dQ,hM,sf⟩:=h.close (x0:= .int .i64 4) (x1:= .int .i64 0) (x2:= .int .i64 (0)) (hmv.trans (bP.mono fun b q=> .inl q)) dR (hg4.lF bP h.sd) k5 hsv t1 hpb t4;exact ⟨k5,dQ,hM,sf⟩
  have hg4:=ig;have p4:=p1;have k4:=kk;have hmv:Dw.Mv (fun b=>b=S∨b=B) w _:=eO hbx;have Um:IntKind.wrap .i64 (12+1)=13:=by decide
  clear hfit;rw [hp] at c12;go_enter func78,ntmps78;go_wp2_with (first
    | (go_at_call 105;refine (hg1 _ p4).mono ?_;rintro en w5 ⟨rfl,dR,bP⟩;obtain ⟨k5,dQ,hM,sf⟩:=fin _ _ hg4 k4 hmv dR bP;have b0:=k5.cell 0 (.int .i64 0) rfl;have b1:=k5.cell 1 (.int .i64 0) rfl;have b2':=k5.cell 2 (.int .i64 0) rfl;have g0:=k5.free 0;have g1:=k5.free 1;have g2:=k5.free 2)
    | go_in)
  all_goals
    refine yaI (gI rfl _ _ w.heap.size [.int .i64 4,.int .i64 0,.int .i64 (0)] _ rfl (fun j y hy=>by rw [yaq];exact sf.cell j y hy) underlying81 rfl (by kernel_rfl)) rfl ?_;exact ⟨rfl,dQ,hM⟩
set_option maxRecDepth 100000 in
theorem Tryz.zrd {A:Nat→Prop} {w:World} {S P L Bs B N b2:Nat} {r:Rg} {s:SS} {g:Nat→Int} {lv:Value} (h:aV A w S P L Bs B N b2 r s g lv) (hb:s.br=false) (hp:s.ph=14):
    Calls prog 78 #[.pointer (some ⟨S,0,none⟩)] w fun e w'=>e= .returned (.tuple #[.agg #[.int .i64 4,.int .i64 0,.int .i64 (0)],.int .i64 0])∧aV A w' S P L Bs B N b2 r (s.goto 15) (g) lv∧Dw.Mv (fun b=>b=S∨b=B) w w':=by
  have hbx:=(yag w.heap.size w).alloc (yab _) (Obj.cells #[.int .i64 0,.int .i64 0,.int .i64 0] 81);have kk:=Cl.new w #[.int .i64 0,.int .i64 0,.int .i64 0] 81;obtain ⟨sv,vs,q1,q2,q3⟩:=h.obj;have p1:=q1.below hbx q1.lt;have ig:=h.rm.below hbx;have c12:=p1.cell 12 _ rfl;have hbn:=h.rg.bnd;have hnx:=h.pb.nx;have fD:=h.pb.us;have hfit:=h.fit;have hN:=h.hN;obtain ⟨s',hs'⟩: ∃s':SS,s'=s.goto 15:=⟨_,rfl⟩;rw [←hs'];have hpb:eF s':=hs'▸h.pb.goto _ (.inr ⟨by omega,by decide⟩);have t1:s'.tk=s.tk:=by rw [hs'];rfl
  have t2:s'.sg=s.sg:=by rw [hs'];rfl
  have t4:(s'.ph≠0∨s'.br=true)→s'.dn=false:=fun _=>by rw [hs'];rfl
  have hrow:((s.aI r P sv lv).set 12 (.int .i64 15)).set 19 (.bool false)=s'.aI r P sv lv:=by
    rw [hs'];unfold SS.aI;rw [hb];rfl
  have hg1:=fun w4 (p4:Cl w4 S (s.aI r P sv lv))=>og (l:=s.aI r P sv lv) p4 rfl rfl rfl 4 0 (0) 15 false rfl;simp only [hrow] at hg1;clear hrow;have hsv:aL (fun b=>A b∨lv.ownBlock=some b) w (sv) s'.sg:=by rw [t2];exact q2
  have hn:=q1.lt;have nS:w.heap.size≠S:=by omega
  have nB:w.heap.size≠B:=by have:=h.rm.bl;omega
  clear hs' hn;have fin: ∀(w4 w5:World),bO w4 P L Bs B N (g)→Cl w4 w.heap.size [.int .i64 0,.int .i64 0,.int .i64 0]→Dw.Mv (fun b=>b=S∨b=B) w w4→Cl w5 S (s'.aI r P (sv) lv)→Dw.Mv (· =S) w4 w5→Cl w5 w.heap.size [.int .i64 0,.int .i64 0,.int .i64 0]∧aV A (((w5.setCell ⟨w.heap.size,0,none⟩ (.int .i64 4)).setCell ⟨w.heap.size,1,none⟩ (.int .i64 0)).setCell ⟨w.heap.size,2,none⟩ (.int .i64 (0))) S P L Bs B N b2 r s' (g) lv∧Dw.Mv (fun b=>b=S∨b=B) w (((w5.setCell ⟨w.heap.size,0,none⟩ (.int .i64 4)).setCell ⟨w.heap.size,1,none⟩ (.int .i64 0)).setCell ⟨w.heap.size,2,none⟩ (.int .i64 (0)))∧Cl (((w5.setCell ⟨w.heap.size,0,none⟩ (.int .i64 4)).setCell ⟨w.heap.size,1,none⟩ (.int .i64 0)).setCell ⟨w.heap.size,2,none⟩ (.int .i64 (0))) w.heap.size [.int .i64 4,.int .i64 0,.int .i64 (0)]:=fun w4 w5 hg4 k4 hmv dR bP=>by
    have k5:=k4.kept (bP.block w.heap.size k4.lt nS);obtain ⟨dQ,hM,sf⟩:=h.close (x0:= .int .i64 4) (x1:= .int .i64 0) (x2:= .int .i64 (0)) (hmv.trans (bP.mono fun b q=> .inl q)) dR (hg4.lF bP h.sd) k5 hsv t1 hpb t4;exact ⟨k5,dQ,hM,sf⟩
  have hg4:=ig;have p4:=p1;have k4:=kk;have hmv:Dw.Mv (fun b=>b=S∨b=B) w _:=eO hbx;have Um:IntKind.wrap .i64 (14+1)=15:=by decide
  clear hfit;rw [hp] at c12;go_enter func78,ntmps78;go_wp2_with (first
    | (go_at_call 105;refine (hg1 _ p4).mono ?_;rintro en w5 ⟨rfl,dR,bP⟩;obtain ⟨k5,dQ,hM,sf⟩:=fin _ _ hg4 k4 hmv dR bP;have b0:=k5.cell 0 (.int .i64 0) rfl;have b1:=k5.cell 1 (.int .i64 0) rfl;have b2':=k5.cell 2 (.int .i64 0) rfl;have g0:=k5.free 0;have g1:=k5.free 1;have g2:=k5.free 2)
    | go_in)
  all_goals
    refine yaI (gI rfl _ _ w.heap.size [.int .i64 4,.int .i64 0,.int .i64 (0)] _ rfl (fun j y hy=>by rw [yaq];exact sf.cell j y hy) underlying81 rfl (by kernel_rfl)) rfl ?_;exact ⟨rfl,dQ,hM⟩
set_option maxRecDepth 100000 in
theorem Tryz.zre {A:Nat→Prop} {w:World} {S P L Bs B N b2:Nat} {r:Rg} {s:SS} {g:Nat→Int} {lv:Value} (h:aV A w S P L Bs B N b2 r s g lv) (hb:s.br=false) (hp:s.ph=13):
    Calls prog 78 #[.pointer (some ⟨S,0,none⟩)] w fun e w'=>e= .returned (.tuple #[.agg #[.int .i64 3,.int .i64 7,.int .i64 (0)],.int .i64 0])∧aV A w' S P L Bs B N b2 r (({ s with us:=(s.us+1)%65536 }:SS).goto 14) (gF g (r.c+2).toNat 2 ((s.us+1)%65536)) lv∧Dw.Mv (fun b=>b=S∨b=B) w w':=by
  have hbx:=(yag w.heap.size w).alloc (yab _) (Obj.cells #[.int .i64 0,.int .i64 0,.int .i64 0] 81);have kk:=Cl.new w #[.int .i64 0,.int .i64 0,.int .i64 0] 81;obtain ⟨sv,vs,q1,q2,q3⟩:=h.obj;have p1:=q1.below hbx q1.lt;have ig:=h.rm.below hbx;have c12:=p1.cell 12 _ rfl;have hbn:=h.rg.bnd;have hnx:=h.pb.nx;have fD:=h.pb.us;have hfit:=h.fit;have hN:=h.hN;have eG:=fun w'=>zAf r h.rg w';have hc0:=h.rg.c0;obtain ⟨a,ha⟩: ∃a:Nat,r.c+2=a:=⟨(r.c+2).toNat,by omega⟩;rw [ha] at eG ⊢;rw [yaV];have c10:=p1.cell 10 _ rfl;have f10:=p1.free 10;have w0':IntKind.wrap .u16 (s.us+1)=(s.us+1)%65536:=FC _;obtain ⟨u,hu⟩: ∃u,u=(s.us+1)%65536:=⟨_,rfl⟩;have hub:0≤u∧u<65536:=by omega
  rw [←hu] at w0' ⊢;have w1':IntKind.wrap .u64 u=u:=bE hub.1 (by omega);clear hu;obtain ⟨s',hs'⟩: ∃s':SS,s'=({ s with us:=u }:SS).goto 14:=⟨_,rfl⟩;rw [←hs'];have hpb:eF s':=hs'▸⟨h.pb.nx,hub,h.pb.hd,h.pb.wr,.inr (by show 11≤14∧14≤15;decide),fun _=>h.pb.ret (by omega)⟩;have t1:s'.tk=s.tk:=by rw [hs'];rfl
  have t2:s'.sg=s.sg:=by rw [hs'];rfl
  have t4:(s'.ph≠0∨s'.br=true)→s'.dn=false:=fun _=>by rw [hs'];rfl
  have hrow:(((s.aI r P sv lv).set 10 (.int .u16 u)).set 12 (.int .i64 14)).set 19 (.bool false)=s'.aI r P sv lv:=by
    rw [hs'];unfold SS.aI;rw [hb];rfl
  have hg1:=fun w4 (p4:Cl w4 S ((s.aI r P sv lv).set 10 (.int .u16 u)))=>og (l:=(s.aI r P sv lv).set 10 (.int .u16 u)) p4 rfl rfl rfl 3 7 (0) 14 false rfl;simp only [hrow] at hg1;clear hrow;have hsv:aL (fun b=>A b∨lv.ownBlock=some b) w (sv) s'.sg:=by rw [t2];exact q2
  have hn:=q1.lt;have nS:w.heap.size≠S:=by omega
  have nB:w.heap.size≠B:=by have:=h.rm.bl;omega
  clear hs' hn;have fin: ∀(w4 w5:World),bO w4 P L Bs B N (gF g a 2 u)→Cl w4 w.heap.size [.int .i64 0,.int .i64 0,.int .i64 0]→Dw.Mv (fun b=>b=S∨b=B) w w4→Cl w5 S (s'.aI r P (sv) lv)→Dw.Mv (· =S) w4 w5→Cl w5 w.heap.size [.int .i64 0,.int .i64 0,.int .i64 0]∧aV A (((w5.setCell ⟨w.heap.size,0,none⟩ (.int .i64 3)).setCell ⟨w.heap.size,1,none⟩ (.int .i64 7)).setCell ⟨w.heap.size,2,none⟩ (.int .i64 (0))) S P L Bs B N b2 r s' (gF g a 2 u) lv∧Dw.Mv (fun b=>b=S∨b=B) w (((w5.setCell ⟨w.heap.size,0,none⟩ (.int .i64 3)).setCell ⟨w.heap.size,1,none⟩ (.int .i64 7)).setCell ⟨w.heap.size,2,none⟩ (.int .i64 (0)))∧Cl (((w5.setCell ⟨w.heap.size,0,none⟩ (.int .i64 3)).setCell ⟨w.heap.size,1,none⟩ (.int .i64 7)).setCell ⟨w.heap.size,2,none⟩ (.int .i64 (0))) w.heap.size [.int .i64 3,.int .i64 7,.int .i64 (0)]:=fun w4 w5 hg4 k4 hmv dR bP=>by
    have k5:=k4.kept (bP.block w.heap.size k4.lt nS);obtain ⟨dQ,hM,sf⟩:=h.close (x0:= .int .i64 3) (x1:= .int .i64 7) (x2:= .int .i64 (0)) (hmv.trans (bP.mono fun b q=> .inl q)) dR (hg4.lF bP h.sd) k5 hsv t1 hpb t4;exact ⟨k5,dQ,hM,sf⟩
  have p3:Cl ((w.alloc (Obj.cells #[.int .i64 0,.int .i64 0,.int .i64 0] 81)).setCell ⟨S,10,none⟩ (.int .u16 u)) S (({ s with us:=u }:SS).aI r P sv lv):=p1.set 10 (.int .u16 u) (by simp [SS.aI]);have k3:=kk.kept (yah _ ⟨S,10,none⟩ (.int .u16 u) w.heap.size nS);have rC:Dw.Mv (fun b=>b=S∨b=B) w _:=cZ (eO hbx) S 10 (.int .u16 u) (.inl rfl);have rm3:=ig.lF (cZ (Dw.Mv.refl (· =S) _) S 10 (.int .u16 u) rfl) h.sd;have hst:=Pj p3 rm3 hN 7 0 u a 2 (.inr (.inl rfl)) (by omega) eG;have y10:=p3.cell 10 _ rfl;clear ha;clear hfit;rw [hp] at c12;go_enter func78,ntmps78;go_wp2_with (first
    | (go_at_call 103;refine hst.mono ?_;rintro en w4 ⟨rfl,hg4,jU⟩;have p4:=p3.kept (jU.block S p3.lt h.sd.2.2.2);have k4:=k3.kept (jU.block _ k3.lt nB);have hmv:=rC.trans (jU.mono fun b q=>(.inr q:b=S∨b=B)))
    | (go_at_call 105;refine (hg1 _ p4).mono ?_;rintro en w5 ⟨rfl,dR,bP⟩;obtain ⟨k5,dQ,hM,sf⟩:=fin _ _ hg4 k4 hmv dR bP;have b0:=k5.cell 0 (.int .i64 0) rfl;have b1:=k5.cell 1 (.int .i64 0) rfl;have b2':=k5.cell 2 (.int .i64 0) rfl;have g0:=k5.free 0;have g1:=k5.free 1;have g2:=k5.free 2)
    | go_in)
  all_goals
    refine yaI (gI rfl _ _ w.heap.size [.int .i64 3,.int .i64 7,.int .i64 (0)] _ rfl (fun j y hy=>by rw [yaq];exact sf.cell j y hy) underlying81 rfl (by kernel_rfl)) rfl ?_;exact ⟨rfl,dQ,hM⟩
set_option maxRecDepth 100000 in
theorem Tryz.zq4 {A:Nat→Prop} {w:World} {S P L Bs B N b2:Nat} {r:Rg} {s:SS} {g:Nat→Int} {lv:Value} (h:aV A w S P L Bs B N b2 r s g lv) (hb:s.br=false) (hp:s.ph=6):
    Calls prog 79 #[.pointer (some ⟨S,0,none⟩)] w fun e w'=>e= .returned (.tuple #[.agg #[.int .i64 2,.int .i64 4,.int .i64 (s.nx.tmod r.n)],.int .i64 0])∧aV A w' S P L Bs B N b2 r (({ s with hd:=aC g (r.v+4+2*(s.nx.tmod r.n)).toNat 2 }:SS).goto 7) (g) lv∧Dw.Mv (fun b=>b=S∨b=B) w w':=by
  have hbx:=((yag w.heap.size w).alloc (yab _) (Obj.cells #[.int .i64 0,.int .i64 0,.int .i64 0] 81)).alloc (by simp) (Obj.cells #[.int .i64 4,.int .i64 0,.int .i64 0] 81);have kk:=(Cl.new w #[.int .i64 0,.int .i64 0,.int .i64 0] 81).alloc (Obj.cells #[.int .i64 4,.int .i64 0,.int .i64 0] 81);obtain ⟨sv,vs,q1,q2,q3⟩:=h.obj;have p1:=q1.below hbx q1.lt;have ig:=h.rm.below hbx;have c12:=p1.cell 12 _ rfl;have hbn:=h.rg.bnd;have hnx:=h.pb.nx;have fD:=h.pb.us;have hfit:=h.fit;have hN:=h.hN;obtain ⟨i,hi,hi2⟩: ∃i:Int,s.nx.tmod r.n=i∧(0≤i∧i<r.n):=⟨_,rfl,yc8 _ hnx.1,ycV _ (by omega)⟩;rw [hi];have eG:=fun w'=>zsI r h.rg i hi2 w';have hv0:=h.rg.v0;obtain ⟨a,ha⟩: ∃a:Nat,r.v+4+2*i=a:=⟨(r.v+4+2*i).toNat,by omega⟩;rw [ha] at eG ⊢;rw [yaV];have c9:=p1.cell 9 _ rfl;have c2:=p1.cell 2 _ rfl;have bV:=kE g h.rm.byte a 2;rw [show (256:Int)^2=65536 from by decide] at bV;have hld:=fun w' (st:bO w' P L Bs B N g) (p:Cl w' S (s.aI r P sv lv))=>zL p st hN 4 i a 2 (.inr (.inl rfl)) (by omega) eG;generalize aC g a 2=V at hld bV ⊢;have w1':IntKind.wrap .i64 s.nx=s.nx:=gV (by omega) (by omega);have w2':IntKind.wrap .i64 i=i:=gV (by omega) (by omega);have w3':IntKind.wrap .i64 V=V:=gV (by omega) (by omega);have hn0: ¬r.n=0:=by omega
  have hn1:(r.n==0)=false:=by simpa using hn0
  obtain ⟨s',hs'⟩: ∃s':SS,s'=({ s with hd:=V }:SS).goto 7:=⟨_,rfl⟩;rw [←hs'];have hpb:eF s':=hs'▸⟨h.pb.nx,h.pb.us,bV,h.pb.wr,.inl (by show 7≤7;decide),fun q=>absurd q (by show¬11≤7;decide)⟩;have t1:s'.tk=s.tk:=by rw [hs'];rfl
  have t2:s'.sg=s.sg:=by rw [hs'];rfl
  have t4:(s'.ph≠0∨s'.br=true)→s'.dn=false:=fun _=>by rw [hs'];rfl
  have hrow:(((s.aI r P sv lv).set 15 (.int .i64 V)).set 12 (.int .i64 7)).set 19 (.bool false)=s'.aI r P sv lv:=by
    rw [hs'];unfold SS.aI;rw [hb];rfl
  have hg1:=fun w4 (p4:Cl w4 S ((s.aI r P sv lv).set 15 (.int .i64 V)))=>og (l:=(s.aI r P sv lv).set 15 (.int .i64 V)) p4 rfl rfl rfl 2 4 (i) 7 false rfl;simp only [hrow] at hg1;clear hrow;have hsv:aL (fun b=>A b∨lv.ownBlock=some b) w (sv) s'.sg:=by rw [t2];exact q2
  have hn:=q1.lt;have nS:w.heap.size≠S:=by omega
  have nB:w.heap.size≠B:=by have:=h.rm.bl;omega
  clear hs' hn;have fin: ∀(w4 w5:World),bO w4 P L Bs B N (g)→Cl w4 w.heap.size [.int .i64 0,.int .i64 0,.int .i64 0]→Dw.Mv (fun b=>b=S∨b=B) w w4→Cl w5 S (s'.aI r P (sv) lv)→Dw.Mv (· =S) w4 w5→Cl w5 w.heap.size [.int .i64 0,.int .i64 0,.int .i64 0]∧aV A (((w5.setCell ⟨w.heap.size,0,none⟩ (.int .i64 2)).setCell ⟨w.heap.size,1,none⟩ (.int .i64 4)).setCell ⟨w.heap.size,2,none⟩ (.int .i64 (i))) S P L Bs B N b2 r s' (g) lv∧Dw.Mv (fun b=>b=S∨b=B) w (((w5.setCell ⟨w.heap.size,0,none⟩ (.int .i64 2)).setCell ⟨w.heap.size,1,none⟩ (.int .i64 4)).setCell ⟨w.heap.size,2,none⟩ (.int .i64 (i)))∧Cl (((w5.setCell ⟨w.heap.size,0,none⟩ (.int .i64 2)).setCell ⟨w.heap.size,1,none⟩ (.int .i64 4)).setCell ⟨w.heap.size,2,none⟩ (.int .i64 (i))) w.heap.size [.int .i64 2,.int .i64 4,.int .i64 (i)]:=fun w4 w5 hg4 k4 hmv dR bP=>by
    have k5:=k4.kept (bP.block w.heap.size k4.lt nS);obtain ⟨dQ,hM,sf⟩:=h.close (x0:= .int .i64 2) (x1:= .int .i64 4) (x2:= .int .i64 (i)) (hmv.trans (bP.mono fun b q=> .inl q)) dR (hg4.lF bP h.sd) k5 hsv t1 hpb t4;exact ⟨k5,dQ,hM,sf⟩
  clear ha hv0 eG;clear hfit;rw [hp] at c12;go_enter func79,ntmps79;go_wp2_with fail;go_quiet (fail);have pq:Cl (((w.alloc (Obj.cells #[.int .i64 0,.int .i64 0,.int .i64 0] 81)).alloc (Obj.cells #[.int .i64 4,.int .i64 0,.int .i64 0] 81)).drewN nq) S (s.aI r P sv lv):=p1.kept (w':=((w.alloc (Obj.cells #[.int .i64 0,.int .i64 0,.int .i64 0] 81)).alloc (Obj.cells #[.int .i64 4,.int .i64 0,.int .i64 0] 81)).drewN nq) rfl;have kq:Cl (((w.alloc (Obj.cells #[.int .i64 0,.int .i64 0,.int .i64 0] 81)).alloc (Obj.cells #[.int .i64 4,.int .i64 0,.int .i64 0] 81)).drewN nq) w.heap.size [.int .i64 0,.int .i64 0,.int .i64 0]:=kk.kept (w':=((w.alloc (Obj.cells #[.int .i64 0,.int .i64 0,.int .i64 0] 81)).alloc (Obj.cells #[.int .i64 4,.int .i64 0,.int .i64 0] 81)).drewN nq) rfl;have IA:bO (((w.alloc (Obj.cells #[.int .i64 0,.int .i64 0,.int .i64 0] 81)).alloc (Obj.cells #[.int .i64 4,.int .i64 0,.int .i64 0] 81)).drewN nq) P L Bs B N g:=ig.kept (w':=((w.alloc (Obj.cells #[.int .i64 0,.int .i64 0,.int .i64 0] 81)).alloc (Obj.cells #[.int .i64 4,.int .i64 0,.int .i64 0] 81)).drewN nq) (fun _ _ _=>rfl) (yab _);have hbq:Below w.heap.size w (((w.alloc (Obj.cells #[.int .i64 0,.int .i64 0,.int .i64 0] 81)).alloc (Obj.cells #[.int .i64 4,.int .i64 0,.int .i64 0] 81)).drewN nq):=below_drewN hbx nq;go_wp2_with (first
    | (go_at_call 106;refine (hld _ IA pq).mono ?_;rintro en w3 ⟨rfl,hb3⟩;have p3:=pq.below hb3 pq.lt;have y15:=p3.cell 15 _ rfl;have f15:=p3.free 15;have p4:=p3.set 15 (.int .i64 V) (by simp [SS.aI]);have k4:=(kq.below hb3 kq.lt).kept (yah w3 ⟨S,15,none⟩ (.int .i64 V) w.heap.size nS);have hmv:Dw.Mv (fun b=>b=S∨b=B) w _:=cZ (eO (hbq.trans (hb3.mono hbq.size))) S 15 (.int .i64 V) (.inl rfl);have hg4:=(IA.below hb3).lF (cZ (Dw.Mv.refl (· =S) w3) S 15 (.int .i64 V) rfl) h.sd)
    | (go_at_call 105;refine (hg1 _ p4).mono ?_;rintro en w5 ⟨rfl,dR,bP⟩;obtain ⟨k5,dQ,hM,sf⟩:=fin _ _ hg4 k4 hmv dR bP;have b0:=k5.cell 0 (.int .i64 0) rfl;have b1:=k5.cell 1 (.int .i64 0) rfl;have b2':=k5.cell 2 (.int .i64 0) rfl;have g0:=k5.free 0;have g1:=k5.free 1;have g2:=k5.free 2)
    | go_in)
  all_goals
    refine yaI (gI rfl _ _ w.heap.size [.int .i64 2,.int .i64 4,.int .i64 (i)] _ rfl (fun j y hy=>by rw [yaq];exact sf.cell j y hy) underlying81 rfl (by kernel_rfl)) rfl ?_;exact ⟨rfl,dQ,hM⟩
set_option maxRecDepth 100000 in
theorem Tryz.zoN {A:Nat→Prop} {w:World} {S P L Bs B N b2:Nat} {r:Rg} {s:SS} {g:Nat→Int} {lv:Value} (h:aV A w S P L Bs B N b2 r s g lv) (hb:s.br=false) (hp:s.ph=11):
    Calls prog 78 #[.pointer (some ⟨S,0,none⟩)] w fun e w'=>e= .returned (.tuple #[.agg #[.int .i64 3,.int .i64 8,.int .i64 (s.us.tmod r.n)],.int .i64 0])∧aV A w' S P L Bs B N b2 r (s.goto 12) (gF g (r.c+4+8*s.us.tmod r.n).toNat 8 (s.hd+s.wr*4294967296)) lv∧Dw.Mv (fun b=>b=S∨b=B) w w':=by
  have hbx:=(yag w.heap.size w).alloc (yab _) (Obj.cells #[.int .i64 0,.int .i64 0,.int .i64 0] 81);have kk:=Cl.new w #[.int .i64 0,.int .i64 0,.int .i64 0] 81;obtain ⟨sv,vs,q1,q2,q3⟩:=h.obj;have p1:=q1.below hbx q1.lt;have ig:=h.rm.below hbx;have c12:=p1.cell 12 _ rfl;have hbn:=h.rg.bnd;have hnx:=h.pb.nx;have fD:=h.pb.us;have hfit:=h.fit;have hN:=h.hN;obtain ⟨i,hi,hi2⟩: ∃i:Int,s.us.tmod r.n=i∧(0≤i∧i<r.n):=⟨_,rfl,yc8 _ fD.1,ycV _ (by omega)⟩;rw [hi];have eG:=fun w'=>zAc r h.rg i hi2 w';have hc0:=h.rg.c0;obtain ⟨a,ha⟩: ∃a:Nat,r.c+4+8*i=a:=⟨(r.c+4+8*i).toNat,by omega⟩;rw [ha] at eG ⊢;rw [yaV];have c10:=p1.cell 10 _ rfl;have c2:=p1.cell 2 _ rfl;have hhd:=h.pb.hd;have hwr:=h.pb.wr;have Ul:=fun w'=>zu2 s.hd s.wr ⟨hhd.1,by omega⟩ hwr w';obtain ⟨V,hV⟩: ∃V,V=s.hd+s.wr*4294967296:=⟨_,rfl⟩;simp only [←hV] at Ul;rw [←hV];clear hV;have hst:=fun w' (st:bO w' P L Bs B N g) (p:Cl w' S (s.aI r P sv lv))=>Pj p st hN 8 i V a 8 (.inr (.inr (.inr rfl))) (by omega) eG;have w1':IntKind.wrap .i64 s.us=s.us:=gV (by omega) (by omega);have w2':IntKind.wrap .i64 i=i:=gV (by omega) (by omega);have w3':IntKind.wrap .u32 s.hd=s.hd:=La (by omega) (by omega);have hn0: ¬r.n=0:=by omega
  have hn1:(r.n==0)=false:=by simpa using hn0
  obtain ⟨s',hs'⟩: ∃s':SS,s'=s.goto 12:=⟨_,rfl⟩;rw [←hs'];have hpb:eF s':=hs'▸h.pb.goto _ (.inr ⟨by omega,by decide⟩);have t1:s'.tk=s.tk:=by rw [hs'];rfl
  have t2:s'.sg=s.sg:=by rw [hs'];rfl
  have t4:(s'.ph≠0∨s'.br=true)→s'.dn=false:=fun _=>by rw [hs'];rfl
  have hrow:((s.aI r P sv lv).set 12 (.int .i64 12)).set 19 (.bool false)=s'.aI r P sv lv:=by
    rw [hs'];unfold SS.aI;rw [hb];rfl
  have hg1:=fun w4 (p4:Cl w4 S (s.aI r P sv lv))=>og (l:=s.aI r P sv lv) p4 rfl rfl rfl 3 8 (i) 12 false rfl;simp only [hrow] at hg1;clear hrow;have hsv:aL (fun b=>A b∨lv.ownBlock=some b) w (sv) s'.sg:=by rw [t2];exact q2
  have hn:=q1.lt;have nS:w.heap.size≠S:=by omega
  have nB:w.heap.size≠B:=by have:=h.rm.bl;omega
  clear hs' hn;have fin: ∀(w4 w5:World),bO w4 P L Bs B N (gF g a 8 V)→Cl w4 w.heap.size [.int .i64 0,.int .i64 0,.int .i64 0]→Dw.Mv (fun b=>b=S∨b=B) w w4→Cl w5 S (s'.aI r P (sv) lv)→Dw.Mv (· =S) w4 w5→Cl w5 w.heap.size [.int .i64 0,.int .i64 0,.int .i64 0]∧aV A (((w5.setCell ⟨w.heap.size,0,none⟩ (.int .i64 3)).setCell ⟨w.heap.size,1,none⟩ (.int .i64 8)).setCell ⟨w.heap.size,2,none⟩ (.int .i64 (i))) S P L Bs B N b2 r s' (gF g a 8 V) lv∧Dw.Mv (fun b=>b=S∨b=B) w (((w5.setCell ⟨w.heap.size,0,none⟩ (.int .i64 3)).setCell ⟨w.heap.size,1,none⟩ (.int .i64 8)).setCell ⟨w.heap.size,2,none⟩ (.int .i64 (i)))∧Cl (((w5.setCell ⟨w.heap.size,0,none⟩ (.int .i64 3)).setCell ⟨w.heap.size,1,none⟩ (.int .i64 8)).setCell ⟨w.heap.size,2,none⟩ (.int .i64 (i))) w.heap.size [.int .i64 3,.int .i64 8,.int .i64 (i)]:=fun w4 w5 hg4 k4 hmv dR bP=>by
    have k5:=k4.kept (bP.block w.heap.size k4.lt nS);obtain ⟨dQ,hM,sf⟩:=h.close (x0:= .int .i64 3) (x1:= .int .i64 8) (x2:= .int .i64 (i)) (hmv.trans (bP.mono fun b q=> .inl q)) dR (hg4.lF bP h.sd) k5 hsv t1 hpb t4;exact ⟨k5,dQ,hM,sf⟩
  clear ha hc0 eG;clear hfit;rw [hp] at c12;go_enter func78,ntmps78;go_wp2_with fail;go_quiet (fail);have Iw:Cl ((w.alloc (Obj.cells #[.int .i64 0,.int .i64 0,.int .i64 0] 81)).drewN nq) S (s.aI r P sv lv):=p1.kept (w':=(w.alloc (Obj.cells #[.int .i64 0,.int .i64 0,.int .i64 0] 81)).drewN nq) rfl;have Us:Cl ((w.alloc (Obj.cells #[.int .i64 0,.int .i64 0,.int .i64 0] 81)).drewN nq) w.heap.size [.int .i64 0,.int .i64 0,.int .i64 0]:=kk.kept (w':=(w.alloc (Obj.cells #[.int .i64 0,.int .i64 0,.int .i64 0] 81)).drewN nq) rfl;have UR:bO ((w.alloc (Obj.cells #[.int .i64 0,.int .i64 0,.int .i64 0] 81)).drewN nq) P L Bs B N g:=ig.kept (w':=(w.alloc (Obj.cells #[.int .i64 0,.int .i64 0,.int .i64 0] 81)).drewN nq) (fun _ _ _=>rfl) (yab _);have Tj:Below w.heap.size w ((w.alloc (Obj.cells #[.int .i64 0,.int .i64 0,.int .i64 0] 81)).drewN nq):=below_drewN hbx nq;generalize (w.alloc (Obj.cells #[.int .i64 0,.int .i64 0,.int .i64 0] 81)).drewN nq=w8 at Iw Us UR Tj ⊢;have pq:Cl w8.drew S (s.aI r P sv lv):=Iw.kept (w':=w8.drew) rfl;have kq:Cl w8.drew w.heap.size [.int .i64 0,.int .i64 0,.int .i64 0]:=Us.kept (w':=w8.drew) rfl;have IA:bO w8.drew P L Bs B N g:=UR.kept (w':=w8.drew) (fun _ _ _=>rfl) (yab _);have hbq:Below w.heap.size w w8.drew:=Tj.drew;have c15:=Iw.cell 15 _ rfl;have c17:=Iw.cell 17 _ rfl;go_wp2_with fail;go_region_held3 (fun w'=>w'.cell? ⟨S,15,none⟩=some (.int .i64 s.hd)∧w'.cell? ⟨S,17,none⟩=some (.int .u32 s.wr)) (go_keep)
    ((first
      | (go_at_call 104;refine (Ul _).mono ?_;rintro en w6 ⟨rfl,hb6⟩;have p6:=pq.below hb6 pq.lt;have k6:=kq.below hb6 kq.lt;have rm6:=IA.below hb6;have y15:=p6.cell 15 _ rfl;have y17:=p6.cell 17 _ rfl)
      | (go_at_call 103;refine (hst _ rm6 p6).mono ?_;rintro en w4 ⟨rfl,hg4,jU⟩;have p4:=p6.kept (jU.block S p6.lt h.sd.2.2.2);have k4:=k6.kept (jU.block _ k6.lt nB);have hmv:Dw.Mv (fun b=>b=S∨b=B) w _:=(eO (hbq.trans (hb6.mono hbq.size))).trans (jU.mono fun b q=>(.inr q:b=S∨b=B));have BI:=p4.cell 15 _ rfl;have z17:=p4.cell 17 _ rfl)))
  all_goals
    go_wp2_with (first
    | (go_at_call 105;refine (hg1 _ p4).mono ?_;rintro en w5 ⟨rfl,dR,bP⟩;obtain ⟨k5,dQ,hM,sf⟩:=fin _ _ hg4 k4 hmv dR bP;have b0:=k5.cell 0 (.int .i64 0) rfl;have b1:=k5.cell 1 (.int .i64 0) rfl;have b2':=k5.cell 2 (.int .i64 0) rfl;have g0:=k5.free 0;have g1:=k5.free 1;have g2:=k5.free 2)
      | go_in)
  all_goals
    refine yaI (gI rfl _ _ w.heap.size [.int .i64 3,.int .i64 8,.int .i64 (i)] _ rfl (fun j y hy=>by rw [yaq];exact sf.cell j y hy) underlying81 rfl (by kernel_rfl)) rfl ?_;exact ⟨rfl,dQ,hM⟩
section
variable {A:Nat→Prop} {w w':World} {S P L Bs B N b2:Nat} {r:Tryz.Rg} {s s':Tryz.PS} {g g':Nat→Int} {lv:Value}
end
end Go.Proofs
namespace Go.Proofs
open Go.Dw Go.RowKit Go.Maps Go.Sort Go.Deep
section
variable {A A' K:Nat→Prop} {w w':World} {S P L Bs B N b2:Nat} {r:Tryz.Rg} {s s':Tryz.PS} {g g':Nat→Int} {lv:Value}
theorem Tryz.aL.uY {A A':Nat→Prop} {w w':World} {v:Value} {l:List Sg} (h:aL A w v l) (hA: ∀b,b<w.heap.size→A' b→A b) (hk: ∀b,b<w.heap.size→ ¬A b→w'.heap[b]? =w.heap[b]?):aL A' w' v l:=by
 obtain ⟨sa,c,rfl,hl,hr⟩:=h;refine ⟨sa,c,rfl,hl,?_⟩;rcases hr with h0|⟨R,o,rfl,hn,hr⟩
 ·exact .inl h0
 ·by_cases h0:l= []
  ·exact .inl h0
  ·have hR:=uz hr h0;exact .inr ⟨R,o,rfl,fun q=>hn (hA R hR q),gL hr (hk R hR hn)⟩
end
end Go.Proofs
namespace Go.Proofs
open Go.Dw Go.RowKit Go.Maps Go.Sort Go.Deep
theorem Tryz.zsn {h:Int}: ∀ {tk:List (Int×List Sg)} {k:Nat} (hk:k<tk.length),tk[k].1=h→(∀(j:Nat) (hj:j<k),tk[j].1≠h)→mE h tk=tk.take k++tk.drop (k+1)
 | e::r,0,_,h1,_=>by
  have h1:e.1=h:=h1;unfold mE;rw [yak h1.symm];rfl
 | e::r,k+1,hk,h1,h2=>by
  have h0:=h2 0 (by omega);have h0:e.1≠h:=h0;have hk':k<r.length:=by simpa using hk
  unfold mE;rw [yai (fun q=>h0 q.symm),zsn hk' h1 (fun j hj=>h2 (j+1) (by omega))];rfl
theorem Tryz.ED: ∀(a:List (Int×List Sg)) (x:List Value) (_:x.length=a.length) (b:List (Int×List Sg)) (y:List Value),dI (a++b) (x++y)=dI a x++dI b y
 | [], [], _,b,y=>rfl
 | e::r,[],h,_,_=>by simp at h
 | e::r,v::vs,h,b,y=>by
  simp only [yb3,dI,ED r vs (by simpa using h) b y]
theorem Tryz.Xx {tk:List (Int×List Sg)} {vs:List Value} (h:vs.length=tk.length) {k:Nat} (hk:k≤tk.length):(dI tk vs).take (k*2)=dI (tk.take k) (vs.take k):=by
 have e:dI tk vs=dI (tk.take k) (vs.take k)++dI (tk.drop k) (vs.drop k):=by
  rw [←ED _ _ (by simp [h]),ybI,ybI]
 have l:(dI (tk.take k) (vs.take k)).length=k*2:=by rw [vF _ _ (by simp [h]),ybz,ycL hk]
 rw [e,←l,ydQ]
theorem Tryz.Xz {tk:List (Int×List Sg)} {vs:List Value} (h:vs.length=tk.length) {k:Nat} (hk:k≤tk.length):(dI tk vs).drop (k*2)=dI (tk.drop k) (vs.drop k):=by
 have e:dI tk vs=dI (tk.take k) (vs.take k)++dI (tk.drop k) (vs.drop k):=by
  rw [←ED _ _ (by simp [h]),ybI,ybI]
 have l:(dI (tk.take k) (vs.take k)).length=k*2:=by rw [vF _ _ (by simp [h]),ybz,ycL hk]
 rw [e,←l,List.drop_left]
theorem Tryz.zqz {A:Nat→Prop} {w:World} {tk:List (Int×List Sg)} {vs:List Value} (h:vs.length=tk.length) (hv: ∀(i:Nat) (h:i<tk.length) (h':i<vs.length),aL A w vs[i] tk[i].2): ∀u∈dI tk vs,u.oneCell'=true:=by
 induction tk generalizing vs with
 | nil=>intro u hu;cases vs<;>cases hu
 | cons e r ih=>
  cases vs with
  | nil=>simp at h
  | cons v vs=>
   intro u hu;simp only [dI,yac] at hu;rcases hu with rfl|rfl|hu
   ·rfl
   ·obtain ⟨sa,c,e,_⟩:=hv 0 (by simp) (by simp);have e:u=_:=e;rw [e];rfl
   ·exact ih (by simpa using h) (fun i q q'=>hv (i+1) (by simpa using q) (by simpa using q')) u hu
section
variable {A:Nat→Prop} {w w':World} {S P L Bs B N b2:Nat} {r:Tryz.Rg} {s s':Tryz.SS} {g g':Nat→Int} {lv:Value}
theorem Tryz.aV.tX (h:aV A w S P L Bs B N b2 r s g lv) (hm:Dw.Mv (fun b=>b=S∨lv.ownBlock=some b) w w') {nH:Value} {dV:Value} {vs':List Value} (hc:Cl w' S (s'.aI r P nH dV)) (hsv:aL (fun b=>A b∨dV.ownBlock=some b) w' nH s'.sg) (hT:wu A w' b2 dV s'.tk vs') (hp:eF s') (hd:(s'.ph≠0∨s'.br=true)→s'.dn=false) (Ia: ∀e∈s'.tk,0≤e.1∧e.1<65536) (hnd:(s'.tk.map (·.1)).Nodup):aV A w' S P L Bs B N b2 r s' g dV:=by
 obtain ⟨sv,vs,q1,q2,q3⟩:=h.obj;obtain ⟨_,⟨t,hrow⟩,_⟩:=id q3;have hlo:=h.lo;have hsd:=h.sd;refine ⟨⟨nH,vs',hc,hsv,hT⟩,h.rm.kept (fun k hk hq=>hm.block k hk fun e=> ?_) hm.size,h.aS,h.aB,fun b hb=>yad (h.lt b hb) hm.size,h.lo,yau h.b2 hm.size,h.sd,h.rg,hp,h.hN,h.fit,hd,Ia,hnd⟩;rcases e with e|e
 ·rcases hq with q|q|q|q
  ·exact hsd.1 (e.symm.trans q)
  ·exact hsd.2.1 (e.symm.trans q)
  ·exact hsd.2.2.1 (e.symm.trans q)
  ·exact hsd.2.2.2 (e.symm.trans q)
 ·have:=(hrow.lt k e).1;rcases hq with q|q|q|q<;>omega
end
section
variable {A A' K:Nat→Prop} {w w':World} {S P L Bs B N b2:Nat} {r:Tryz.Rg} {s s':Tryz.SS} {g g':Nat→Int} {lv:Value}
theorem Tryz.aV.uT (h:aV A w S P L Bs B N b2 r s g lv) (hA: ∀b,b<w.heap.size→A' b→A b∨lv.ownBlock=some b) (aS:A' S) (aB:A' B) (hl: ∀b,A' b→b<w'.heap.size) (hk: ∀b,b<w.heap.size→(¬(A b∨lv.ownBlock=some b)∨b=S∨b=P∨b=L∨b=Bs∨b=B∨lv.ownBlock=some b)→w'.heap[b]? =w.heap[b]?) (hs:w.heap.size≤w'.heap.size):aV A' w' S P L Bs B N b2 r s g lv:=by
 obtain ⟨sv,vs,q1,q2,q3⟩:=h.obj;obtain ⟨q5,⟨t,hrow⟩,q6⟩:=q3;have hseg: ∀ {v:Value} {l:List Sg},aL (fun b=>A b∨lv.ownBlock=some b) w v l→aL (fun b=>A' b∨lv.ownBlock=some b) w' v l:=fun q=>q.uY (fun b hb hh=>hh.elim (hA b hb) .inr) fun b hb hn=>hk b hb (.inl hn);exact ⟨⟨sv,vs,q1.kept (hk S q1.lt (.inr (.inl rfl))),hseg q2,⟨q5,⟨t,hrow.kept fun b e=>hk b (hrow.lt b e).2 (.inr (.inr (.inr (.inr (.inr (.inr e))))))⟩,fun i a b=>hseg (q6 i a b)⟩⟩,h.rm.kept (fun k hk' hq=>hk k hk' (by rcases hq with q|q|q|q<;>simp [q])) hs,aS,aB,hl,h.lo,yau h.b2 hs,h.sd,h.rg,h.pb,h.hN,h.fit,h.dn,h.mP,h.nd⟩
theorem Tryz.aV.mv (h:aV A w S P L Bs B N b2 r s g lv) (hm:Dw.Mv K w w') (hK: ∀b,K b→A b) (hn: ¬K S∧ ¬K P∧ ¬K L∧ ¬K Bs∧ ¬K B) (hl: ∀b,lv.ownBlock=some b→ ¬K b):aV A w' S P L Bs B N b2 r s g lv:=by
 obtain ⟨n1,n2,n3,n4,n5⟩:=hn;refine h.uT (fun b _ q=> .inl q) h.aS h.aB (fun b hb=>yad (h.lt b hb) hm.size) (fun b hb hh=>hm.block b hb fun k=> ?_) hm.size;rcases hh with hh|rfl|rfl|rfl|rfl|rfl|hh
 ·exact hh (.inl (hK b k))
 ·exact n1 k
 ·exact n2 k
 ·exact n3 k
 ·exact n4 k
 ·exact n5 k
 ·exact hl b hh k
theorem Tryz.aV.less (h:aV A w S P L Bs B N b2 r s g lv) (hA: ∀b,A' b→A b) (aS:A' S) (aB:A' B):aV A' w S P L Bs B N b2 r s g lv:=
 h.uT (fun b _ q=> .inl (hA b q)) aS aB (fun b q=>h.lt b (hA b q)) (fun _ _ _=>rfl) (yab _)
theorem Tryz.aV.box (h:aV A w S P L Bs B N b2 r s g lv) (o:Obj):aV (fun b=>A b∨b=w.heap.size) (w.alloc o) S P L Bs B N b2 r s g lv:=by
 have hb:=(yag w.heap.size w).alloc (yab _) o;refine h.uT (fun b hb q=>q.elim .inl fun e=>by omega) (.inl h.aS) (.inl h.aB) (fun b q=> ?_) (fun b hh _=>hb.block b hh) hb.size;rcases q with q|rfl
 ·exact yad (h.lt b q) hb.size
 ·simp
end
set_option maxRecDepth 100000 in
theorem Tryz.mr {A:Nat→Prop} {w:World} {S P L Bs B N b2:Nat} {r:Rg} {s s':SS} {g g':Nat→Int} {lv:Value} (h:aV A w S P L Bs B N b2 r s g lv) (hb:s.br=false) (hp:s.ph≠0) {f:FuncId} (hf:(11≤s.ph∧f=78)∨(s.ph≤7∧f=79)) {k what i E:Int} (hc: ∀A1 w1,aV A1 w1 S P L Bs B N b2 r s g lv→Calls prog f #[.pointer (some ⟨S,0,none⟩)] w1 fun e w'=>e= .returned (.tuple #[.agg #[.int .i64 k,.int .i64 what,.int .i64 i],.int .i64 E])∧ ∃dV,aV A1 w' S P L Bs B N b2 r s' g' dV∧(∀b,dV.ownBlock=some b→lv.ownBlock=some b∨w1.heap.size≤b)∧Dw.Mv (fun b=>b=S∨b=B∨lv.ownBlock=some b) w1 w'):
    Calls prog 40 #[.pointer (some ⟨S,0,none⟩)] w fun e w'=>e= .returned (.tuple #[.agg #[.int .i64 k,.int .i64 what,.int .i64 i],.int .i64 E])∧ ∃dV,aV A w' S P L Bs B N b2 r s' g' dV∧(∀b,dV.ownBlock=some b→lv.ownBlock=some b∨w.heap.size≤b)∧Dw.Mv (fun b=>b=S∨b=B∨lv.ownBlock=some b) w w':=by
  have h1:=h.box (Obj.cells #[.int .i64 0,.int .i64 0,.int .i64 0] 81);have hcall:=hc _ _ h1;have k2:=Cl.new w #[.int .i64 0,.int .i64 0,.int .i64 0] 81;have hbx:=(yag w.heap.size w).alloc (yab _) (Obj.cells #[.int .i64 0,.int .i64 0,.int .i64 0] 81);obtain ⟨sv,vs,q1,q2,q3⟩:=h.obj;have p1:=q1.below hbx q1.lt;have c14:=p1.cell 12 _ rfl;have oJ:=p1.cell 20 _ rfl;rw [hb] at oJ;have ha: ¬(s.ph:Int)=0:=by omega
  have ha2:(s.ph:Int)>10↔11≤s.ph:=by omega
  have nS:w.heap.size≠S:=by have:=q1.lt;omega
  have nB:w.heap.size≠B:=by have:=h.rm.bl;omega
  obtain ⟨_,⟨ty,hrow⟩,_⟩:=id q3;have close: ∀ {w2:World} {dV:Value},aV (fun b=>A b∨b=w.heap.size) w2 S P L Bs B N b2 r s' g' dV→(∀b,dV.ownBlock=some b→lv.ownBlock=some b∨(w.alloc (Obj.cells #[.int .i64 0,.int .i64 0,.int .i64 0] 81)).heap.size≤b)→Dw.Mv (fun b=>b=S∨b=B∨lv.ownBlock=some b) (w.alloc (Obj.cells #[.int .i64 0,.int .i64 0,.int .i64 0] 81)) w2→
      Cl w2 w.heap.size [.int .i64 0,.int .i64 0,.int .i64 0]∧ ∃dV,aV A (((w2.setCell ⟨w.heap.size,0,none⟩ (.int .i64 k)).setCell ⟨w.heap.size,1,none⟩ (.int .i64 what)).setCell ⟨w.heap.size,2,none⟩ (.int .i64 i)) S P L Bs B N b2 r s' g' dV∧(∀b,dV.ownBlock=some b→lv.ownBlock=some b∨w.heap.size≤b)∧Dw.Mv (fun b=>b=S∨b=B∨lv.ownBlock=some b) w (((w2.setCell ⟨w.heap.size,0,none⟩ (.int .i64 k)).setCell ⟨w.heap.size,1,none⟩ (.int .i64 what)).setCell ⟨w.heap.size,2,none⟩ (.int .i64 i)):=fun {w2 dV} hR hlv hm=>by
    have hnl:lv.ownBlock≠some w.heap.size:=fun e=>by have:=(hrow.lt _ e).2;omega
    have hnk: ¬(w.heap.size=S∨w.heap.size=B∨lv.ownBlock=some w.heap.size):=by
      rintro (e|e|e)
      · exact nS e
      · exact nB e
      · exact hnl e
    have hm1:Dw.Mv (fun b=>b=S∨b=B∨lv.ownBlock=some b) w w2:=(eO hbx).trans hm;have hm2:=gN (gN (gN hm1 w.heap.size 0 (.int .i64 k) (.inr (yab _))) w.heap.size 1 (.int .i64 what) (.inr (yab _))) w.heap.size 2 (.int .i64 i) (.inr (yab _));have wV:=cZ (cZ (cZ (Dw.Mv.refl (· =w.heap.size) w2) w.heap.size 0 (.int .i64 k) rfl) w.heap.size 1 (.int .i64 what) rfl) w.heap.size 2 (.int .i64 i) rfl;have e1:=h.rm.pl;have e2:=h.rm.ll;have e3:=h.rm.sl;have TM: ∀b,dV.ownBlock=some b→lv.ownBlock=some b∨w.heap.size+1≤b:=fun b e=>by have:=hlv b e;simpa using this
    refine ⟨k2.kept (hm.block _ k2.lt hnk),dV,(hR.mv wV (fun b e=> .inr e) ⟨fun e=>nS e.symm,fun e=> ?_,fun e=> ?_,fun e=> ?_,fun e=>nB e.symm⟩ fun b e hh=> ?_).less (fun b q=> .inl q) h.aS h.aB,fun b e=>(TM b e).imp_right (fun q=>by omega),hm2⟩
    · have e:P=w.heap.size:=e;omega
    · have e:L=w.heap.size:=e;omega
    · have e:Bs=w.heap.size:=e;omega
    · have hh:b=w.heap.size:=hh;rcases TM b e with q|q
      · exact hnl (hh▸q)
      · omega
  clear hbx hc h1 q1 q2 q3 p1;rcases hf with ⟨hq,rfl⟩|⟨hq,rfl⟩
  all_goals
    first
      | (have Te:(s.ph:Int)>10:=ha2.2 (by omega))
      | (have Te: ¬(s.ph:Int)>10:=fun e=>absurd (ha2.1 e) (by omega))
    clear ha2 hq;generalize (s.ph:Int)=di at c14 ha Te;go_enter func40,ntmps40;go_wp2_with (first
      | (go_at_call 78;refine hcall.mono ?_;rintro en w2 ⟨rfl,dV,hR,hlv,hm⟩;obtain ⟨kc,hfin⟩:=close hR hlv hm;have b0:=kc.cell 0 _ rfl;have b1:=kc.cell 1 _ rfl;have b2':=kc.cell 2 _ rfl;have g0:=kc.free 0;have g1:=kc.free 1;have g2:=kc.free 2)
      | (go_at_call 79;refine hcall.mono ?_;rintro en w2 ⟨rfl,dV,hR,hlv,hm⟩;obtain ⟨kc,hfin⟩:=close hR hlv hm;have b0:=kc.cell 0 _ rfl;have b1:=kc.cell 1 _ rfl;have b2':=kc.cell 2 _ rfl;have g0:=kc.free 0;have g1:=kc.free 1;have g2:=kc.free 2)
      | go_in)
    have sf:=((kc.set 0 (.int .i64 k) (by simp)).set 1 (.int .i64 what) (by simp)).set 2 (.int .i64 i) (by simp);refine yaI (gI rfl _ _ w.heap.size [.int .i64 k,.int .i64 what,.int .i64 i] _ rfl (fun j y hy=>by rw [yaq];exact sf.cell j y hy) underlying81 rfl (by kernel_rfl)) rfl ?_;exact ⟨rfl,hfin⟩
end Go.Proofs
end
