/-
  Proved: laws on the way to 'SserveScriptProof' (texts SoK SoL SoM SoN XaA DwLoop WkA WkB WkC WkD WkE WkF0 WkG DwTurn WkH0 WkH WkI0 WkI WkJ ClA WkK WkL WkM WkN); no condition.
-/
import Derived.Test.YtpogddachhjgaaaGreatM2
import Derived.KernelRfl
import Derived.Defers
import Derived.BigFrame
import Derived.Recover
set_option linter.unusedSimpArgs false
set_option linter.unusedVariables false
set_option maxHeartbeats 4000000
noncomputable section
namespace Go.Proofs
open Go.Dw Go.RowKit
structure Tryz.SW (A:Nat→Prop) (w:World) (S P L Bs B M N:Nat) (r:Rg) (s:SS) (g:Nat→Int):Prop where
 aj:iq A w S P M r s
 mem:GM w P L Bs B N g
 hN:N≤1048576
 sd:S≠P∧S≠L∧S≠Bs∧S≠B
 md:M≠P∧M≠L∧M≠Bs∧M≠B
 aB:A B
 lt: ∀b,A b→b<w.heap.size
 fit:r.d+16*r.n≤N∧r.v+6+2*r.n≤N∧r.c+6+8*r.n≤N
def Tryz.sK (S M B b:Nat):Prop:=b=S∨b=M∨b=B
theorem Tryz.Wp {S:Nat→Prop} {a b:World} (h:Mv S a b):Dw.Mv S a b:=⟨h.os,h.tape,h.output,h.size,h.block⟩
def Tryz.nU (P L Bs B N:Nat) (gs:List (Nat→Int)):aU where
 fact k _ F w:=F P∧F L∧F Bs∧F B∧ ∃g,gs[k]? =some g∧GM w P L Bs B N g
 loc:=fun k _ _ F w w' h _ hb hs=>by
  obtain ⟨h1,h2,h3,h4,g,h5,h6⟩:=h;exact ⟨h1,h2,h3,h4,g,h5,h6.kept (fun b _ hb'=>by rcases hb' with rfl|rfl|rfl|rfl<;>exact hb _ (by assumption)) hs⟩
theorem Tryz.xI {P L Bs B N:Nat} {g:Nat→Int} {gs:List (Nat→Int)} {bl:List (Nat×Nat)} {w:World} (h:GM w P L Bs B N g) (hn: ∀b,b=P∨b=L∨b=Bs∨b=B→ ¬Mine (aJ bl) b):(nU P L Bs B N (g::gs)).G 0 (aJ bl) w:=
 ⟨fun b=>b=P∨b=L∨b=Bs∨b=B,fun b hb=>⟨by rcases hb with rfl|rfl|rfl|rfl;exact h.pl;exact h.ll;exact h.sl;exact h.bl,hn b hb⟩,.inl rfl,.inr (.inl rfl),.inr (.inr (.inl rfl)),.inr (.inr (.inr rfl)),g,rfl,h⟩
theorem Tryz.xS {P L Bs B N k:Nat} {gs:List (Nat→Int)} {j:J} {w:World} (h:(nU P L Bs B N gs).G k j w): ∃g,gs[k]? =some g∧GM w P L Bs B N g:=by
 obtain ⟨F,_,_,_,_,_,h⟩:=h;exact h
structure Tryz.AA (ρ:Val) (r:Rg) (s:SS) (p sv:Value):Prop where
 n:(ah 0).den ρ=r.n
 d:(af 1).den ρ=r.d
 v:(af 2).den ρ=r.v
 c:(af 3).den ρ=r.c
 nx:(aF 4).den ρ=s.nx
 us:(aF 5).den ρ=s.us
 op:ρ.i 6=s.op
 hd:(aF 7).den ρ=s.hd
 wr:(bM 8).den ρ=s.wr
 b0:ρ.b 0=s.ev
 b1:ρ.b 1=s.tb
 b2:ρ.b 2=s.pk
 b3:ρ.b 3=s.nn
 b4:ρ.b 4=s.it
 b5:ρ.b 5=s.dn
 p:ρ.v 0=p
 sv:ρ.v 1=sv
def Tryz.fw (r:Rg) (s:SS) (a x:Int) (p sv x2:Value):Val:=fu r [s.nx,s.us,s.op,s.hd,s.wr,0,a,x] [s.ev,s.tb,s.pk,s.nn,s.it,s.dn] [p,sv,x2]
theorem Tryz.mU {A:Nat→Prop} {w:World} {S P M:Nat} {r:Rg} {s:SS} (h:iq A w S P M r s) (a x:Int) (p sv x2:Value):AA (fw r s a x p sv x2) r s p sv:=
 ⟨jH h.rg,jR h.rg,kg h.rg,ko h.rg,jC h.nx.1 h.nx.2,jC h.us.1 h.us.2,rfl,jC h.hd.1 h.hd.2,pF h.wr.1 h.wr.2,rfl,rfl,rfl,rfl,rfl,rfl,rfl,rfl⟩
theorem Tryz.kW {ρ:Val} {j:J} {r:Rg} {s:SS} {P M:Nat} {nv sv:Value} (hd:AA ρ r s (.pointer (some ⟨P,0,none⟩)) sv) (hb:s.br=false) (hsv:sv.oneCell'=true) (hj:j 2=some ⟨M,0,0,none⟩) {next:AV} (hn:R ρ j next nv):
  RL ρ j (qy next (.var 5) (.lit false)) (s.row r P M nv sv):=by
 refine ai (iB hd.p rfl) (ai (fA rfl) (ai (aA hd.n) (ai (aA hd.d) (ai (aA hd.v) (ai (aA hd.c) (ai (fA hd.b0) (ai (fA hd.b1) (ai (fA hd.b2) (ai (aA hd.nx) (ai (aA hd.us) (ai (OT hj) (ai hn
  (ai (aA hd.op) (ai (fA hd.b3) (ai (aA hd.hd) (ai (iB hd.sv hsv) (ai (aA hd.wr) (ai (fA hd.b4) (ai (fA hd.b5) (ai (fA ?_) RL.nil))))))))))))))))))))
 exact hb.symm
theorem Tryz.nK {A:Nat→Prop} {w:World} {S P M:Nat} {r:Rg} {s:SS} {ρ:Val} {j:J} {K:Nat→Prop} {g:aU} (h:iq A w S P M r s) (hK:K M):wo ρ j (gW w K g) (M,0) (.dm []):=by
 obtain ⟨arr,clock,h1,h2,_⟩:=h.tk.map;exact ⟨hK,rfl,arr,clock,[],h1,h2,rfl,fun _ _ h=>by cases h⟩
theorem Tryz.gy {w:World} {S:Nat} {ρ:Val} {j:J} {K:Nat→Prop} {g:aU} {row:List AV} {vals:List Value} (h:Own w S vals) (hr:RL ρ j row vals) (hK:K S):wo ρ j (gW w K g) (S,0) (.own row):=by
 obtain ⟨arr,e,h1,h2⟩:=h;exact ⟨hK,rfl,vals,arr,e,h1,hr,h2⟩
theorem Tryz.yx {w:World} {X:Nat} {ρ:Val} {j:J} {K:Nat→Prop} {g:aU} {row:List AV} {vals:List Value} (h:Row w ⟨X,0,0,none⟩ vals) (hr:RL ρ j row vals) (hK: ¬K X):wo ρ j (gW w K g) (X,0) (.ro row):=by
 obtain ⟨arr,e,fr,h1,h2⟩:=h;have hl:vals.length≤arr.size:=by
  rcases ybT arr.size vals.length with hlt|hge
  ·have:=h2 arr.size _ (yam hlt);rw [yaq,ya8 (yab _)] at this;cases this
  ·exact hge
 exact ⟨hK,vals,arr,e,fr,h1,hr,by rw [←hr.length];simpa using hl,h2⟩
theorem Tryz.xO {ρ:Val} {w0:World} {K:Nat→Prop} {g:aU} {r:Rg} {what wide a:Int} {i:SE} (hr: ∀j,R ρ j rg r.val) (ha:(af 10).den ρ=a)
  (h: ∀w,Calls prog 120 #[r.val,.int .i64 what,.int .i64 (i.den ρ)] w fun e w'=>e= .returned (.tuple #[.int .u64 a,.int .i64 wide,.int .i64 0])∧Below w.heap.size w w'):mq prog ρ w0 K g (vS what i wide):=
 iU (Dw.enters_of (by kernel_rfl)) rfl [r.val,.int .i64 what,.int .i64 (i.den ρ)] (.tuple #[.int .u64 a,.int .i64 wide,.int .i64 0]) (fun j=>ai (hr j) (ai (aA rfl) (ai (aA rfl) RL.nil)))
  (fun j=>oD (ai (aA ha) (ai (aA rfl) (ai (aA rfl) RL.nil)))) (fun w _ _ _=>h w)
theorem Tryz.zEn {P L Bs B N k:Nat} {g:Nat→Int} {w:World} (st:GM w P L Bs B N g) (hN:N≤1048576) (hk:k=1∨k=2∨k=4∨k=8) {a:Int} (h0:0≤a) (hin:a+k≤N):
  Calls prog 21 #[.pointer (some ⟨P,0,none⟩),.int .u64 a,.int .i64 k] w fun e w'=>e= .returned (.tuple #[.int .u64 (aC g a.toNat k),.int .i64 0])∧Below w.heap.size w w':=by
 have:=zEm P L Bs B N a.toNat k g w st hN hk (by omega)
 rwa [Int.toNat_of_nonneg h0] at this
theorem Tryz.zzQ {P L Bs B N k:Nat} {g:Nat→Int} {w:World} (st:GM w P L Bs B N g) (hN:N≤1048576) (hk:k=1∨k=2∨k=4∨k=8) {a:Int} (v:Int) (h0:0≤a) (hin:a+k≤N):
  Calls prog 26 #[.pointer (some ⟨P,0,none⟩),.int .u64 a,.int .i64 k,.int .u64 v] w fun e w'=>e= .returned (.int .i64 0)∧GM w' P L Bs B N (gF g a.toNat k v)∧Dw.Mv (· =B) w w':=by
 have:=zzP P L Bs B N a.toNat k v g w st hN hk (by omega);rw [Int.toNat_of_nonneg h0] at this;exact yas this fun e w' ⟨h1,h2,h3⟩=>⟨h1,h2,Wp h3⟩
theorem Tryz.FB {ρ:Val} {w0:World} {K:Nat→Prop} {P L Bs B N:Nat} {g:Nat→Int} {gs:List (Nat→Int)} {a:Int} (hN:N≤1048576) (hp:ρ.v 0= .pointer (some ⟨P,0,none⟩)) (ha:(af 10).den ρ=a) (h0:0≤a) (hin:a+2≤N) (hx:(aF 11).den ρ=aC g a.toNat 2):
    mq prog ρ w0 K (nU P L Bs B N (g::gs)) CY:=
  iU (Dw.enters_of (by kernel_rfl)) rfl [.pointer (some ⟨P,0,none⟩),.int .u64 a,.int .i64 2] (.tuple #[.int .u64 (aC g a.toNat 2),.int .i64 0]) (fun j=>ai (iB hp rfl) (ai (aA ha) (ai (aA rfl) RL.nil)))
    (fun j=>oD (ai (aA hx) (ai (aA rfl) RL.nil))) (fun w F q hf=>by
      obtain ⟨_,_,_,_,g',hg,hm⟩:=hf;cases hg;exact zEn hm hN (k:=2) (.inr (.inl rfl)) h0 hin)
theorem Tryz.Qt {ρ:Val} {w0:World} {K:Nat→Prop} {P L Bs B N:Nat} {g:Nat→Int} {a x:Int} {k:Nat} {v:SE} (hN:N≤1048576) (hp:ρ.v 0= .pointer (some ⟨P,0,none⟩)) (ha:(af 10).den ρ=a) (h0:0≤a) (hk:k=1∨k=2∨k=4∨k=8) (hin:a+k≤N) (hv:v.den ρ=x) (hK:K B):
    mq prog ρ w0 K (nU P L Bs B N [g,gF g a.toNat k x]) (Ld k v):=
  zp3 (Dw.enters_of (by kernel_rfl)) rfl [.pointer (some ⟨P,0,none⟩),.int .u64 a,.int .i64 k,.int .u64 x] (.int .i64 0) (fun j=>ai (iB hp rfl) (ai (aA ha) (ai (aA rfl) (ai (aA hv) RL.nil))))
    (fun j=>aA rfl) (fun w F q hf=>by
      obtain ⟨h1,h2,h3,h4,g',hg,hm⟩:=hf;cases hg;exact yas (zzQ hm hN hk x h0 hin) fun e w' ⟨e1,e2,e3⟩=>⟨e1,⟨h1,h2,h3,h4,_,rfl,e2⟩,e3.mono fun b hb=>hb▸⟨h4,hK⟩⟩)
theorem Tryz.kK.same {A:Nat→Prop} {w w':World} {M:Nat} {tk:List (Int×List Sg)} (h:kK A w M tk) (hk: ∀k,k<w.heap.size→ ¬A k→w'.heap[k]? =w.heap[k]?)
  (hm: ∃arr clock dz eZ,w'.heap[M]? =some (.map arr clock)∧w.heap[M]? =some (.map dz eZ)∧(jE arr∧kI arr clock)∧ ∀k,dB arr k=dB dz k):kK A w' M tk:=by
 obtain ⟨arr,clock,dz,eZ,h1,h2,h3,h4⟩:=hm;obtain ⟨wF,clock1,g1,g2,g3⟩:=h.map;rw [g1] at h2;cases h2;refine ⟨⟨arr,clock,h1,h3,fun k=>⟨fun hk'=>(h4 k).trans ((g3 k).1 hk'),fun l hl=> ?_⟩⟩,h.keys,h.u16⟩;obtain ⟨v,g4,g5⟩:=(g3 k).2 l hl;exact ⟨v,(h4 k).trans g4,g5.kept hk⟩
theorem Tryz.kK.put {A:Nat→Prop} {w w':World} {M:Nat} {tk:List (Int×List Sg)} (h:kK A w M tk) (hk: ∀k,k<w.heap.size→ ¬A k→w'.heap[k]? =w.heap[k]?) {x:Int} {l:List Sg} {v:Value} (hx:dP x tk=none) (hx0:0≤x∧x<65536) (hv:aL A w' v l)
  (hm: ∃arr clock dz eZ,w'.heap[M]? =some (.map arr clock)∧w.heap[M]? =some (.map dz eZ)∧(jE arr∧kI arr clock)∧ ∀k,dB arr k=if k=x then some v else dB dz k):kK A w' M (tk++ [(x,l)]):=by
 obtain ⟨arr,clock,dz,eZ,h1,h2,h3,h4⟩:=hm;obtain ⟨wF,clock1,g1,g2,g3⟩:=h.map;rw [g1] at h2;cases h2;refine ⟨⟨arr,clock,h1,h3,fun k=> ?_⟩,?_,fun e he=> ?_⟩
 ·rw [Za hx,h4];by_cases hkx:k=x
  ·rw [yak hkx,yak hkx];exact ⟨fun h=>(by cases h),fun l' hl'=>(by cases hl';exact ⟨v,rfl,hv⟩)⟩
  ·rw [yai hkx,yai hkx];refine ⟨(g3 k).1,fun l' hl'=> ?_⟩;obtain ⟨v',g4,g5⟩:=(g3 k).2 l' hl';exact ⟨v',g4,g5.kept hk⟩
 ·rw [ydI,ydm];refine ⟨h.keys,by simp,fun a ha b hb hab=> ?_⟩;simp only [yaK,ya0,yaF] at hb;subst hb hab;exact Jk.1 hx ha
 ·rcases yaT.1 he with he|he
  ·exact h.u16 e he
  ·rw [yaF] at he;subst he;exact hx0
theorem Tryz.kK.del {A:Nat→Prop} {w w':World} {M:Nat} {tk:List (Int×List Sg)} (h:kK A w M tk) (hk: ∀k,k<w.heap.size→ ¬A k→w'.heap[k]? =w.heap[k]?) {x:Int}
  (hm: ∃arr clock dz eZ,w'.heap[M]? =some (.map arr clock)∧w.heap[M]? =some (.map dz eZ)∧(jE arr∧kI arr clock)∧ ∀k,dB arr k=if k=x then none else dB dz k):kK A w' M (mE x tk):=by
 obtain ⟨arr,clock,dz,eZ,h1,h2,h3,h4⟩:=hm;obtain ⟨wF,clock1,g1,g2,g3⟩:=h.map;rw [g1] at h2;cases h2;refine ⟨⟨arr,clock,h1,h3,fun k=> ?_⟩,((BL x tk).map (·.1)).nodup h.keys,fun e he=>h.u16 e ((BL x tk).subset he)⟩;rw [znu h.keys,h4];by_cases hkx:k=x
 ·rw [yak hkx,yak hkx];exact ⟨fun _=>rfl,fun l' hl'=>(by cases hl')⟩
 ·rw [yai hkx,yai hkx];refine ⟨(g3 k).1,fun l' hl'=> ?_⟩;obtain ⟨v',g4,g5⟩:=(g3 k).2 l' hl';exact ⟨v',g4,g5.kept hk⟩
theorem Tryz.SW.kA {A:Nat→Prop} {w w':World} {S P L Bs B M N:Nat} {r:Rg} {s:SS} {g:Nat→Int} (h:SW A w S P L Bs B M N r s g) (hm:Dw.Mv (sK S M B) w w'): ∀k,k<w.heap.size→ ¬A k→w'.heap[k]? =w.heap[k]? :=fun k hk ha=>
 hm.block k hk fun hh=>ha (by rcases hh with rfl|rfl|rfl;exact h.aj.aS;exact h.aj.aM;exact h.aB)
theorem Tryz.SW.next {A:Nat→Prop} {w w':World} {S P L Bs B M N:Nat} {r:Rg} {s s':SS} {g g':Nat→Int} (h:SW A w S P L Bs B M N r s g) (hm:Dw.Mv (sK S M B) w w') (hg:GM w' P L Bs B N g')
  (ho: ∃nv sv,Own w' S (s'.row r P M nv sv)∧mI A w' S s'.ph nv∧aL A w' sv s'.sg) (ht:kK A w' M s'.tk) (hnx:0≤s'.nx∧s'.nx<65536) (fD:0≤s'.us∧s'.us<65536) (hhd:0≤s'.hd∧s'.hd<65536) (hwr:0≤s'.wr∧s'.wr<4294967296):SW A w' S P L Bs B M N r s' g':=
 ⟨⟨ho,ht,h.aj.ne,h.aj.aS,h.aj.aM,h.aj.rg,hnx,fD,hhd,hwr⟩,hg,h.hN,h.sd,h.md,h.aB,fun b hb=>yad (h.lt b hb) hm.size,h.fit⟩
def Tryz.SS.brk (s:SS):SS:= { s with op:=0,nn:=false,hd:=0,sg:= [],wr:=0,it:=false,br:=true,ph:=0 }
def Tryz.SS.goto (s:SS) (ph:Nat):SS:= { s with ph:=ph,dn:=false,br:=false }
def Tryz.SS.stop (s:SS):SS:= { s with ph:=0,dn:=true,br:=false }
def Tryz.jD (r:Rg) (g:Nat→Int) (s:SS):Int:=(aC g (r.v+2).toNat 2-s.nx)%65536
def Tryz.iO (r:Rg) (g:Nat→Int) (s:SS):Int×SS:=
 if r.n<jD r g s then (4,s.brk) else if 0<jD r g s then (0,s.goto 5) else if s.ev=true then (0,s.goto 2) else (0,({ s with nn:=true }:SS).stop)
def Tryz.jZ (r:Rg) (g:Nat→Int) (s:SS):Int×SS:=
 if r.n<jD r g s then (4,s.brk) else if 0<jD r g s then (0,s.goto 5) else (0,({ s with nn:=true }:SS).stop)
def Tryz.Gn (r:Rg) (g:Nat→Int) (s:SS):SS:=({ s with hd:=aC g (r.v+4+2*(s.nx.tmod r.n)).toNat 2 }:SS).goto 7
def Tryz.CW (r:Rg) (g:Nat→Int) (s:SS):Bool:=if s.ev=true then decide ((s.us-aC g (r.v+4+2*r.n).toNat 2-1)%65536<1) else aC g r.v.toNat 2%2==0
def Tryz.uG (r:Rg) (g:Nat→Int) (s:SS):SS:=({ s with it:=CW r g s,tk:=mE s.hd s.tk }:SS).stop
def Tryz.dM (k w i:Int):Value:= .agg #[.int .i64 k,.int .i64 w,.int .i64 i]
theorem Tryz.SW.mine {A:Nat→Prop} {w:World} {S P L Bs B M N:Nat} {r:Rg} {s:SS} {g:Nat→Int} (h:SW A w S P L Bs B M N r s g): ∀b,b=P∨b=L∨b=Bs∨b=B→ ¬Mine (aJ [(S,0),(M,0)]) b:=fun b hb hm=>by
 obtain ⟨n,L',h1,_,h3⟩:=hm
 match n,h1 with
 | 0,h1=>cases h1
 | 1,h1=>cases h1;subst h3;rcases hb with e|e|e|e;exact h.sd.1 e;exact h.sd.2.1 e;exact h.sd.2.2.1 e;exact h.sd.2.2.2 e
 | 2,h1=>cases h1;subst h3;rcases hb with e|e|e|e;exact h.md.1 e;exact h.md.2.1 e;exact h.md.2.2.1 e;exact h.md.2.2.2 e
 | n+3,h1=>cases h1
theorem Tryz.SW.apart {A:Nat→Prop} {w:World} {S P L Bs B M N:Nat} {r:Rg} {s:SS} {g:Nat→Int} (h:SW A w S P L Bs B M N r s g) {row:List AV} {kn:List (AV×Option AV)}:apart [(S,0),(M,0)] [.own row,.dm kn]:=
 ⟨fun _ i b' s' h1 _ _=>(by
  match i,h1 with
  | 0,h1=>cases h1;exact h.aj.ne
  | i+1,h1=>cases h1),⟨fun _ i b' s' h1 _ _=>(by cases h1),trivial⟩⟩
theorem Tryz.SW.iA {A:Nat→Prop} {w:World} {S P L Bs B M N:Nat} {r:Rg} {s:SS} {g:Nat→Int} (h:SW A w S P L Bs B M N r s g): ∀b,sK S M B b→b<w.heap.size:=fun b hb=>by
 rcases hb with rfl|rfl|rfl
 ·exact h.lt _ h.aj.aS
 ·exact h.lt _ h.aj.aM
 ·exact h.lt _ h.aB
theorem Tryz.SW.UC {A:Nat→Prop} {w w':World} {S P L Bs B M N:Nat} {r:Rg} {s:SS} {g:Nat→Int} (h:SW A w S P L Bs B M N r s g) {ρ:Val} {gs:List (Nat→Int)} {bl:List (Nat×Nat)} {l:Leaf} {e:Ending} {j:J}
  (he:oG ρ w (sK S M B) (nU P L Bs B N gs) bl l e w' j) (h1:aJ bl 1=some ⟨S,0,0,none⟩) (h2:aJ bl 2=some ⟨M,0,0,none⟩) {row0:List AV} (hr0:(1,row0)∈l.rows) {lg:List (AV×Option AV)} (hm0:(2,lg)∈l.maps)
  {n:Nat} (hn:n∈l.own) (hn1:n≠1) {row:List AV} (hr:(n,row)∈l.rows) {L':Dw.Loc} (hL:j n=some L'): ¬A L'.blk∧L'.off=0:=by
 obtain ⟨h3,h4⟩:=he.fresh n hn L' hL;refine ⟨fun ha=> ?_,h4⟩;have hlt:=h.lt _ ha;rcases h3 with h3|h3
 ·omega
 ·have hK:=h3;rcases h3 with h3|h3|h3
  ·exact he.apart (n,row) hr (1,row0) hr0 hn1 L' ⟨S,0,0,none⟩ hL (he.sub _ _ h1) h3 (.inr hK)
  ·exact he.abh (n,row) hr (2,lg) hm0 L' ⟨M,0,0,none⟩ hL (he.sub _ _ h2) h3
  ·obtain ⟨F,h5,h6⟩:=he.fO;exact (h5 B h6.2.2.2.1).2 (h3▸he.mine (n,row) hr L' hL)
theorem Tryz.EW {ρ:Val} {j:J} {K:Nat→Prop} {w0 w:World}: ∀ {rows:List (Nat×List AV)},LH ρ j K w0 w rows→ ∀ {n:Nat} {row:List AV},(n,row)∈rows→ ∀L,j n=some L→Row w L (AV.aP ρ (dH j) row)∧((w0.heap.size≤L.blk∨K L.blk)→L.off=0→Own w L.blk (AV.aP ρ (dH j) row))
 | [], _,_,_,h=>by cases h
 | x::l,ho,n,row,h=>by
  rcases yac.1 h with rfl|h
  ·exact ho.1
  ·exact EW ho.2 h
theorem Tryz.Pk {j:J}: ∀ {rows:List (Nat×List AV)},KJ j rows→ ∀ {n:Nat} {row:List AV},(n,row)∈rows→ ∀L,j n=some L→ ∀k∈AV.lG row,j k=some (dH j k)
 | [], _,_,_,h=>by cases h
 | x::l,ho,n,row,h=>by
  rcases yac.1 h with rfl|h
  ·exact ho.1
  ·exact Pk ho.2 h
theorem Tryz.Qh {ρ:Val} {j:J} {w0 w:World}: ∀ {maps:List (Nat×List (AV×Option AV))},LK ρ j w0 w maps→ ∀ {n:Nat} {lg:List (AV×Option AV)},(n,lg)∈maps→
  ∀ L,j n=some L→ ∃arr clock dz eZ,w.heap[L.blk]? =some (.map arr clock)∧w0.heap[L.blk]? =some (.map dz eZ)∧(jE arr∧kI arr clock)∧ ∀k,dB arr k=nV (dB dz) (vU ρ (dH j) lg) k
 | [], _,_,_,h=>by cases h
 | x::l,ho,n,row,h=>by
  rcases yac.1 h with rfl|h
  ·exact ho.1
  ·exact Qh ho.2 h
theorem Tryz.SW.Dh {A:Nat→Prop} {w w':World} {S P L Bs B M N:Nat} {r:Rg} {s:SS} {g:Nat→Int} (h:SW A w S P L Bs B M N r s g) {ρ:Val} {gs:List (Nat→Int)} {bl:List (Nat×Nat)} {l:Leaf} {e:Ending} {j:J}
  (he:oG ρ w (sK S M B) (nU P L Bs B N gs) bl l e w' j) (h1:aJ bl 1=some ⟨S,0,0,none⟩) (h2:aJ bl 2=some ⟨M,0,0,none⟩) {row0:List AV} (hr0:(1,row0)∈l.rows) {lg:List (AV×Option AV)} (hm0:(2,lg)∈l.maps)
  {x y f ph:Nat} (hx:(x,[nM f])∈l.rows) (hy:(y,[.ptr 1 0])∈l.rows) (ox:x∈l.own) (oy:y∈l.own) (nx:x≠1) (ny:y≠1) (kx:x∈AV.lG row0) (ky:y∈AV.lG row0) (hf:RH ph=some f):
  mI A w' S ph (AV.val ρ (dH j) (.func 112 [] [.ptr x 0,.ptr y 0])):=by
 have hj1:=he.sub _ _ h1;have jx:=Pk he.Ev hr0 _ hj1 x kx;have jy:=Pk he.Ev hr0 _ hj1 y ky;obtain ⟨ax,zx⟩:=h.UC he h1 h2 hr0 hm0 ox nx hx jx;obtain ⟨ay,zy⟩:=h.UC he h1 h2 hr0 hm0 oy ny hy jy;have rx:=(EW he.rows hx _ jx).1;have ry:=(EW he.rows hy _ jy).1;have dO:dH j 1=⟨S,0,0,none⟩:=bB hj1;refine .fence f (dH j x).blk (dH j y).blk hf ?_ ?_ ?_ ax ay
 ·simp only [AV.val,AV.aP,zx,zy]
 ·have e:AV.aP ρ (dH j) [nM f]= [qO S f]:=by simp only [AV.aP,AV.val,nM,dO];rfl
  rw [e] at rx;obtain ⟨arr,e,fr,q1,q2⟩:=rx;exact ⟨arr,e,fr,q1,by rw [zx] at q2;exact q2⟩
 ·have e:AV.aP ρ (dH j) [.ptr 1 0]= [.pointer (some ⟨S,0,none⟩)]:=by simp only [AV.aP,AV.val,dO]
  rw [e] at ry;obtain ⟨arr,e,fr,q1,q2⟩:=ry;exact ⟨arr,e,fr,q1,by rw [zy] at q2;exact q2⟩
theorem Tryz.aL.none {A:Nat→Prop} {w:World}:aL A w (.slice none 0 0) []:=⟨Option.none,0,rfl,fun _ h=>(by cases h),Or.inl rfl⟩
theorem Tryz.Gv {g:Nat→Int} (hg: ∀j,0≤g j∧g j<256) (a:Nat):0≤aC g a 2∧aC g a 2<65536:=kE g hg a 2
theorem Tryz.o8:(0:Int)≤0∧(0:Int)<65536:=by decide
theorem Tryz.z32:(0:Int)≤0∧(0:Int)<4294967296:=by decide
theorem Tryz.zBb {A:Nat→Prop} {w:World} {S P L Bs B M N:Nat} {r:Rg} {s:SS} {g:Nat→Int} (h:SW A w S P L Bs B M N r s g) (hb:s.br=false) (hp:s.ph=1):
  Calls prog 28 #[.pointer (some ⟨S,0,none⟩)] w fun e w'=>e= .returned (.tuple #[dM 2 3 0,.int .i64 (iO r g s).1])∧SW A w' S P L Bs B M N r (iO r g s).2 g∧Dw.Mv (sK S M B) w w':=by
 obtain ⟨nv,sv,ho,hn,hsv⟩:=h.aj.obj;have hrg:=h.aj.rg;obtain ⟨hx0,hx1⟩:=Gv h.mem.byte (r.v+2).toNat;have hbd:=hrg.bnd;have hf:=h.fit;have rE:=hrg.v0;generalize nT:aC g (r.v+2).toNat 2=x at hx0 hx1;have hd:=mU h.aj (r.v+2) x (.pointer (some ⟨P,0,none⟩)) sv undef;have ea:(af 10).den (fw r s (r.v+2) x (.pointer (some ⟨P,0,none⟩)) sv undef)=r.v+2:=iI (by show 0≤r.v+2;omega) (by show r.v+2<_;have:=h.hN;omega);have ex:(aF 11).den (fw r s (r.v+2) x (.pointer (some ⟨P,0,none⟩)) sv undef)=x:=jC hx0 hx1;have gY:nv=qO S 55:=by
  rw [hp] at hn;cases hn with
  | idle h _=>cases h
  | gZ f h hv=>cases h;exact hv
  | fence f _ _ h=>cases h
 subst gY;have hj2:aJ [(S,0),(M,0)] 2=some ⟨M,0,0,none⟩:=rfl;have hj1:aJ [(S,0),(M,0)] 1=some ⟨S,0,0,none⟩:=rfl;refine yas (eD (ρ:=fw r s (r.v+2) x (.pointer (some ⟨P,0,none⟩)) sv undef) (K:=sK S M B) (g:=nU P L Bs B N [g]) (bl:= [(S,0),(M,0)]) (vals:= [.pointer (some ⟨S,0,none⟩)]) mixed zwB zzX h.iA
  ⟨gy ho (kW hd hb hsv.one hj2 (jP (ai (bT hj1) RL.nil) RL.nil)) (.inl rfl),nK h.aj (.inr (.inl rfl)),trivial⟩ h.apart (xI h.mem h.mine)
  ⟨xO (fun j=>dY hrg) ea (fun w=>zv6 r hrg w),FB h.hN hd.p ea (by omega) (by omega) (ex.trans nT.symm),trivial⟩ (ai (bT hj1) RL.nil) (aT.2 trivial)) fun e w' hh=> ?_
 obtain ⟨p,hpm,hto,l,hl,j,he⟩:=hh;have aW:=he.sub _ _ hj1;have bC:=he.sub _ _ hj2;have dO:=bB aW;have dS:=bB bC;have hmv:=he.mv;have bU:=h.kA hmv;obtain ⟨g',hg0,hgm⟩:=xS he.fO;have hah:jD r g s=(x-s.nx)%65536:=by unfold jD;rw [nT]
 unfold zsz at hpm;simp only [yac,yae,yav] at hpm;rcases hpm with rfl|rfl|rfl|rfl|rfl|rfl
 all_goals
  simp only [aZ,aT,jY,mV,dJ,gG,zag,hd.n,hd.nx,hd.b0,ex,iF,yap,yat,yaU] at hto;cases hl;have hO:=(he.rows.1 _ aW).2 (.inr (.inl rfl)) rfl;have hM:=he.maps.1 _ bC;cases hg0;simp only [AV.val,AV.aP,dO,dS,hd.n,hd.d,hd.v,hd.c,hd.nx,hd.us,hd.hd,hd.wr,hd.p,hd.sv,dW,zag,dJ,jO,hd.op,hd.b0,hd.b1,hd.b2,hd.b3,hd.b4,hd.b5] at hO
 ·have e1:iO r g s=(4,s.brk):=by unfold iO;rw [hah,yak (by omega)]
  rw [e1];exact ⟨he.ret,h.next hmv hgm ⟨_,_,hO,.idle rfl rfl,aL.none⟩ (h.aj.tk.same bU hM) h.aj.nx h.aj.us o8 z32,hmv⟩
 ·have e1:iO r g s=(0,s.goto 5):=by unfold iO;rw [hah,yai (by omega),yak (by omega)]
  rw [e1];exact ⟨he.ret,h.next hmv hgm ⟨_,_,hO,h.Dh he hj1 hj2 (.head _) (.head _) (x:=10) (y:=9) (f:=83) (.tail _ (.tail _ (.head _))) (.tail _ (.head _)) (.tail _ (.tail _ (.head _))) (.tail _ (.head _)) (by decide) (by decide) (by decide) (by decide) rfl,hsv.kept bU⟩ (h.aj.tk.same bU hM) h.aj.nx h.aj.us h.aj.hd h.aj.wr,hmv⟩
 ·have e1:iO r g s=(4,s.brk):=by unfold iO;rw [hah,yak (by omega)]
  rw [e1];exact ⟨he.ret,h.next hmv hgm ⟨_,_,hO,.idle rfl rfl,aL.none⟩ (h.aj.tk.same bU hM) h.aj.nx h.aj.us o8 z32,hmv⟩
 ·have e1:iO r g s=(0,s.goto 2):=by unfold iO;rw [hah,yai (by omega),yai (by omega),yak hto.2.1]
  rw [e1];exact ⟨he.ret,h.next hmv hgm ⟨_,_,hO,.gZ _ rfl rfl,hsv.kept bU⟩ (h.aj.tk.same bU hM) h.aj.nx h.aj.us h.aj.hd h.aj.wr,hmv⟩
 ·have e1:iO r g s=(4,s.brk):=by unfold iO;rw [hah,yak (by omega)]
  rw [e1];exact ⟨he.ret,h.next hmv hgm ⟨_,_,hO,.idle rfl rfl,aL.none⟩ (h.aj.tk.same bU hM) h.aj.nx h.aj.us o8 z32,hmv⟩
 ·have e1:iO r g s=(0,({ s with nn:=true }:SS).stop):=by unfold iO;rw [hah,yai (by omega),yai (by omega),yai (by rw [hto.2.1];simp)]
  rw [e1];exact ⟨he.ret,h.next hmv hgm ⟨_,_,hO,.idle rfl rfl,hsv.kept bU⟩ (h.aj.tk.same bU hM) h.aj.nx h.aj.us h.aj.hd h.aj.wr,hmv⟩
theorem Tryz.SW.zq {A:Nat→Prop} {w:World} {S P L Bs B M N:Nat} {r:Rg} {s:SS} {g:Nat→Int} (h:SW A w S P L Bs B M N r s g): ∀k,(k=P∨k=L∨k=Bs∨k=B)→ ¬(k=S∨k=M):=fun k hk hh=>by
 rcases hh with rfl|rfl
 ·rcases hk with e|e|e|e;exact h.sd.1 e;exact h.sd.2.1 e;exact h.sd.2.2.1 e;exact h.sd.2.2.2 e
 ·rcases hk with e|e|e|e;exact h.md.1 e;exact h.md.2.1 e;exact h.md.2.2.1 e;exact h.md.2.2.2 e
theorem Tryz.SW.GD {A:Nat→Prop} {w:World} {S P L Bs B M N X Y:Nat} {r:Rg} {s:SS} {g:Nat→Int} (h:SW A w S P L Bs B M N r s g) {row r3 r4:List AV} {kn:List (AV×Option AV)}:Dw.apart [(S,0),(M,0),(X,0),(Y,0)] [.own row,.dm kn,.ro r3,.ro r4]:=
  ⟨fun _ i b' s' h1 h2 h3=>(by
    match i,h1,h2 with
    | 0,h1,_=>cases h1;exact h.aj.ne
    | 1,_,h2=>cases h2;cases h3
    | 2,_,h2=>cases h2;cases h3
    | i+3,h1,_=>cases h1),
   ⟨fun _ i b' s' h1 h2 h3=>(by
    match i,h1,h2 with
    | 0,_,h2=>cases h2;cases h3
    | 1,_,h2=>cases h2;cases h3
    | i+2,h1,_=>cases h1),⟨fun h=>(by cases h),⟨fun h=>(by cases h),trivial⟩⟩⟩⟩
theorem Tryz.zGu {ρ:Val} {x:Int} (h0:0≤x) (h1:x<65536) (e:ρ.i 11=x:=by rfl):SE.den ρ (.dG [⟨11,0,65535,0,1,0⟩] 0)=x%2:=by
 obtain ⟨n,rfl⟩:=yaO h0;simp only [SE.den,aN,aO.den,e,yaV,ybX,ycw,ycJ];have e2:max 0 (min n 65535)=n:=by omega
 rw [e2];rfl
theorem Tryz.zzI {ρ:Val} {h l:Int} (h0:0≤h∧h<65536) (l0:0≤l∧l<4294967296) (e7:ρ.i 7=h:=by rfl) (e8:ρ.i 8=l:=by rfl):SE.den ρ (.dG [⟨7,0,65535,0,16,0⟩,⟨8,0,4294967295,0,32,32⟩] 0)=h+l*4294967296:=by
 obtain ⟨n,rfl⟩:=yaO h0.1;obtain ⟨m,rfl⟩:=yaO l0.1;simp only [SE.den,aN,aO.den,e7,e8,yaV,ybX,ycw,ycJ];have e2:max 0 (min n 65535)=n:=by omega
 have e3:max 0 (min m 4294967295)=m:=by omega
 rw [e2,e3,ybe (by omega),ybe (by omega),ycK,←ycH (by omega),yb2];show ((m*4294967296+n:Nat):Int)=_;omega
theorem Tryz.zEa {u x:Int} (h:0≤u∧u<65536):decide ((u-x-1)%65536<1)=decide (((u-x)%65536-1)%65536<(u-(u-1)%65536)%65536):=by
 congr 1;apply propext;omega
theorem Tryz.zzx {A:Nat→Prop} {w:World} {S P L Bs B M N:Nat} {r:Rg} {s:SS} {g:Nat→Int} (h:SW A w S P L Bs B M N r s g) (hb:s.br=false) (hp:s.ph=4):
  Calls prog 28 #[.pointer (some ⟨S,0,none⟩)] w fun e w'=>e= .returned (.tuple #[dM 2 3 0,.int .i64 (jZ r g s).1])∧SW A w' S P L Bs B M N r (jZ r g s).2 g∧Dw.Mv (sK S M B) w w':=by
 obtain ⟨nv,sv,ho,hn,hsv⟩:=h.aj.obj;have hrg:=h.aj.rg;have hbd:=hrg.bnd;have hf:=h.fit;have rE:=hrg.v0;have hrc:=hrg.c0;have hN:=h.hN;obtain ⟨hx0,hx1⟩:=Gv h.mem.byte (r.v+2).toNat;generalize nT:aC g (r.v+2).toNat 2=x at hx0 hx1;have hd:=mU h.aj (r.v+2) x (.pointer (some ⟨P,0,none⟩)) sv undef;have ea:(af 10).den (fw r s (r.v+2) x (.pointer (some ⟨P,0,none⟩)) sv undef)=(r.v+2):=iI (by show 0≤(r.v+2);omega) (by show (r.v+2)<_;omega);have ex:(aF 11).den (fw r s (r.v+2) x (.pointer (some ⟨P,0,none⟩)) sv undef)=x:=jC hx0 hx1;have gY:nv=qO S 114:=by
  rw [hp] at hn;cases hn with
  | idle h _=>cases h
  | gZ f h hv=>cases h;exact hv
  | fence f _ _ h=>cases h
 subst gY;have hj2:aJ [(S,0),(M,0)] 2=some ⟨M,0,0,none⟩:=rfl;have hj1:aJ [(S,0),(M,0)] 1=some ⟨S,0,0,none⟩:=rfl;refine yas (eD (ρ:=(fw r s (r.v+2) x (.pointer (some ⟨P,0,none⟩)) sv undef)) (K:=sK S M B) (g:=nU P L Bs B N [g]) (bl:= [(S,0),(M,0)]) (vals:= [.pointer (some ⟨S,0,none⟩)]) mixed zuZ zwN h.iA
  ⟨gy ho (kW hd hb hsv.one hj2 (jP (ai (bT hj1) RL.nil) RL.nil)) (.inl rfl),nK h.aj (.inr (.inl rfl)),trivial⟩ h.apart (xI h.mem h.mine)
  ⟨xO (fun j=>dY hrg) ea (fun w=>zv6 r hrg w),FB h.hN hd.p ea (by omega) (by omega) (ex.trans nT.symm),trivial⟩ (ai (bT hj1) RL.nil) (aT.2 trivial)) fun e w' hh=> ?_
 obtain ⟨p,hpm,hto,l,hl,j,he⟩:=hh;have aW:=he.sub _ _ hj1;have bC:=he.sub _ _ hj2;have dO:=bB aW;have dS:=bB bC;have hmv:=he.mv;have bU:=h.kA hmv;obtain ⟨g',hg0,hgm⟩:=xS he.fO;have hah:jD r g s=(x-s.nx)%65536:=by unfold jD;rw [nT]
 unfold zn6 at hpm;simp only [yac,yae,yav] at hpm;rcases hpm with rfl|rfl|rfl|rfl
 all_goals
  simp only [aZ,aT,jY,mV,dJ,gG,zag,hd.n,hd.nx,hd.b0,ex,iF,yap,yat,yaU] at hto;cases hl;have hO:=(he.rows.1 _ aW).2 (.inr (.inl rfl)) rfl;have hM:=he.maps.1 _ bC;cases hg0;simp only [AV.val,AV.aP,dO,dS,hd.n,hd.d,hd.v,hd.c,hd.nx,hd.us,hd.hd,hd.wr,hd.p,hd.sv,dW,zag,den_add,gG,iF,dJ,jO,hd.op,hd.b0,hd.b1,hd.b2,hd.b3,hd.b4,hd.b5] at hO
 ·have e1:jZ r g s=(4,s.brk):=by unfold jZ;rw [hah,yak (by omega)]
  rw [e1];exact ⟨he.ret,h.next hmv hgm ⟨_,_,hO,.idle rfl rfl,aL.none⟩ (h.aj.tk.same bU hM) h.aj.nx h.aj.us o8 z32,hmv⟩
 ·have e1:jZ r g s=(0,s.goto 5):=by unfold jZ;rw [hah,yai (by omega),yak (by omega)]
  rw [e1];exact ⟨he.ret,h.next hmv hgm ⟨_,_,hO,h.Dh he hj1 hj2 (.head _) (.head _) (x:=10) (y:=9) (f:=83) (.tail _ (.tail _ (.head _))) (.tail _ (.head _)) (.tail _ (.tail _ (.head _))) (.tail _ (.head _)) (by decide) (by decide) (by decide) (by decide) rfl,hsv.kept bU⟩ (h.aj.tk.same bU hM) h.aj.nx h.aj.us h.aj.hd h.aj.wr,hmv⟩
 ·have e1:jZ r g s=(4,s.brk):=by unfold jZ;rw [hah,yak (by omega)]
  rw [e1];exact ⟨he.ret,h.next hmv hgm ⟨_,_,hO,.idle rfl rfl,aL.none⟩ (h.aj.tk.same bU hM) h.aj.nx h.aj.us o8 z32,hmv⟩
 ·have e1:jZ r g s=(0,({ s with nn:=true }:SS).stop):=by unfold jZ;rw [hah,yai (by omega),yai (by omega)]
  rw [e1];exact ⟨he.ret,h.next hmv hgm ⟨_,_,hO,.idle rfl rfl,hsv.kept bU⟩ (h.aj.tk.same bU hM) h.aj.nx h.aj.us h.aj.hd h.aj.wr,hmv⟩
theorem Tryz.zAD {A:Nat→Prop} {w:World} {S P L Bs B M N:Nat} {r:Rg} {s:SS} {g:Nat→Int} (h:SW A w S P L Bs B M N r s g) (hb:s.br=false) (hp:s.ph=6):
  Calls prog 28 #[.pointer (some ⟨S,0,none⟩)] w fun e w'=>e= .returned (.tuple #[dM 2 4 (s.nx.tmod r.n),.int .i64 0])∧SW A w' S P L Bs B M N r (Gn r g s) g∧Dw.Mv (sK S M B) w w':=by
 obtain ⟨nv,sv,ho,hn,hsv⟩:=h.aj.obj;have hrg:=h.aj.rg;have hbd:=hrg.bnd;have hf:=h.fit;have rE:=hrg.v0;have hrc:=hrg.c0;have hN:=h.hN;have hm0:0≤s.nx.tmod r.n:=yc8 _ h.aj.nx.1;have hm1:s.nx.tmod r.n<r.n:=ycV _ (by omega);obtain ⟨hx0,hx1⟩:=Gv h.mem.byte (r.v+4+2*s.nx.tmod r.n).toNat;generalize nT:aC g (r.v+4+2*s.nx.tmod r.n).toNat 2=x at hx0 hx1;have hd:=mU h.aj (r.v+4+2*s.nx.tmod r.n) x (.pointer (some ⟨P,0,none⟩)) sv undef;have ea:(af 10).den (fw r s (r.v+4+2*s.nx.tmod r.n) x (.pointer (some ⟨P,0,none⟩)) sv undef)=(r.v+4+2*s.nx.tmod r.n):=iI (by show 0≤(r.v+4+2*s.nx.tmod r.n);omega) (by show (r.v+4+2*s.nx.tmod r.n)<_;omega);have ex:(aF 11).den (fw r s (r.v+4+2*s.nx.tmod r.n) x (.pointer (some ⟨P,0,none⟩)) sv undef)=x:=jC hx0 hx1;have er:SE.den (fw r s (r.v+4+2*s.nx.tmod r.n) x (.pointer (some ⟨P,0,none⟩)) sv undef) (.bin .rem .i64 (aF 4) (ah 0))=s.nx.tmod r.n:=by rw [zy5,hd.nx,hd.n]
 have gY:nv=qO S 83:=by
  rw [hp] at hn;cases hn with
  | idle h _=>cases h
  | gZ f h hv=>cases h;exact hv
  | fence f _ _ h=>cases h
 subst gY;have hj2:aJ [(S,0),(M,0)] 2=some ⟨M,0,0,none⟩:=rfl;have hj1:aJ [(S,0),(M,0)] 1=some ⟨S,0,0,none⟩:=rfl;refine yas (eD (ρ:=(fw r s (r.v+4+2*s.nx.tmod r.n) x (.pointer (some ⟨P,0,none⟩)) sv undef)) (K:=sK S M B) (g:=nU P L Bs B N [g]) (bl:= [(S,0),(M,0)]) (vals:= [.pointer (some ⟨S,0,none⟩)]) mixed zwp zzR h.iA
  ⟨gy ho (kW hd hb hsv.one hj2 (jP (ai (bT hj1) RL.nil) RL.nil)) (.inl rfl),nK h.aj (.inr (.inl rfl)),trivial⟩ h.apart (xI h.mem h.mine)
  ⟨xO (fun j=>dY hrg) ea (fun w=>by rw [er];exact zC5 r hrg _ ⟨hm0,hm1⟩ w),FB h.hN hd.p ea (by omega) (by omega) (ex.trans nT.symm),trivial⟩ (ai (bT hj1) RL.nil) (aT.2 trivial)) fun e w' hh=> ?_
 obtain ⟨p,hpm,hto,l,hl,j,he⟩:=hh;have aW:=he.sub _ _ hj1;have bC:=he.sub _ _ hj2;have dO:=bB aW;have dS:=bB bC;have hmv:=he.mv;have bU:=h.kA hmv;obtain ⟨g',hg0,hgm⟩:=xS he.fO;unfold zsr at hpm;simp only [yac,yae,yav] at hpm;rcases hpm with rfl
 all_goals
  simp only [aZ,aT,jY,mV,dJ,gG,zag,hd.n,hd.nx,hd.b0,ex,iF,yap,yat,yaU] at hto;cases hl;have hO:=(he.rows.1 _ aW).2 (.inr (.inl rfl)) rfl;have hM:=he.maps.1 _ bC;cases hg0;simp only [AV.val,AV.aP,dO,dS,hd.n,hd.d,hd.v,hd.c,hd.nx,hd.us,hd.hd,hd.wr,hd.p,hd.sv,dW,zag,den_add,gG,iF,dJ,jO,hd.op,hd.b0,hd.b1,hd.b2,hd.b3,hd.b4,hd.b5,ex] at hO
 ·have e1:Gn r g s=({ s with hd:=x }:SS).goto 7:=by unfold Gn;rw [nT]
  rw [e1];exact ⟨he.ret.trans (by simp only [AV.val,AV.aP,er,zag];rfl),h.next hmv hgm ⟨_,_,hO,.gZ _ rfl rfl,hsv.kept bU⟩ (h.aj.tk.same bU hM) h.aj.nx h.aj.us ⟨hx0,hx1⟩ h.aj.wr,hmv⟩
theorem Tryz.zyR {A:Nat→Prop} {w:World} {S P L Bs B M N:Nat} {r:Rg} {s:SS} {g:Nat→Int} (h:SW A w S P L Bs B M N r s g) (hb:s.br=false) (hp:s.ph=2):
  Calls prog 28 #[.pointer (some ⟨S,0,none⟩)] w fun e w'=>e= .returned (.tuple #[dM 3 9 0,.int .i64 0])∧SW A w' S P L Bs B M N r (s.goto 3) (gF g (r.c+4+8*r.n).toNat 2 s.nx)∧Dw.Mv (sK S M B) w w':=by
 obtain ⟨nv,sv,ho,hn,hsv⟩:=h.aj.obj;have hrg:=h.aj.rg;have hbd:=hrg.bnd;have hf:=h.fit;have rE:=hrg.v0;have hrc:=hrg.c0;have hN:=h.hN;have hd:=mU h.aj (r.c+4+8*r.n) 0 (.pointer (some ⟨P,0,none⟩)) sv undef;have ea:(af 10).den (fw r s (r.c+4+8*r.n) 0 (.pointer (some ⟨P,0,none⟩)) sv undef)=(r.c+4+8*r.n):=iI (by show 0≤(r.c+4+8*r.n);omega) (by show (r.c+4+8*r.n)<_;omega);have gY:nv=qO S 84:=by
  rw [hp] at hn;cases hn with
  | idle h _=>cases h
  | gZ f h hv=>cases h;exact hv
  | fence f _ _ h=>cases h
 subst gY;have hj2:aJ [(S,0),(M,0)] 2=some ⟨M,0,0,none⟩:=rfl;have hj1:aJ [(S,0),(M,0)] 1=some ⟨S,0,0,none⟩:=rfl;refine yas (eD (ρ:=(fw r s (r.c+4+8*r.n) 0 (.pointer (some ⟨P,0,none⟩)) sv undef)) (K:=sK S M B) (g:=nU P L Bs B N [g,gF g (r.c+4+8*r.n).toNat 2 s.nx]) (bl:= [(S,0),(M,0)]) (vals:= [.pointer (some ⟨S,0,none⟩)]) mixed zuQ zwG h.iA
  ⟨gy ho (kW hd hb hsv.one hj2 (jP (ai (bT hj1) RL.nil) RL.nil)) (.inl rfl),nK h.aj (.inr (.inl rfl)),trivial⟩ h.apart (xI h.mem h.mine)
  ⟨xO (fun j=>dY hrg) ea (fun w=>zCT r hrg w),Qt (k:=2) h.hN hd.p ea (by omega) (.inr (.inl rfl)) (by omega) hd.nx (.inr (.inr rfl)),trivial⟩ (ai (bT hj1) RL.nil) (aT.2 trivial)) fun e w' hh=> ?_
 obtain ⟨p,hpm,hto,l,hl,j,he⟩:=hh;have aW:=he.sub _ _ hj1;have bC:=he.sub _ _ hj2;have dO:=bB aW;have dS:=bB bC;have hmv:=he.mv;have bU:=h.kA hmv;obtain ⟨g',hg0,hgm⟩:=xS he.fO;unfold znX at hpm;simp only [yac,yae,yav] at hpm;rcases hpm with rfl
 all_goals
  simp only [aZ,aT,jY,mV,dJ,gG,zag,hd.n,hd.nx,hd.b0,iF,yap,yat,yaU] at hto;cases hl;have hO:=(he.rows.1 _ aW).2 (.inr (.inl rfl)) rfl;have hM:=he.maps.1 _ bC;cases hg0;simp only [AV.val,AV.aP,dO,dS,hd.n,hd.d,hd.v,hd.c,hd.nx,hd.us,hd.hd,hd.wr,hd.p,hd.sv,dW,zag,den_add,gG,iF,dJ,jO,hd.op,hd.b0,hd.b1,hd.b2,hd.b3,hd.b4,hd.b5] at hO
 ·exact ⟨he.ret,h.next hmv hgm ⟨_,_,hO,h.Dh he hj1 hj2 (.head _) (.head _) (x:=6) (y:=5) (f:=114) (.tail _ (.tail _ (.head _))) (.tail _ (.head _)) (.tail _ (.tail _ (.head _))) (.tail _ (.head _)) (by decide) (by decide) (by decide) (by decide) rfl,hsv.kept bU⟩ (h.aj.tk.same bU hM) h.aj.nx h.aj.us h.aj.hd h.aj.wr,hmv⟩
theorem Tryz.zrM {A:Nat→Prop} {w:World} {S P L Bs B M N:Nat} {r:Rg} {s:SS} {g:Nat→Int} (h:SW A w S P L Bs B M N r s g) (hb:s.br=false) (hp:s.ph=11):
  Calls prog 28 #[.pointer (some ⟨S,0,none⟩)] w fun e w'=>e= .returned (.tuple #[dM 3 8 (s.us.tmod r.n),.int .i64 0])∧SW A w' S P L Bs B M N r (s.goto 12) (gF g (r.c+4+8*s.us.tmod r.n).toNat 8 (s.hd+s.wr*4294967296))∧Dw.Mv (sK S M B) w w':=by
 obtain ⟨nv,sv,ho,hn,hsv⟩:=h.aj.obj;have hrg:=h.aj.rg;have hbd:=hrg.bnd;have hf:=h.fit;have rE:=hrg.v0;have hrc:=hrg.c0;have hN:=h.hN;have hm0:0≤s.us.tmod r.n:=yc8 _ h.aj.us.1;have hm1:s.us.tmod r.n<r.n:=ycV _ (by omega);have hd:=mU h.aj (r.c+4+8*s.us.tmod r.n) 0 (.pointer (some ⟨P,0,none⟩)) sv undef;have ea:(af 10).den (fw r s (r.c+4+8*s.us.tmod r.n) 0 (.pointer (some ⟨P,0,none⟩)) sv undef)=(r.c+4+8*s.us.tmod r.n):=iI (by show 0≤(r.c+4+8*s.us.tmod r.n);omega) (by show (r.c+4+8*s.us.tmod r.n)<_;omega);have er:SE.den (fw r s (r.c+4+8*s.us.tmod r.n) 0 (.pointer (some ⟨P,0,none⟩)) sv undef) (.bin .rem .i64 (aF 5) (ah 0))=s.us.tmod r.n:=by rw [zy5,hd.us,hd.n]
 have eu:SE.den (fw r s (r.c+4+8*s.us.tmod r.n) 0 (.pointer (some ⟨P,0,none⟩)) sv undef) (.dG [⟨7,0,65535,0,16,0⟩,⟨8,0,4294967295,0,32,32⟩] 0)=s.hd+s.wr*4294967296:=zzI h.aj.hd h.aj.wr;have gY:nv=qO S 61:=by
  rw [hp] at hn;cases hn with
  | idle h _=>cases h
  | gZ f h hv=>cases h;exact hv
  | fence f _ _ h=>cases h
 subst gY;have hj2:aJ [(S,0),(M,0)] 2=some ⟨M,0,0,none⟩:=rfl;have hj1:aJ [(S,0),(M,0)] 1=some ⟨S,0,0,none⟩:=rfl;refine yas (eD (ρ:=(fw r s (r.c+4+8*s.us.tmod r.n) 0 (.pointer (some ⟨P,0,none⟩)) sv undef)) (K:=sK S M B) (g:=nU P L Bs B N [g,gF g (r.c+4+8*s.us.tmod r.n).toNat 8 (s.hd+s.wr*4294967296)]) (bl:= [(S,0),(M,0)]) (vals:= [.pointer (some ⟨S,0,none⟩)]) mixed zn0 zqR h.iA
  ⟨gy ho (kW hd hb hsv.one hj2 (jP (ai (bT hj1) RL.nil) RL.nil)) (.inl rfl),nK h.aj (.inr (.inl rfl)),trivial⟩ h.apart (xI h.mem h.mine)
  ⟨xO (fun j=>dY hrg) ea (fun w=>by rw [er];exact zCW r hrg _ ⟨hm0,hm1⟩ w),Qt (k:=8) h.hN hd.p ea (by omega) (.inr (.inr (.inr rfl))) (by omega) eu (.inr (.inr rfl)),trivial⟩ (ai (bT hj1) RL.nil) (aT.2 trivial)) fun e w' hh=> ?_
 obtain ⟨p,hpm,hto,l,hl,j,he⟩:=hh;have aW:=he.sub _ _ hj1;have bC:=he.sub _ _ hj2;have dO:=bB aW;have dS:=bB bC;have hmv:=he.mv;have bU:=h.kA hmv;obtain ⟨g',hg0,hgm⟩:=xS he.fO;unfold XT at hpm;simp only [yac,yae,yav] at hpm;rcases hpm with rfl
 all_goals
  simp only [aZ,aT,jY,mV,dJ,gG,zag,hd.n,hd.nx,hd.b0,iF,yap,yat,yaU] at hto;cases hl;have hO:=(he.rows.1 _ aW).2 (.inr (.inl rfl)) rfl;have hM:=he.maps.1 _ bC;cases hg0;simp only [AV.val,AV.aP,dO,dS,hd.n,hd.d,hd.v,hd.c,hd.nx,hd.us,hd.hd,hd.wr,hd.p,hd.sv,dW,zag,den_add,gG,iF,dJ,jO,hd.op,hd.b0,hd.b1,hd.b2,hd.b3,hd.b4,hd.b5] at hO
 ·exact ⟨he.ret.trans (by simp only [AV.val,AV.aP,er,zag];rfl),h.next hmv hgm ⟨_,_,hO,h.Dh he hj1 hj2 (.head _) (.head _) (x:=6) (y:=5) (f:=89) (.tail _ (.tail _ (.head _))) (.tail _ (.head _)) (.tail _ (.tail _ (.head _))) (.tail _ (.head _)) (by decide) (by decide) (by decide) (by decide) rfl,hsv.kept bU⟩ (h.aj.tk.same bU hM) h.aj.nx h.aj.us h.aj.hd h.aj.wr,hmv⟩
theorem Tryz.zyo {A:Nat→Prop} {w:World} {S P L Bs B M N:Nat} {r:Rg} {s:SS} {g:Nat→Int} (h:SW A w S P L Bs B M N r s g) (hb:s.br=false) (hp:s.ph=13):
  Calls prog 28 #[.pointer (some ⟨S,0,none⟩)] w fun e w'=>e= .returned (.tuple #[dM 3 7 0,.int .i64 0])∧SW A w' S P L Bs B M N r (({ s with us:=(s.us+1)%65536 }:SS).goto 14) (gF g (r.c+2).toNat 2 ((s.us+1)%65536))∧Dw.Mv (sK S M B) w w':=by
 obtain ⟨nv,sv,ho,hn,hsv⟩:=h.aj.obj;have hrg:=h.aj.rg;have hbd:=hrg.bnd;have hf:=h.fit;have rE:=hrg.v0;have hrc:=hrg.c0;have hN:=h.hN;have hd:=mU h.aj (r.c+2) 0 (.pointer (some ⟨P,0,none⟩)) sv undef;have ea:(af 10).den (fw r s (r.c+2) 0 (.pointer (some ⟨P,0,none⟩)) sv undef)=(r.c+2):=iI (by show 0≤(r.c+2);omega) (by show (r.c+2)<_;omega);have gY:nv=qO S 89:=by
  rw [hp] at hn;cases hn with
  | idle h _=>cases h
  | gZ f h hv=>cases h;exact hv
  | fence f _ _ h=>cases h
 subst gY;have hj2:aJ [(S,0),(M,0)] 2=some ⟨M,0,0,none⟩:=rfl;have hj1:aJ [(S,0),(M,0)] 1=some ⟨S,0,0,none⟩:=rfl;refine yas (eD (ρ:=(fw r s (r.c+2) 0 (.pointer (some ⟨P,0,none⟩)) sv undef)) (K:=sK S M B) (g:=nU P L Bs B N [g,gF g (r.c+2).toNat 2 ((s.us+1)%65536)]) (bl:= [(S,0),(M,0)]) (vals:= [.pointer (some ⟨S,0,none⟩)]) mixed zuM zwE h.iA
  ⟨gy ho (kW hd hb hsv.one hj2 (jP (ai (bT hj1) RL.nil) RL.nil)) (.inl rfl),nK h.aj (.inr (.inl rfl)),trivial⟩ h.apart (xI h.mem h.mine)
  ⟨xO (fun j=>dY hrg) ea (fun w=>zCZ r hrg w),Qt (k:=2) h.hN hd.p ea (by omega) (.inr (.inl rfl)) (by omega) (by rw [den_add,hd.us,zag,iF]) (.inr (.inr rfl)),trivial⟩ (ai (bT hj1) RL.nil) (aT.2 trivial)) fun e w' hh=> ?_
 obtain ⟨p,hpm,hto,l,hl,j,he⟩:=hh;have aW:=he.sub _ _ hj1;have bC:=he.sub _ _ hj2;have dO:=bB aW;have dS:=bB bC;have hmv:=he.mv;have bU:=h.kA hmv;obtain ⟨g',hg0,hgm⟩:=xS he.fO;unfold znP at hpm;simp only [yac,yae,yav] at hpm;rcases hpm with rfl
 all_goals
  simp only [aZ,aT,jY,mV,dJ,gG,zag,hd.n,hd.nx,hd.b0,iF,yap,yat,yaU] at hto;cases hl;have hO:=(he.rows.1 _ aW).2 (.inr (.inl rfl)) rfl;have hM:=he.maps.1 _ bC;cases hg0;simp only [AV.val,AV.aP,dO,dS,hd.n,hd.d,hd.v,hd.c,hd.nx,hd.us,hd.hd,hd.wr,hd.p,hd.sv,dW,zag,den_add,gG,iF,dJ,jO,hd.op,hd.b0,hd.b1,hd.b2,hd.b3,hd.b4,hd.b5] at hO
 ·exact ⟨he.ret,h.next hmv hgm ⟨_,_,hO,h.Dh he hj1 hj2 (.head _) (.head _) (x:=6) (y:=5) (f:=119) (.tail _ (.tail _ (.head _))) (.tail _ (.head _)) (.tail _ (.tail _ (.head _))) (.tail _ (.head _)) (by decide) (by decide) (by decide) (by decide) rfl,hsv.kept bU⟩ (h.aj.tk.same bU hM) h.aj.nx (by show 0≤(s.us+1)%65536∧(s.us+1)%65536<65536;omega) h.aj.hd h.aj.wr,hmv⟩
theorem Tryz.zwf {A:Nat→Prop} {w:World} {S P L Bs B M N:Nat} {r:Rg} {s:SS} {g:Nat→Int} (h:SW A w S P L Bs B M N r s g) (hb:s.br=false) (hp:s.ph=15) (hev:s.ev=false):
  Calls prog 28 #[.pointer (some ⟨S,0,none⟩)] w fun e w'=>e= .returned (.tuple #[dM 2 2 0,.int .i64 0])∧SW A w' S P L Bs B M N r (uG r g s) g∧Dw.Mv (sK S M B) w w':=by
 obtain ⟨nv,sv,ho,hn,hsv⟩:=h.aj.obj;have hrg:=h.aj.rg;have hbd:=hrg.bnd;have hf:=h.fit;have rE:=hrg.v0;have hrc:=hrg.c0;have hN:=h.hN;obtain ⟨hx0,hx1⟩:=Gv h.mem.byte (r.v).toNat;generalize nT:aC g (r.v).toNat 2=x at hx0 hx1;have hd:=mU h.aj r.v x (.pointer (some ⟨P,0,none⟩)) sv undef;have ea:(af 10).den (fw r s r.v x (.pointer (some ⟨P,0,none⟩)) sv undef)=r.v:=iI (by show 0≤r.v;omega) (by show r.v<_;omega);have ex:(aF 11).den (fw r s r.v x (.pointer (some ⟨P,0,none⟩)) sv undef)=x:=jC hx0 hx1;have hxl:SE.den (fw r s r.v x (.pointer (some ⟨P,0,none⟩)) sv undef) (.dG [⟨11,0,65535,0,1,0⟩] 0)=x%2:=zGu hx0 hx1;have gY:nv=qO S 119:=by
  rw [hp] at hn;cases hn with
  | idle h _=>cases h
  | gZ f h hv=>cases h;exact hv
  | fence f _ _ h=>cases h
 subst gY;have hj2:aJ [(S,0),(M,0)] 2=some ⟨M,0,0,none⟩:=rfl;have hj1:aJ [(S,0),(M,0)] 1=some ⟨S,0,0,none⟩:=rfl;refine yas (eD (ρ:=(fw r s r.v x (.pointer (some ⟨P,0,none⟩)) sv undef)) (K:=sK S M B) (g:=nU P L Bs B N [g]) (bl:= [(S,0),(M,0)]) (vals:= [.pointer (some ⟨S,0,none⟩)]) mixed zuC zwj h.iA
  ⟨gy ho (kW hd hb hsv.one hj2 (jP (ai (bT hj1) RL.nil) RL.nil)) (.inl rfl),nK h.aj (.inr (.inl rfl)),trivial⟩ h.apart (xI h.mem h.mine)
  ⟨xO (fun j=>dY hrg) ea (fun w=>zDa r hrg w),FB h.hN hd.p ea (by omega) (by omega) (ex.trans nT.symm),trivial⟩ (ai (bT hj1) RL.nil) (aZ.2 ⟨by rw [dJ,hd.b0,hev],aT.2 trivial⟩)) fun e w' hh=> ?_
 obtain ⟨p,hpm,hto,l,hl,j,he⟩:=hh;have aW:=he.sub _ _ hj1;have bC:=he.sub _ _ hj2;have dO:=bB aW;have dS:=bB bC;have hmv:=he.mv;have bU:=h.kA hmv;obtain ⟨g',hg0,hgm⟩:=xS he.fO;unfold znA at hpm;simp only [yac,yae,yav] at hpm;rcases hpm with rfl
 all_goals
  simp only [aZ,aT,jY,mV,dJ,gG,zag,hd.n,hd.nx,hd.b0,ex,iF,yap,yat,yaU] at hto;cases hl;have hO:=(he.rows.1 _ aW).2 (.inr (.inl rfl)) rfl;have hM:=he.maps.1 _ bC;cases hg0;simp only [AV.val,AV.aP,dO,dS,hd.n,hd.d,hd.v,hd.c,hd.nx,hd.us,hd.hd,hd.wr,hd.p,hd.sv,dW,zag,den_add,gG,iF,dJ,jO,hd.op,hd.b0,hd.b1,hd.b2,hd.b3,hd.b4,hd.b5,qK,hxl] at hO
 ·have e1:uG r g s=({ s with it:=x%2==0,tk:=mE s.hd s.tk }:SS).stop:=by unfold uG CW;rw [hev,yai (by decide),nT]
  rw [e1];exact ⟨he.ret,h.next hmv hgm ⟨_,_,hO,.idle rfl rfl,hsv.kept bU⟩ (h.aj.tk.del bU (by obtain ⟨arr,clock,dz,eZ,q1,q2,q3,q4⟩:=hM;refine ⟨arr,clock,dz,eZ,q1,q2,q3,fun k=> ?_⟩;have:=q4 k;simp only [vU,AV.val,hd.hd,Option.map,nV] at this;exact this)) h.aj.nx h.aj.us h.aj.hd h.aj.wr,hmv⟩
theorem Tryz.zwg {A:Nat→Prop} {w:World} {S P L Bs B M N:Nat} {r:Rg} {s:SS} {g:Nat→Int} (h:SW A w S P L Bs B M N r s g) (hb:s.br=false) (hp:s.ph=15) (hev:s.ev=true):
  Calls prog 28 #[.pointer (some ⟨S,0,none⟩)] w fun e w'=>e= .returned (.tuple #[dM 2 5 0,.int .i64 0])∧SW A w' S P L Bs B M N r (uG r g s) g∧Dw.Mv (sK S M B) w w':=by
 obtain ⟨nv,sv,ho,hn,hsv⟩:=h.aj.obj;have hrg:=h.aj.rg;have hbd:=hrg.bnd;have hf:=h.fit;have rE:=hrg.v0;have hrc:=hrg.c0;have hN:=h.hN;obtain ⟨hx0,hx1⟩:=Gv h.mem.byte (r.v+4+2*r.n).toNat;generalize nT:aC g (r.v+4+2*r.n).toNat 2=x at hx0 hx1;have hd:=mU h.aj (r.v+4+2*r.n) x (.pointer (some ⟨P,0,none⟩)) sv undef;have ea:(af 10).den (fw r s (r.v+4+2*r.n) x (.pointer (some ⟨P,0,none⟩)) sv undef)=(r.v+4+2*r.n):=iI (by show 0≤(r.v+4+2*r.n);omega) (by show (r.v+4+2*r.n)<_;omega);have ex:(aF 11).den (fw r s (r.v+4+2*r.n) x (.pointer (some ⟨P,0,none⟩)) sv undef)=x:=jC hx0 hx1;have gY:nv=qO S 119:=by
  rw [hp] at hn;cases hn with
  | idle h _=>cases h
  | gZ f h hv=>cases h;exact hv
  | fence f _ _ h=>cases h
 subst gY;have hj2:aJ [(S,0),(M,0)] 2=some ⟨M,0,0,none⟩:=rfl;have hj1:aJ [(S,0),(M,0)] 1=some ⟨S,0,0,none⟩:=rfl;refine yas (eD (ρ:=(fw r s (r.v+4+2*r.n) x (.pointer (some ⟨P,0,none⟩)) sv undef)) (K:=sK S M B) (g:=nU P L Bs B N [g]) (bl:= [(S,0),(M,0)]) (vals:= [.pointer (some ⟨S,0,none⟩)]) mixed zuE zwk h.iA
  ⟨gy ho (kW hd hb hsv.one hj2 (jP (ai (bT hj1) RL.nil) RL.nil)) (.inl rfl),nK h.aj (.inr (.inl rfl)),trivial⟩ h.apart (xI h.mem h.mine)
  ⟨xO (fun j=>dY hrg) ea (fun w=>zC2 r hrg w),FB h.hN hd.p ea (by omega) (by omega) (ex.trans nT.symm),trivial⟩ (ai (bT hj1) RL.nil) (aZ.2 ⟨by rw [dJ,hd.b0,hev],aT.2 trivial⟩)) fun e w' hh=> ?_
 obtain ⟨p,hpm,hto,l,hl,j,he⟩:=hh;have aW:=he.sub _ _ hj1;have bC:=he.sub _ _ hj2;have dO:=bB aW;have dS:=bB bC;have hmv:=he.mv;have bU:=h.kA hmv;obtain ⟨g',hg0,hgm⟩:=xS he.fO;unfold znC at hpm;simp only [yac,yae,yav] at hpm;rcases hpm with rfl
 all_goals
  simp only [aZ,aT,jY,mV,dJ,gG,zag,hd.n,hd.nx,hd.b0,ex,iF,yap,yat,yaU] at hto;cases hl;have hO:=(he.rows.1 _ aW).2 (.inr (.inl rfl)) rfl;have hM:=he.maps.1 _ bC;cases hg0;simp only [AV.val,AV.aP,dO,dS,hd.n,hd.d,hd.v,hd.c,hd.nx,hd.us,hd.hd,hd.wr,hd.p,hd.sv,dW,zag,den_add,gG,iF,dJ,jO,hd.op,hd.b0,hd.b1,hd.b2,hd.b3,hd.b4,hd.b5,gT,ex] at hO
 ·have e1:uG r g s=({ s with it:=decide (((s.us-x)%65536-1)%65536<(s.us-(s.us-1)%65536)%65536),tk:=mE s.hd s.tk }:SS).stop:=by
   unfold uG CW;rw [hev,yak rfl,nT,zEa h.aj.us]
  rw [e1];exact ⟨he.ret,h.next hmv hgm ⟨_,_,hO,.idle rfl rfl,hsv.kept bU⟩ (h.aj.tk.del bU (by obtain ⟨arr,clock,dz,eZ,q1,q2,q3,q4⟩:=hM;refine ⟨arr,clock,dz,eZ,q1,q2,q3,fun k=> ?_⟩;have:=q4 k;simp only [vU,AV.val,hd.hd,Option.map,nV] at this;exact this)) h.aj.nx h.aj.us h.aj.hd h.aj.wr,hmv⟩
theorem Tryz.zvK {A:Nat→Prop} {w:World} {S P L Bs B M N:Nat} {r:Rg} {s:SS} {g:Nat→Int} (h:SW A w S P L Bs B M N r s g) (hb:s.br=false) (hp:s.ph=3):
  Calls prog 28 #[.pointer (some ⟨S,0,none⟩)] w fun e w'=>e= .returned (.tuple #[dM 4 0 0,.int .i64 0])∧SW A w' S P L Bs B M N r (s.goto 4) g∧Dw.Mv (sK S M B) w w':=by
 obtain ⟨nv,sv,ho,hn,hsv⟩:=h.aj.obj;have hrg:=h.aj.rg;have hbd:=hrg.bnd;have hf:=h.fit;have rE:=hrg.v0;have hrc:=hrg.c0;have hN:=h.hN;have hd:=mU h.aj 0 0 (.pointer (some ⟨P,0,none⟩)) sv undef;rw [hp] at hn;cases hn with
 | idle h _=>cases h
 | gZ f h hv=>cases h
 | fence f X Y h0 hv hX hY aX aY=>
 cases h0;subst hv;have hj2:aJ [(S,0),(M,0),(X,0),(Y,0)] 2=some ⟨M,0,0,none⟩:=rfl;have hj1:aJ [(S,0),(M,0),(X,0),(Y,0)] 1=some ⟨S,0,0,none⟩:=rfl;have hj3:aJ [(S,0),(M,0),(X,0),(Y,0)] 3=some ⟨X,0,0,none⟩:=rfl;have uR:aJ [(S,0),(M,0),(X,0),(Y,0)] 4=some ⟨Y,0,0,none⟩:=rfl;have kX: ¬(X=S∨X=M):=fun hh=>aX (by rcases hh with rfl|rfl;exact h.aj.aS;exact h.aj.aM);have kY: ¬(Y=S∨Y=M):=fun hh=>aY (by rcases hh with rfl|rfl;exact h.aj.aS;exact h.aj.aM);refine yas (eD (ρ:=(fw r s 0 0 (.pointer (some ⟨P,0,none⟩)) sv undef)) (K:=fun b=>b=S∨b=M) (g:=aU.none) (bl:= [(S,0),(M,0),(X,0),(Y,0)]) (vals:= [.pointer (some ⟨S,0,none⟩)]) mixed zqN zuP (fun b hb=>h.iA b (hb.imp_right .inl))
  ⟨gy ho (kW hd hb hsv.one hj2 (jP RL.nil (ai (bT hj3) (ai (bT uR) RL.nil)))) (.inl rfl),nK h.aj (.inr rfl),yx hX (ai (jP (ai (bT hj1) RL.nil) RL.nil) RL.nil) kX,yx hY (ai (bT hj1) RL.nil) kY,trivial⟩ h.GD eH
  trivial (ai (bT hj1) RL.nil) (aT.2 trivial)) fun e w' hh=> ?_
 obtain ⟨p,hpm,hto,l,hl,j,he⟩:=hh;have aW:=he.sub _ _ hj1;have bC:=he.sub _ _ hj2;have dO:=bB aW;have dS:=bB bC;have hmw:=he.mv;have hmv:Dw.Mv (sK S M B) w w':=hmw.mono fun b hb=>hb.imp_right .inl;have bU:=h.kA hmv;have hgm:=h.mem.kept (fun k hk hk'=>hmw.block k hk (h.zq k hk')) hmv.size;unfold Z5 at hpm;simp only [yac,yae,yav] at hpm;rcases hpm with rfl
 all_goals
  simp only [aZ,aT,jY,mV,dJ,gG,zag,hd.n,hd.nx,hd.b0,iF,yap,yat,yaU] at hto;cases hl;have hO:=(he.rows.1 _ aW).2 (.inr (.inl rfl)) rfl;have hM:=he.maps.1 _ bC;simp only [AV.val,AV.aP,dO,dS,hd.n,hd.d,hd.v,hd.c,hd.nx,hd.us,hd.hd,hd.wr,hd.p,hd.sv,dW,zag,den_add,gG,iF,dJ,jO,hd.op,hd.b0,hd.b1,hd.b2,hd.b3,hd.b4,hd.b5] at hO
 ·exact ⟨he.ret,h.next hmv hgm ⟨_,_,hO,.gZ _ rfl rfl,hsv.kept bU⟩ (h.aj.tk.same bU hM) h.aj.nx h.aj.us h.aj.hd h.aj.wr,hmv⟩
theorem Tryz.zvJ {A:Nat→Prop} {w:World} {S P L Bs B M N:Nat} {r:Rg} {s:SS} {g:Nat→Int} (h:SW A w S P L Bs B M N r s g) (hb:s.br=false) (hp:s.ph=5):
  Calls prog 28 #[.pointer (some ⟨S,0,none⟩)] w fun e w'=>e= .returned (.tuple #[dM 4 0 0,.int .i64 0])∧SW A w' S P L Bs B M N r (s.goto 6) g∧Dw.Mv (sK S M B) w w':=by
 obtain ⟨nv,sv,ho,hn,hsv⟩:=h.aj.obj;have hrg:=h.aj.rg;have hbd:=hrg.bnd;have hf:=h.fit;have rE:=hrg.v0;have hrc:=hrg.c0;have hN:=h.hN;have hd:=mU h.aj 0 0 (.pointer (some ⟨P,0,none⟩)) sv undef;rw [hp] at hn;cases hn with
 | idle h _=>cases h
 | gZ f h hv=>cases h
 | fence f X Y h0 hv hX hY aX aY=>
 cases h0;subst hv;have hj2:aJ [(S,0),(M,0),(X,0),(Y,0)] 2=some ⟨M,0,0,none⟩:=rfl;have hj1:aJ [(S,0),(M,0),(X,0),(Y,0)] 1=some ⟨S,0,0,none⟩:=rfl;have hj3:aJ [(S,0),(M,0),(X,0),(Y,0)] 3=some ⟨X,0,0,none⟩:=rfl;have uR:aJ [(S,0),(M,0),(X,0),(Y,0)] 4=some ⟨Y,0,0,none⟩:=rfl;have kX: ¬(X=S∨X=M):=fun hh=>aX (by rcases hh with rfl|rfl;exact h.aj.aS;exact h.aj.aM);have kY: ¬(Y=S∨Y=M):=fun hh=>aY (by rcases hh with rfl|rfl;exact h.aj.aS;exact h.aj.aM);refine yas (eD (ρ:=(fw r s 0 0 (.pointer (some ⟨P,0,none⟩)) sv undef)) (K:=fun b=>b=S∨b=M) (g:=aU.none) (bl:= [(S,0),(M,0),(X,0),(Y,0)]) (vals:= [.pointer (some ⟨S,0,none⟩)]) mixed zqL zuO (fun b hb=>h.iA b (hb.imp_right .inl))
  ⟨gy ho (kW hd hb hsv.one hj2 (jP RL.nil (ai (bT hj3) (ai (bT uR) RL.nil)))) (.inl rfl),nK h.aj (.inr rfl),yx hX (ai (jP (ai (bT hj1) RL.nil) RL.nil) RL.nil) kX,yx hY (ai (bT hj1) RL.nil) kY,trivial⟩ h.GD eH
  trivial (ai (bT hj1) RL.nil) (aT.2 trivial)) fun e w' hh=> ?_
 obtain ⟨p,hpm,hto,l,hl,j,he⟩:=hh;have aW:=he.sub _ _ hj1;have bC:=he.sub _ _ hj2;have dO:=bB aW;have dS:=bB bC;have hmw:=he.mv;have hmv:Dw.Mv (sK S M B) w w':=hmw.mono fun b hb=>hb.imp_right .inl;have bU:=h.kA hmv;have hgm:=h.mem.kept (fun k hk hk'=>hmw.block k hk (h.zq k hk')) hmv.size;unfold Z0 at hpm;simp only [yac,yae,yav] at hpm;rcases hpm with rfl
 all_goals
  simp only [aZ,aT,jY,mV,dJ,gG,zag,hd.n,hd.nx,hd.b0,iF,yap,yat,yaU] at hto;cases hl;have hO:=(he.rows.1 _ aW).2 (.inr (.inl rfl)) rfl;have hM:=he.maps.1 _ bC;simp only [AV.val,AV.aP,dO,dS,hd.n,hd.d,hd.v,hd.c,hd.nx,hd.us,hd.hd,hd.wr,hd.p,hd.sv,dW,zag,den_add,gG,iF,dJ,jO,hd.op,hd.b0,hd.b1,hd.b2,hd.b3,hd.b4,hd.b5] at hO
 ·exact ⟨he.ret,h.next hmv hgm ⟨_,_,hO,.gZ _ rfl rfl,hsv.kept bU⟩ (h.aj.tk.same bU hM) h.aj.nx h.aj.us h.aj.hd h.aj.wr,hmv⟩
theorem Tryz.zrK {A:Nat→Prop} {w:World} {S P L Bs B M N:Nat} {r:Rg} {s:SS} {g:Nat→Int} (h:SW A w S P L Bs B M N r s g) (hb:s.br=false) (hp:s.ph=12):
  Calls prog 28 #[.pointer (some ⟨S,0,none⟩)] w fun e w'=>e= .returned (.tuple #[dM 4 0 0,.int .i64 0])∧SW A w' S P L Bs B M N r (s.goto 13) g∧Dw.Mv (sK S M B) w w':=by
 obtain ⟨nv,sv,ho,hn,hsv⟩:=h.aj.obj;have hrg:=h.aj.rg;have hbd:=hrg.bnd;have hf:=h.fit;have rE:=hrg.v0;have hrc:=hrg.c0;have hN:=h.hN;have hd:=mU h.aj 0 0 (.pointer (some ⟨P,0,none⟩)) sv undef;rw [hp] at hn;cases hn with
 | idle h _=>cases h
 | gZ f h hv=>cases h
 | fence f X Y h0 hv hX hY aX aY=>
 cases h0;subst hv;have hj2:aJ [(S,0),(M,0),(X,0),(Y,0)] 2=some ⟨M,0,0,none⟩:=rfl;have hj1:aJ [(S,0),(M,0),(X,0),(Y,0)] 1=some ⟨S,0,0,none⟩:=rfl;have hj3:aJ [(S,0),(M,0),(X,0),(Y,0)] 3=some ⟨X,0,0,none⟩:=rfl;have uR:aJ [(S,0),(M,0),(X,0),(Y,0)] 4=some ⟨Y,0,0,none⟩:=rfl;have kX: ¬(X=S∨X=M):=fun hh=>aX (by rcases hh with rfl|rfl;exact h.aj.aS;exact h.aj.aM);have kY: ¬(Y=S∨Y=M):=fun hh=>aY (by rcases hh with rfl|rfl;exact h.aj.aS;exact h.aj.aM);refine yas (eD (ρ:=(fw r s 0 0 (.pointer (some ⟨P,0,none⟩)) sv undef)) (K:=fun b=>b=S∨b=M) (g:=aU.none) (bl:= [(S,0),(M,0),(X,0),(Y,0)]) (vals:= [.pointer (some ⟨S,0,none⟩)]) mixed znV zqQ (fun b hb=>h.iA b (hb.imp_right .inl))
  ⟨gy ho (kW hd hb hsv.one hj2 (jP RL.nil (ai (bT hj3) (ai (bT uR) RL.nil)))) (.inl rfl),nK h.aj (.inr rfl),yx hX (ai (jP (ai (bT hj1) RL.nil) RL.nil) RL.nil) kX,yx hY (ai (bT hj1) RL.nil) kY,trivial⟩ h.GD eH
  trivial (ai (bT hj1) RL.nil) (aT.2 trivial)) fun e w' hh=> ?_
 obtain ⟨p,hpm,hto,l,hl,j,he⟩:=hh;have aW:=he.sub _ _ hj1;have bC:=he.sub _ _ hj2;have dO:=bB aW;have dS:=bB bC;have hmw:=he.mv;have hmv:Dw.Mv (sK S M B) w w':=hmw.mono fun b hb=>hb.imp_right .inl;have bU:=h.kA hmv;have hgm:=h.mem.kept (fun k hk hk'=>hmw.block k hk (h.zq k hk')) hmv.size;unfold XO at hpm;simp only [yac,yae,yav] at hpm;rcases hpm with rfl
 all_goals
  simp only [aZ,aT,jY,mV,dJ,gG,zag,hd.n,hd.nx,hd.b0,iF,yap,yat,yaU] at hto;cases hl;have hO:=(he.rows.1 _ aW).2 (.inr (.inl rfl)) rfl;have hM:=he.maps.1 _ bC;simp only [AV.val,AV.aP,dO,dS,hd.n,hd.d,hd.v,hd.c,hd.nx,hd.us,hd.hd,hd.wr,hd.p,hd.sv,dW,zag,den_add,gG,iF,dJ,jO,hd.op,hd.b0,hd.b1,hd.b2,hd.b3,hd.b4,hd.b5] at hO
 ·exact ⟨he.ret,h.next hmv hgm ⟨_,_,hO,.gZ _ rfl rfl,hsv.kept bU⟩ (h.aj.tk.same bU hM) h.aj.nx h.aj.us h.aj.hd h.aj.wr,hmv⟩
theorem Tryz.zrJ {A:Nat→Prop} {w:World} {S P L Bs B M N:Nat} {r:Rg} {s:SS} {g:Nat→Int} (h:SW A w S P L Bs B M N r s g) (hb:s.br=false) (hp:s.ph=14):
  Calls prog 28 #[.pointer (some ⟨S,0,none⟩)] w fun e w'=>e= .returned (.tuple #[dM 4 0 0,.int .i64 0])∧SW A w' S P L Bs B M N r (s.goto 15) g∧Dw.Mv (sK S M B) w w':=by
 obtain ⟨nv,sv,ho,hn,hsv⟩:=h.aj.obj;have hrg:=h.aj.rg;have hbd:=hrg.bnd;have hf:=h.fit;have rE:=hrg.v0;have hrc:=hrg.c0;have hN:=h.hN;have hd:=mU h.aj 0 0 (.pointer (some ⟨P,0,none⟩)) sv undef;rw [hp] at hn;cases hn with
 | idle h _=>cases h
 | gZ f h hv=>cases h
 | fence f X Y h0 hv hX hY aX aY=>
 cases h0;subst hv;have hj2:aJ [(S,0),(M,0),(X,0),(Y,0)] 2=some ⟨M,0,0,none⟩:=rfl;have hj1:aJ [(S,0),(M,0),(X,0),(Y,0)] 1=some ⟨S,0,0,none⟩:=rfl;have hj3:aJ [(S,0),(M,0),(X,0),(Y,0)] 3=some ⟨X,0,0,none⟩:=rfl;have uR:aJ [(S,0),(M,0),(X,0),(Y,0)] 4=some ⟨Y,0,0,none⟩:=rfl;have kX: ¬(X=S∨X=M):=fun hh=>aX (by rcases hh with rfl|rfl;exact h.aj.aS;exact h.aj.aM);have kY: ¬(Y=S∨Y=M):=fun hh=>aY (by rcases hh with rfl|rfl;exact h.aj.aS;exact h.aj.aM);refine yas (eD (ρ:=(fw r s 0 0 (.pointer (some ⟨P,0,none⟩)) sv undef)) (K:=fun b=>b=S∨b=M) (g:=aU.none) (bl:= [(S,0),(M,0),(X,0),(Y,0)]) (vals:= [.pointer (some ⟨S,0,none⟩)]) mixed znT zqP (fun b hb=>h.iA b (hb.imp_right .inl))
  ⟨gy ho (kW hd hb hsv.one hj2 (jP RL.nil (ai (bT hj3) (ai (bT uR) RL.nil)))) (.inl rfl),nK h.aj (.inr rfl),yx hX (ai (jP (ai (bT hj1) RL.nil) RL.nil) RL.nil) kX,yx hY (ai (bT hj1) RL.nil) kY,trivial⟩ h.GD eH
  trivial (ai (bT hj1) RL.nil) (aT.2 trivial)) fun e w' hh=> ?_
 obtain ⟨p,hpm,hto,l,hl,j,he⟩:=hh;have aW:=he.sub _ _ hj1;have bC:=he.sub _ _ hj2;have dO:=bB aW;have dS:=bB bC;have hmw:=he.mv;have hmv:Dw.Mv (sK S M B) w w':=hmw.mono fun b hb=>hb.imp_right .inl;have bU:=h.kA hmv;have hgm:=h.mem.kept (fun k hk hk'=>hmw.block k hk (h.zq k hk')) hmv.size;unfold XL at hpm;simp only [yac,yae,yav] at hpm;rcases hpm with rfl
 all_goals
  simp only [aZ,aT,jY,mV,dJ,gG,zag,hd.n,hd.nx,hd.b0,iF,yap,yat,yaU] at hto;cases hl;have hO:=(he.rows.1 _ aW).2 (.inr (.inl rfl)) rfl;have hM:=he.maps.1 _ bC;simp only [AV.val,AV.aP,dO,dS,hd.n,hd.d,hd.v,hd.c,hd.nx,hd.us,hd.hd,hd.wr,hd.p,hd.sv,dW,zag,den_add,gG,iF,dJ,jO,hd.op,hd.b0,hd.b1,hd.b2,hd.b3,hd.b4,hd.b5] at hO
 ·exact ⟨he.ret,h.next hmv hgm ⟨_,_,hO,.gZ _ rfl rfl,hsv.kept bU⟩ (h.aj.tk.same bU hM) h.aj.nx h.aj.us h.aj.hd h.aj.wr,hmv⟩
theorem Tryz.zwe (a m:Int) (hm:0<m):((if a.tmod m<0 then a.tmod m+m else a.tmod m)=a%m)∧ -m<a.tmod m∧a.tmod m<m:=by
 rw [Int.tmod_eq_emod];have h1:=ybo a (Int.ne_of_gt hm);have h2:=ybg a hm;have h3:((m.natAbs:Nat):Int)=m:=Int.natAbs_of_nonneg (Int.le_of_lt hm);by_cases h:0≤a∨m ∣ a
 ·rw [yak h];simp only [Int.sub_zero,Int.ofNat_zero];refine ⟨?_,?_,?_⟩<;>first|omega|(split<;>omega)
 ·rw [yai h,h3];have h4:a%m≠0:=fun h0=>h (.inr (Int.dvd_of_emod_eq_zero h0));refine ⟨?_,?_,?_⟩<;>first|omega|(split<;>omega)
set_option maxRecDepth 100000 in
theorem Tryz.Cf (a m:Int) (hm:1≤m∧m≤1000000) (w:World):
  Calls prog 7 #[.int .i64 a,.int .i64 m] w fun e w'=>e= .returned (.int .i64 (a%m))∧w'=w:=by
 obtain ⟨hr,hlo,hhi⟩:=zwe a m (by omega);have hq:IntKind.i64.wrap (a.tmod m)=a.tmod m:=gV (by omega) (by omega);have hm0:m≠0:=by omega
 have hm1: ¬m<1:=by omega
 by_cases h0:a.tmod m<0
 ·rw [yak h0] at hr;have hq2:IntKind.i64.wrap (a.tmod m+m)=a.tmod m+m:=gV (by omega) (by omega);rw [←hr];go_enter func7,ntmps7;go_wp2;go_ret;exact ⟨rfl,rfl⟩
 ·rw [yai h0] at hr;rw [←hr];go_enter func7,ntmps7;go_wp2;go_ret;exact ⟨rfl,rfl⟩
end Go.Proofs
namespace Go.Dw
open Go.RowKit
structure mH where
 test:SB
 ex:Ex
 slots:List (Nat×AV)
 gs:Nat
structure cB where
 p:List Nat
 n:Nat
 gs:Nat
 slots:List (Nat×AV)
 keep:List Nat
 rows:List (Nat×List AV)
 base:Nat
 fZ:Nat
 ends:List mH
def AU (env:T AV) (t:Nat):AV:=
 match env.get t with
 | some v=>v
 | none=>jN
def lC:Nat→T AV→T AV
 | 0,t=>t
 | n+1,t=>lC n (t.set n .junk)
def Ao (env:T AV):List Nat→T AV→T AV
 | [], t=>t
 | i::l,t=>Ao env l (t.set i (AU env i))
def nX:List (Nat×AV)→T AV→T AV
 | [], t=>t
 | p::l,t=>nX l (t.set p.1 p.2)
def Ls:List Nat→List Nat→Bool
 | [], [] => true
 | a::l,b::m=>match Nat.beq a b with|true=>Ls l m|false=>false
 | _,_=>false
def zxR:AV→Bool
 | .junk=>false
 | _=>true
def Kq (N:Nat) (env:T AV):List (Nat×AV)→Bool
 | [] => true
 | p::l=>match Nat.blt p.1 N,AV.beq (AU env p.1) p.2,zxR p.2 with|true,true,true=>Kq N env l|_,_,_=>false
def fI (N:Nat):List (Nat×AV)→Bool
 | [] => true
 | p::l=>match Nat.blt p.1 N with|true=>fI N l|false=>false
def LA (N:Nat):List Nat→Bool
 | [] => true
 | p::l=>match Nat.blt p N with|true=>LA N l|false=>false
def Ll (N:Nat):List mH→Bool
 | [] => true
 | e::l=>match fI N e.slots with|true=>Ll N l|false=>false
def cB.fits (e:cB) (p:List Nat) (N:Nat) (env:T AV) (H:Heap):Bool:=
 match Ls p e.p,Nat.beq N e.n with
 | false,_=>false
 | true,false=>false
 | true,true=>match Kq N env e.slots,LA N e.keep,Ll N e.ends,Nat.beq H.gs e.gs with
  | true,true,true,true=>(match env.get bS,Nat.ble N bS,pE H e.rows with
   | none,true,true=>(match e.fZ with
    | 0=>true
    | _+1=>Nat.beq H.nx e.base)
   | _,_,_=>false)
  | _,_,_,_=>false
def cB.ent (e:cB) (d:mH):aK:=⟨0,[],e.gs,e.base,e.fZ,jN,d.gs⟩
def cB.env (e:cB) (d:mH) (N:Nat) (env:T AV):T AV:=nX d.slots (Ao env e.keep (lC N .leaf))
def cB.ans (e:cB) (N:Nat) (env:T AV) (H:Heap):List mH→Gz
 | [] => []
 | d::l=>(d.test,d.ex,e.env d N env,(e.ent d).heap H)::e.ans N env H l
def RP:List cB→pR
 | [], _,_,_,_=>none
 | e::l,p,N,env,H=>match e.fits p N env H with
  | true=>some (e.ans N env H e.ends)
  | false=>RP l p N env H
def fB (l:List cB):pR:=fun p N env H=>
 match p with
 | 2::_=>none
 | p=>RP l p N env H
def yA (ρ:Val) (l:List mH):Option mH:=vW ρ (l.map fun d=>(d.test,d))
def CV (P:Program) (ρ:Val) (w0:World) (K:Nat→Prop) (g:aU) (e:cB):Prop:=
 ∀ c,bf P e.p=c→ ∀(j:J) (a:Act) (w:World) (F:Nat→Prop) (n:Nat),a.tmps.size=e.n→a.defers= []→(∀s∈e.slots,s.1<e.n∧R ρ j s.2 (a.tmps.getD s.1 undef))→(∀r∈e.rows,∀L,j r.1=some L→ ¬F L.blk∧ ∃vals,RL ρ j r.2 vals∧Row w L vals)→
  (∀ k,n≤k→j k=none)→(e.fZ≠0→n=e.base)→(∀b,F b→b<w.heap.size)→w0.heap.size≤w.heap.size→g.fact e.gs (gQ j) F w→(∀i,i<w0.heap.size→ ¬K i→w.heap[i]? =w0.heap[i]?)→
  c.wp P (fun ex a' w'=> ∃d qs F',yA ρ e.ends=some d∧ex=sW d.ex∧a'.tmps.size=e.n∧a'.defers= []∧(∀t∈e.keep,a'.tmps.getD t undef=a.tmps.getD t undef)∧qs.length=e.fZ∧
   (∀ s∈d.slots,R ρ (jq j n qs) s.2 (a'.tmps.getD s.1 undef))∧g.fact d.gs (gQ (jq j n qs)) F' w'∧(∀b,F' b→b<w'.heap.size∧(F b∨w.heap.size≤b))∧Mv (fun b=>F b∧(w0.heap.size≤b∨K b)) w w') a w
def VH (P:Program) (ρ:Val) (w0:World) (K:Nat→Prop) (g:aU) (e:cB):Prop:=
  ∀ c,bf P e.p= .loop c→ ∀(j:J) (a:Act) (w:World) (F:Nat→Prop) (n:Nat),a.tmps.size=e.n→a.defers= []→(∀s∈e.slots,s.1<e.n∧R ρ j s.2 (a.tmps.getD s.1 undef))→(∀r∈e.rows,∀L,j r.1=some L→ ¬F L.blk∧ ∃vals,RL ρ j r.2 vals∧Row w L vals)→
    (∀ k,n≤k→j k=none)→(e.fZ≠0→n=e.base)→(∀b,F b→b<w.heap.size)→w0.heap.size≤w.heap.size→g.fact e.gs (gQ j) F w→(∀i,i<w0.heap.size→ ¬K i→w.heap[i]? =w0.heap[i]?)→
    (Code.loop c).wp P (fun ex a' w'=> ∃d qs F',yA ρ e.ends=some d∧ex=sW d.ex∧a'.tmps.size=e.n∧a'.defers= []∧(∀t∈e.keep,a'.tmps.getD t undef=a.tmps.getD t undef)∧qs.length=e.fZ∧
      (∀ s∈d.slots,R ρ (jq j n qs) s.2 (a'.tmps.getD s.1 undef))∧g.fact d.gs (gQ (jq j n qs)) F' w'∧(∀b,F' b→b<w'.heap.size∧(F b∨w.heap.size≤b))∧Mv (fun b=>F b∧(w0.heap.size≤b∨K b)) w w') a w
def CF (P:Program) (ρ:Val) (w0:World) (K:Nat→Prop) (g:aU):List cB→Prop
 | [] => True
 | e::l=>CV P ρ w0 K g e∧CF P ρ w0 K g l
def fV:List (Nat×AV)→Bool
 | [] => true
 | s::l=>match s.2.small with|true=>fV l|false=>false
def BX:List mH→Bool
 | [] => true
 | d::l=>match d.test.small,fV d.slots with|true,true=>BX l|_,_=>false
def Kb:List (Nat×List AV)→Bool
 | [] => true
 | r::l=>match AV.bQ r.2 with|true=>Kb l|false=>false
theorem WT: ∀ {l:List (Nat×List AV)},Kb l=true→ ∀s∈l,AV.bQ s.2=true
 | [], _,s,h=>by cases h
 | p::l,hl,s,h=>by
  unfold Kb at hl;split at hl
  ·rename_i hb;rcases yac.1 h with rfl|h
   ·exact hb
   ·exact WT hl s h
  ·cases hl
def fK:List cB→Bool
 | [] => true
 | e::l=>match fV e.slots,BX e.ends,Kb e.rows with|true,true,true=>fK l|_,_,_=>false
theorem EK: ∀(n:Nat) (t0:T AV) (t:Nat),dK (lC n t0) t=if t<n then .junk else dK t0 t
 | 0,t0,t=>by rw [yai (by omega)];rfl
 | n+1,t0,t=>by
  unfold lC;rw [EK n,qE];by_cases h:t<n
  ·rw [yak h,yak (by omega)]
  ·rw [yai h];by_cases h2:t=n
   ·rw [yak h2,yak (by omega)]
   ·rw [yai h2,yai (by omega)]
theorem Rn (env:T AV) (t:Nat):AU env t=dK env t:=rfl
theorem Px {env:T AV}: ∀(l:List Nat) (t0:T AV) (t:Nat),(t∈l∧dK (Ao env l t0) t=dK env t)∨dK (Ao env l t0) t=dK t0 t
 | [], t0,t=> .inr rfl
 | i::l,t0,t=>by
  unfold Ao;rcases Px (env:=env) l (t0.set i (AU env i)) t with ⟨h1,h2⟩|h
  ·exact .inl ⟨yaB _ h1,h2⟩
  ·rw [h,qE];by_cases hi:t=i
   ·rw [yak hi,Rn,hi];exact .inl ⟨yaG ..,rfl⟩
   ·rw [yai hi];exact .inr rfl
theorem EH: ∀(l:List (Nat×AV)) (t0:T AV) (t:Nat),(∃v,(t,v)∈l∧dK (nX l t0) t=v)∨dK (nX l t0) t=dK t0 t
 | [], t0,t=> .inr rfl
 | p::l,t0,t=>by
  unfold nX;rcases EH l (t0.set p.1 p.2) t with ⟨v,h1,h2⟩|h
  ·exact .inl ⟨v,yaB _ h1,h2⟩
  ·rw [h,qE];by_cases hi:t=p.1
   ·rw [yak hi];exact .inl ⟨p.2,by rw [hi];exact yaG ..,rfl⟩
   ·rw [yai hi];exact .inr rfl
theorem PN {N:Nat}: ∀ {l:List (Nat×AV)},fI N l=true→ ∀s∈l,s.1<N
 | [], _,s,h=>by cases h
 | p::l,hl,s,h=>by
  unfold fI at hl;split at hl
  ·rename_i hb;rcases yac.1 h with rfl|h
   ·rwa [yaE] at hb
   ·exact PN hl s h
  ·cases hl
theorem ZP {N:Nat}: ∀ {l:List Nat},LA N l=true→ ∀s∈l,s<N
 | [], _,s,h=>by cases h
 | p::l,hl,s,h=>by
  unfold LA at hl;split at hl
  ·rename_i hb;rcases yac.1 h with rfl|h
   ·rwa [yaE] at hb
   ·exact ZP hl s h
  ·cases hl
theorem zmd {N:Nat}: ∀ {l:List mH},Ll N l=true→ ∀d∈l,fI N d.slots=true
 | [], _,s,h=>by cases h
 | p::l,hl,s,h=>by
  unfold Ll at hl;split at hl
  ·rename_i hb;rcases yac.1 h with rfl|h
   ·exact hb
   ·exact zmd hl s h
  ·cases hl
theorem XA {N:Nat} {env:T AV}: ∀ {l:List (Nat×AV)},Kq N env l=true→ ∀s∈l,s.1<N∧dK env s.1=s.2∧s.2≠ .junk
 | [], _,s,h=>by cases h
 | p::l,hl,s,h=>by
  unfold Kq at hl;split at hl
  ·rename_i hb hv hj;rcases yac.1 h with rfl|h
   ·exact ⟨by rwa [yaE] at hb,by rw [←Rn];exact AV.beq_eq hv,fun e=>by rw [e] at hj;cases hj⟩
   ·exact XA hl s h
  ·cases hl
theorem zo2: ∀ {l m:List Nat},Ls l m=true→l=m
 | [], [], _=>rfl
 | a::l,b::m,h=>by
  unfold Ls at h;split at h
  ·rename_i hb;rw [bK hb,zo2 h]
  ·cases h
 | [], _::_,h=>by cases h
 | _::_,[],h=>by cases h
theorem EB: ∀ {l:List (Nat×AV)},fV l=true→ ∀s∈l,s.2.small=true
 | [], _,s,h=>by cases h
 | p::l,hl,s,h=>by
  unfold fV at hl;split at hl
  ·rename_i hb;rcases yac.1 h with rfl|h
   ·exact hb
   ·exact EB hl s h
  ·cases hl
theorem PD: ∀ {l:List mH},BX l=true→ ∀d∈l,d.test.small=true∧fV d.slots=true
 | [], _,s,h=>by cases h
 | p::l,hl,s,h=>by
  unfold BX at hl;split at hl
  ·rename_i hb hc;rcases yac.1 h with rfl|h
   ·exact ⟨hb,hc⟩
   ·exact PD hl s h
  ·cases hl
theorem ZM {ρ:Val} {α:Type} (e:SB×α) (l:List (SB×α)):vW ρ (e::l)=if e.1.den ρ=true then some e.2 else vW ρ l:=by
 obtain ⟨b,x⟩:=e;show (match b with| .lit true=>some x|b=>if b.den ρ=true then some x else vW ρ l)=_;split
 ·rfl
 ·rfl
theorem EM {ρ:Val} (e:mH) (l:List mH):yA ρ (e::l)=if e.test.den ρ=true then some e else yA ρ l:=ZM _ _
theorem Qz {ρ:Val}: ∀ {l:List mH} {d:mH},yA ρ l=some d→d∈l
 | [], d,h=>by cases h
 | e::l,d,h=>by
  rw [EM] at h;split at h
  ·cases h;exact yaG ..
  ·exact yaB _ (Qz h)
theorem zoZ {ρ:Val} {m:Nat→Bool} {e:cB} {N:Nat} {env:T AV} {H:Heap}: ∀ {l:List mH} {d:mH},BX l=true→yA ρ l=some d→vW (ρ.mark m) (e.ans N env H l)=some (d.ex,e.env d N env,(e.ent d).heap H)
 | [], d,_,h=>by cases h
 | e0::l,d,hs,h=>by
  have hs0:=(PD hs e0 (yaG ..)).1;unfold BX at hs;split at hs
  case h_2=>cases hs
  rw [EM] at h;unfold cB.ans;rw [ZM];simp only [SB.jT ρ m _ hs0];split at h
  ·rename_i ht;cases h;rw [yak ht]
  ·rename_i ht;rw [yai ht];exact zoZ hs h
theorem JO {P:Program} {ρ:Val} {w0:World} {K:Nat→Prop} {g:aU} (m:Nat→Bool) {l:List cB} (hs:fK l=true) (h:CF P ρ w0 K g l):Gh P (ρ.mark m) (gW w0 K g) (fB l):=by
 refine ⟨fun _ _ _ _=>rfl,fun p N env H r c hc hr j a w hi he=> ?_⟩;unfold fB at hr;split at hr
 ·cases hr
 induction l with
 | nil=>cases hr
 | cons e l ih=>
  unfold fK at hs;split at hs
  case h_2=>cases hs
  rename_i h1 h2 h3;unfold RP at hr;split at hr
  case h_2=>exact ih hs h.2 hr
  rename_i hf;cases hr;unfold cB.fits at hf;split at hf
  ·cases hf
  ·cases hf
  rename_i hp hN;have hp:=zo2 hp;have hN:=bK hN;subst hp hN;split at hf
  case h_2=>cases hf
  rename_i f1 f2 f3 f4;split at hf
  case h_2=>cases hf
  rename_i f5 f6 f7;have f4:=bK f4;have f6:=yal f6;have hdf:a.defers= []:=he.dF.none (by unfold dK;rw [f5]);have hG:=hi.fO;rw [f4] at hG;obtain ⟨F,g1,g2⟩:=hG;have hnone: ∀k,H.nx≤k→j k= .none:=fun k hk=>by
   cases hjk:j k with
   | none=>rfl
   | some L=>have:=hi.dom k L hjk;omega
  have hbase:e.fZ≠0→H.nx=e.base:=fun hn=>by
   split at hf
   ·rename_i h0;exact absurd h0 hn
   ·exact bK hf
  have hss:=EB h1;have hsl: ∀s∈e.slots,s.1<e.n∧R ρ j s.2 (a.tmps.getD s.1 undef):=fun s hs'=>by
   obtain ⟨q1,q2,q3⟩:=XA f1 s hs';refine ⟨q1,?_⟩;have:=he.get s.1 (by omega);rw [q2] at this;exact (lX m (hss s hs')).1 (this.resolve_left q3)
  have hrw: ∀r∈e.rows,∀L,j r.1=some L→ ¬F L.blk∧ ∃vals,RL ρ j r.2 vals∧Row w L vals:=fun r hr L hL=>by
   have jK:=zK f7 hr;obtain ⟨vals,arr,e',fr,q1,q2,q3,_⟩:=hi.IB hL jK;refine ⟨fun hF=> ?_,vals,(iV m (WT h3 r hr)).1 q2,arr,e',fr,q1,q3⟩;obtain ⟨_,_,_,_,_,_,h5,_⟩:=Ce jK;exact (g1 _ hF).2 ⟨r.1,L,hL,hi.lJ hL h5,rfl⟩
  refine ya3 (h.1 c hc j a w F H.nx he.size hdf hsl hrw hnone hbase (fun b hF=>(g1 b hF).1) hi.fr.size g2 hi.fr.old) fun ex a' w' hh=> ?_;obtain ⟨d,qs,F',e1,e2,e3,e4,e5,e6,e7,e8,e9,e10⟩:=hh;have hd:=Qz e1;have hns:(gW w0 K g).G (e.ent d).gs' (jq j H.nx qs) w':=⟨F',fun b hF'=>⟨(e9 b hF').1,fun hm=>by
   have hm:=KS hnone hm;rcases (e9 b hF').2 with hF|hF
   ·exact (g1 b hF).2 hm
   ·obtain ⟨k,L,k1,k2,k3⟩:=hm;have:=hi.blk k L k1 k2;omega⟩,e8⟩
  obtain ⟨i1,i2⟩:=Inv.ent (e:=e.ent d) hi f4 e6 hns (e10.mono fun b hb=>⟨(g1 b hb.1).2,hb.2⟩);refine ⟨d.ex,e.env d e.n env,(e.ent d).heap H,jq j H.nx qs,zoZ h2 e1,e2,⟨e3,f6,fun t ht=> ?_,?_⟩,i1,i2⟩
  ·unfold cB.env;have hds:=(PD h2 d hd).2;rcases EH d.slots (Ao env e.keep (lC e.n .leaf)) t with ⟨v,q1,q2⟩|q
   ·rw [q2];exact .inr ((lX m (EB hds _ q1)).2 (e7 _ q1))
   ·rw [q];rcases Px (env:=env) e.keep (lC e.n .leaf) t with ⟨q1,q2⟩|q
    ·rw [q2,e5 t q1];exact (he.get t ht).imp_right (·.mono i2.sub)
    ·rw [q,EK];by_cases hN:t<e.n
     ·rw [yak hN];exact .inl rfl
     ·rw [yai hN,yaA,ya8 (by omega)];exact .inr rY
  ·rw [e4];show DR (ρ.mark m) _ (dK (e.env d e.n env) bS) [];have:dK (e.env d e.n env) bS=jN:=by
    unfold cB.env;rcases EH d.slots (Ao env e.keep (lC e.n .leaf)) bS with ⟨v,q1,_⟩|q
    ·have:=PN (zmd f3 d hd) _ q1;simp only at this;omega
    ·rw [q];rcases Px (env:=env) e.keep (lC e.n .leaf) bS with ⟨q1,_⟩|q
     ·have:=ZP f2 _ q1;omega
     ·rw [q,EK,yai (by omega)];rfl
   rw [this];rfl
theorem zpi {P:Program} {ρ:Val} {w0:World} {K:Nat→Prop} {g:aU} {e:cB} (hn:e.fZ=0) (hg: ∀d∈e.ends,d.gs=e.gs)
    (h: ∀c,bf P e.p= .loop c→ ∀(j:J) (a:Act) (w:World) (F:Nat→Prop),a.tmps.size=e.n→a.defers= []→(∀s∈e.slots,s.1<e.n∧R ρ j s.2 (a.tmps.getD s.1 undef))→(∀r∈e.rows,∀L,j r.1=some L→ ¬F L.blk∧ ∃vals,RL ρ j r.2 vals∧Row w L vals)→g.fact e.gs (gQ j) F w→w0.heap.size≤w.heap.size→(∀i,i<w0.heap.size→ ¬K i→w.heap[i]? =w0.heap[i]?)→
      (Code.loop c).wp P (fun ex a' w'=> ∃d,yA ρ e.ends=some d∧ex=sW d.ex∧a'.tmps.size=e.n∧a'.defers= []∧(∀t∈e.keep,a'.tmps.getD t undef=a.tmps.getD t undef)∧(∀s∈d.slots,R ρ j s.2 (a'.tmps.getD s.1 undef))∧Below w.heap.size w w') a w):VH P ρ w0 K g e:=by
  intro c hc j a w F n h1 h2 h3 h4 _ _ hF hsz hf hold;refine ya3 (h c hc j a w F h1 h2 h3 h4 hf hsz hold) fun ex a' w' hh=> ?_;obtain ⟨d,e1,e2,e3,e4,e5,e6,e7⟩:=hh;refine ⟨d,[],F,e1,e2,e3,e4,e5,by rw [hn];rfl,fun s hs=>by rw [CG];exact e6 s hs,?_,fun b hb=>⟨yad (hF b hb) e7.size,.inl hb⟩,Mv.of_below e7⟩;rw [CG,hg d (Qz e1)];exact g.loc _ _ _ _ _ _ hf (fun _ _ h=>h) (fun b hb=>e7.block b (hF b hb)) e7.size
structure dU where
 t:TypeId
 s:AV
 n:Nat
 xs:List AV
 gs:Nat
 base:Nat
 fZ:Nat
 res:AV
 gs':Nat
def dU.ent (e:dU):aK:=⟨0,[],e.gs,e.base,e.fZ,e.res,e.gs'⟩
def dU.fits (e:dU) (t:TypeId) (s:AV) (n:Nat) (xs:List AV) (H:Heap):Bool:=
 match Nat.beq t e.t,AV.beq s e.s,Nat.beq n e.n,Nat.beq H.gs e.gs with
 | true,true,true,true=>(match AV.pV xs e.xs with
  | true=>(match e.fZ with
   | 0=>true
   | _+1=>Nat.beq H.nx e.base)
  | false=>false)
 | _,_,_,_=>false
def eY:List dU→vY
 | [], _,_,_,_,_=>none
 | e::l,t,s,n,xs,H=>match e.fits t s n xs H with
  | true=>some (e.res,e.ent.heap H)
  | false=>eY l t s n xs H
def O4 (P:Program) (ρ:Val) (w0:World) (K:Nat→Prop) (g:aU) (e:dU):Prop:=
 ∀ (j:J) (w:World) (F:Nat→Prop) (n:Nat) (us:Value) (bb o cap:Nat) (vals:List Value) (ty:TypeId),R ρ j e.s us→zzE w bb o vals→RL ρ j e.xs vals→(∀k,n≤k→j k=none)→(e.fZ≠0→n=e.base)→(∀b,F b→b<w.heap.size)→w0.heap.size≤w.heap.size→g.fact e.gs (gQ j) F w→
  ∃ u w' qs F',(Builtin.append_ #[e.t,e.t] ty #[us,.slice (some ⟨bb,o,none⟩) e.n cap]).run P w= .ok u w'∧qs.length=e.fZ∧R ρ (jq j n qs) e.res u∧g.fact e.gs' (gQ (jq j n qs)) F' w'∧(∀b,F' b→b<w'.heap.size∧(F b∨w.heap.size≤b))∧Mv (fun b=>F b∧(w0.heap.size≤b∨K b)) w w'
def CP (P:Program) (ρ:Val) (w0:World) (K:Nat→Prop) (g:aU):List dU→Prop
 | [] => True
 | e::l=>O4 P ρ w0 K g e∧CP P ρ w0 K g l
def fM:List dU→Bool
 | [] => true
 | e::l=>match e.s.small,AV.bQ e.xs,e.res.small with|true,true,true=>fM l|_,_,_=>false
theorem J3 {P:Program} {ρ:Val} {w0:World} {K:Nat→Prop} {g:aU} (m:Nat→Bool) {l:List dU} (hs:fM l=true) (h:CP P ρ w0 K g l):LP P (ρ.mark m) (gW w0 K g) (eY l):=by
 intro t s n xs H r hr k hk j w us bb o cap vals ty hi fD hv hxs
 induction l with
 | nil=>cases hr
 | cons e l ih=>
  unfold fM at hs;split at hs
  case h_2=>cases hs
  rename_i h1 h2 h3;unfold eY at hr;split at hr
  case h_2=>exact ih hs h.2 hr
  rename_i hf;cases hr;unfold dU.fits at hf;split at hf
  case h_2=>cases hf
  rename_i f1 f2 f3 f4;split at hf
  case h_2=>cases hf
  rename_i f5;have f1:=bK f1;have f2:=AV.beq_eq f2;have f3:=bK f3;have f4:=bK f4;have f5:=AV.sQ f5;subst f1 f2 f3 f5;have hG:=hi.fO;rw [f4] at hG;obtain ⟨F,g1,g2⟩:=hG;have hnone: ∀k,H.nx≤k→j k= .none:=fun k hk=>by
   cases hjk:j k with
   | none=>rfl
   | some L=>have:=hi.dom k L hjk;omega
  have hbase:e.fZ≠0→H.nx=e.base:=fun hn=>by
   split at hf
   ·rename_i h0;exact absurd h0 hn
   ·exact bK hf
  obtain ⟨u,w',qs,F',e1,e2,e3,e4,e5,e6⟩:=h.1 j w F H.nx us bb o cap vals ty ((lX m h1).1 fD) hv ((iV m h2).1 hxs) hnone hbase (fun b hF=>(g1 b hF).1) hi.fr.size g2;have hns:(gW w0 K g).G e.ent.gs' (jq j H.nx qs) w':=⟨F',fun b hF'=>⟨(e5 b hF').1,fun hm=>by
   have hm:=KS hnone hm;rcases (e5 b hF').2 with hF|hF
   ·exact (g1 b hF).2 hm
   ·obtain ⟨k,L,k1,k2,k3⟩:=hm;have:=hi.blk k L k1 k2;omega⟩,e4⟩
  obtain ⟨i1,i2⟩:=Inv.ent (e:=e.ent) hi f4 e2 hns (e6.mono fun b hb=>⟨(g1 b hb.1).2,hb.2⟩);exact ⟨u,w',e1,e.res,e.ent.heap H,jq j H.nx qs,(lX m h3).2 e3,i1,i2,hk⟩
theorem zo3 {P:Program} (hmo:P.follows .mixedOrders=true) {gH:FuncId→List AV→Heap→Option (List (AV×Heap))} {jc:pR} {mZ:vY} {x:Cx} {ρ:Val} {w:World} {n:Nat} {f:FuncId} {args:List AV} {vals:List Value} {H:Heap} {j:J} {ls:List Leaf} {asm:List (SB×Bool)} {ps:List (List (SB×Bool)×Nat)}
  (hor: ∀m,nN P (ρ.mark m) x gH) (hlo: ∀m,Gh P (ρ.mark m) x jc) (hao: ∀m,LP P (ρ.mark m) x mZ) (hi: ∀m,Inv (ρ.mark m) x j H w) (ha: ∀m,RL (ρ.mark m) j args vals) (ht:Told ρ asm)
  (h:(eU P gH jc mZ n (.call f args H (cK ls 0))).paths asm=some ps):
  Calls P f vals.toArray w fun e w'=> ∃p∈ps,Told ρ p.1∧ ∃l,ls[p.2]? =some l∧ ∃m u v j' H',e= .returned u∧R (ρ.mark m) j' v u∧Inv (ρ.mark m) x j' H' w'∧St j H j' H'∧l.fits v H'=true:=by
 classical
 let m:Nat→Bool:=fun k=>decide (∃p∈ps,1000000+p.2=k∧Told ρ p.1)
 have hm: ∀p∈ps,Told ρ p.1→m (1000000+p.2)=true:=fun p hp ht=>by
  show decide _=true;exact ya1 ⟨p,hp,rfl,ht⟩
 have hd:=rT hm h (fun q hq=>hq) ht;have hg:=Fj (w0:=x) (hor m) (hlo m) (hao m) (fun n rec hg=>Af hmo hg) n;refine yas ((hg.call f args H (cK ls 0) hd).2 j w vals (hi m) (ha m)) fun e w' he=> ?_;obtain ⟨u,rfl,v,H',j',h1,h2,h3,h4⟩:=he;obtain ⟨k,l,h5,h6,h7⟩:=Qj h4;have h7:(if 1000000+(0+k)<1000000 then ρ.b (1000000+(0+k)) else m (1000000+(0+k)))=true:=h7;rw [yai (by omega)] at h7;obtain ⟨p,hp,hk,hto⟩:=ybB h7;have:p.2=k:=by omega
 subst this;exact ⟨p,hp,hto,l,h5,m,u,v,j',H',rfl,h1,h2,h3,h6⟩
theorem zvl {P:Program} {ρ:Val} {w:World} {K:Nat→Prop} {g:aU} {bl:List (Nat×Nat)} {fF:List Sh} {gs:Nat} {iW:List aK} {kS:List cB} {kL:List dU} {n:Nat} {f:FuncId} {args:List AV} {vals:List Value} {ls:List Leaf} {asm:List (SB×Bool)} {ps:List (List (SB×Bool)×Nat)}
  (hmo:P.follows .mixedOrders=true)
  (h:(eU P (bG iW) (fB kS) (eY kL) n (.call f args (bn gs fF) (cK ls 0))).ways asm=some ps)
  (hs:(bJ fF&&bI iW&&fK kS&&fM kL&&AV.bQ args&&dx ls)=true)
  (hK: ∀b,K b→b<w.heap.size) (ho:oI ρ (aJ bl) (gW w K g) bl fF) (hap:apart bl fF) (hG:g.G gs (aJ bl) w) (he:Ai P ρ w K g iW) (hl:CF P ρ w K g kS) (oP:CP P ρ w K g kL) (ha:RL ρ (aJ bl) args vals) (ht:Told ρ asm):
  Calls P f vals.toArray w fun e w'=> ∃p∈ps,Told ρ p.1∧ ∃l,ls[p.2]? =some l∧ ∃j,oG ρ w K g bl l e w' j:=by
 simp only [yba] at hs;obtain ⟨⟨⟨⟨⟨s1,s2⟩,s5⟩,s9⟩,s3⟩,s4⟩:=hs;unfold Ob.ways at h;cases hps:(eU P (bG iW) (fB kS) (eY kL) n (.call f args (bn gs fF) (cK ls 0))).paths asm with
 | none=>rw [hps] at h;cases h
 | some ps0=>
 rw [hps] at h;cases h;have h:=hps;refine yas (zo3 (x:=gW w K g) hmo (fun m=>E8 (BQ m s2 he)) (fun m=>JO m s5 hl) (fun m=>J3 m s9 oP) (fun m=>EZ hK (BO m s1 ho) hap hG) (fun m=>(iV m s3).2 ha) ht h) fun e w' hh=> ?_;obtain ⟨p,hp,hto,l,hl,m,u,v,j',H',rfl,h1,h2,h3,h4⟩:=hh;obtain ⟨x1,x2,x3,x4⟩:=BK s4 hl;exact ⟨(p.1.drop asm.length,p.2),BR hp,fun c hc=>hto c (ya2 hc),l,hl,j',Fp x1 x2 x3 x4 h1 h2 h3 h4⟩
structure gu where
 ex:Ex
 slots:List Nat
 dF:Option AV
 leaf:Leaf
def Mt:Ex→Ex→Bool
 | .normal,.normal=>true
 | .ret,.ret=>true
 | .exit a,.exit b=>Nat.beq a b
 | _,_=>false
def Gt (env:T AV):List Nat→List AV
 | [] => []
 | t::l=>AU env t::Gt env l
def CK (env:T AV):List Nat→Bool
 | [] => true
 | t::l=>match Nat.blt t bS,zxR (AU env t) with|true,true=>CK env l|_,_=>false
def Ga (env:T AV) (d:Option AV):Bool:=
 match env.get bS,d with
 | none,none=>true
 | some v,some u=>AV.beq v u
 | _,_=>false
def sO (ρ:Val) (j:J):Option AV→List Deferred→Prop
 | none,ds=>ds= []
 | some v,ds=>DR ρ j v ds
def gJ:Option AV→Bool
 | none=>true
 | some v=>v.small
def fJ:List gu→Nat→KC
  | [], _, _, _, _ => .bad 95 ""
  | l::r,i,ex,env,H=>match Mt ex l.ex,Ga env l.dF,CK env l.slots with
    | true,true,true=>(match l.leaf.fits (.aH (Gt env l.slots)) H with
      | true => qJ (1000000 + i) fun n => .ite (.var n) .ok (.bad 96 "")
      | false=>fJ r (Nat.succ i) ex env H)
    | _,_,_=>fJ r (Nat.succ i) ex env H
def bR (N:Nat) (slots:List (Nat×AV)) (d:Option AV):T AV:=
 match d with
 | none=>nX slots (lC N .leaf)
 | some v=>(nX slots (lC N .leaf)).set bS v
def gK:List gu→Bool
 | [] => true
 | l::r=>match dx [l.leaf],gJ l.dF with|true,true=>gK r|_,_=>false
theorem O5: ∀ {ls:List gu} {i:Nat} {l:gu},gK ls=true→ls[i]? =some l→dx [l.leaf]=true∧gJ l.dF=true
 | [], _,_,_,h=>by cases h
 | x::r,i,l,hx,h=>by
  unfold gK at hx;split at hx
  case h_2=>cases hx
  rename_i h1 h2;cases i with
  | zero=>cases h;exact ⟨h1,h2⟩
  | succ i=>exact O5 hx (by simpa using h)
theorem zEB {a b:Ex} (h:Mt a b=true):a=b:=by
 cases a<;>cases b<;>simp only [Mt] at h<;>first|rfl|cases h|rw [bK h]
theorem Qa {ρ:Val} {ex:Ex} {env:T AV} {H:Heap}: ∀ {ls:List gu} {i:Nat},Ob.den ρ (fJ ls i ex env H)→ ∃k l,ls[k]? =some l∧ex=l.ex∧Ga env l.dF=true∧CK env l.slots=true∧l.leaf.fits (.aH (Gt env l.slots)) H=true∧ρ.b (1000000+(i+k))=true
 | [], i,h=>h.elim
 | l::r,i,h=>by
  unfold fJ at h;have later:Ob.den ρ (fJ r (Nat.succ i) ex env H)→ ∃k l',(l::r)[k]? =some l'∧ex=l'.ex∧Ga env l'.dF=true∧CK env l'.slots=true∧l'.leaf.fits (.aH (Gt env l'.slots)) H=true∧ρ.b (1000000+(i+k))=true:=fun h=>by
   obtain ⟨k,l',h1,h2,h3,h4,h5,h6⟩:=Qa h;exact ⟨k+1,l',h1,h2,h3,h4,h5,by rw [show i+(k+1)=Nat.succ i+k by omega];exact h6⟩
  split at h
  ·rename_i e1 e2 e3;split at h
   ·rename_i hf;rw [vJ] at h;refine ⟨0,l,rfl,zEB e1,e2,e3,hf,?_⟩;cases hb:ρ.b (1000000+(i+0)) with
    | true=>rfl
    | false=>exact (h.2 hb).elim
   ·exact later h
  ·exact later h
theorem Rm {ρ:Val} {j:J} {N:Nat} {env:T AV} {a:Act} (he:ER ρ j N env a): ∀ {l:List Nat},CK env l=true→RL ρ j (Gt env l) (l.map fun t=>a.tmps.getD t undef)
 | [], _=>RL.nil
 | t::l,h=>by
  unfold CK at h;split at h
  case h_2=>cases h
  rename_i h1 h2;rw [yaE] at h1;exact ai ((he.get t (by omega)).resolve_left fun e=>by rw [Rn,e] at h2;cases h2) (Rm he h)
theorem zp2 {N:Nat} {slots:List (Nat×AV)} (hle:N≤bS) (hlt:fI N slots=true):dK (nX slots (lC N .leaf)) bS=jN:=by
 rcases EH slots (lC N .leaf) bS with ⟨v,q1,_⟩|q
 ·have:=PN hlt _ q1;simp only at this;omega
 ·rw [q,EK,yai (by omega)];rfl
theorem zyU {ρ:Val} {j:J} {N:Nat} {slots:List (Nat×AV)} {d:Option AV} {a:Act} (hN:a.tmps.size=N) (hd:sO ρ j d a.defers) (hle:N≤bS) (hlt:fI N slots=true) (ha: ∀s∈slots,R ρ j s.2 (a.tmps.getD s.1 undef)):ER ρ j N (bR N slots d) a:=by
 have get: ∀t,t≠bS→dK (nX slots (lC N .leaf)) t= .junk∨R ρ j (dK (nX slots (lC N .leaf)) t) (a.tmps.getD t undef):=fun t ht=>by
  rcases EH slots (lC N .leaf) t with ⟨v,q1,q2⟩|q
  ·rw [q2];exact .inr (ha _ q1)
  ·rw [q,EK];by_cases h:t<N
   ·rw [yak h];exact .inl rfl
   ·rw [yai h,yaA,ya8 (by omega)];exact .inr rY
 cases d with
 | none=>
  have hd:a.defers= []:=hd;refine ⟨hN,hle,get,?_⟩;show DR ρ j (dK (nX slots (lC N .leaf)) bS) _;rw [hd,zp2 hle hlt];rfl
 | some v=>
  refine ⟨hN,hle,fun t ht=> ?_,?_⟩
  ·show dK ((nX slots (lC N .leaf)).set bS v) t= .junk∨R ρ j (dK ((nX slots (lC N .leaf)).set bS v) t) _;rw [qE,yai ht];exact get t ht
  ·show DR ρ j (dK ((nX slots (lC N .leaf)).set bS v) bS) _;rw [qE,yak rfl];exact hd
theorem Rk {ρ:Val} {j:J} (m:Nat→Bool): ∀ {ds:List Deferred} {v:AV},v.small=true→(DR (ρ.mark m) j v ds↔DR ρ j v ds)
 | [], _,_=>yb9
 | _::ds,v,hs=>by
  constructor
  ·rintro ⟨g,args,rest,cap,rfl,e2,e3,e4⟩;unfold AV.small AV.bQ at hs;split at hs
   case h_2=>cases hs
   rename_i h1;unfold AV.small at h1;split at h1
   case h_2=>cases h1
   unfold AV.bQ at hs;split at hs
   case h_2=>cases hs
   rename_i h2;exact ⟨g,args,rest,cap,rfl,e2,(iV m h1).1 e3,(Rk m h2).1 e4⟩
  ·rintro ⟨g,args,rest,cap,rfl,e2,e3,e4⟩;unfold AV.small AV.bQ at hs;split at hs
   case h_2=>cases hs
   rename_i h1;unfold AV.small at h1;split at h1
   case h_2=>cases h1
   unfold AV.bQ at hs;split at hs
   case h_2=>cases hs
   rename_i h2;exact ⟨g,args,rest,cap,rfl,e2,(iV m h1).2 e3,(Rk m h2).2 e4⟩
theorem KL {ρ:Val} {j:J} (m:Nat→Bool) {ds:List Deferred} {v:Option AV} (hs:gJ v=true):sO (ρ.mark m) j v ds↔sO ρ j v ds:=by
 cases v with
 | none=>exact yb9
 | some v=>exact Rk m hs
theorem iM {P:Program} {ρ:Val} {w:World} {K:Nat→Prop} {g:aU} {bl:List (Nat×Nat)} {fF:List Sh} {gs:Nat} {iW:List aK} {kS:List cB} {kL:List dU} {n:Nat} {p:List Nat} {N:Nat} {slots:List (Nat×AV)} {dF:Option AV} {ls:List gu} {asm:List (SB×Bool)} {ps:List (List (SB×Bool)×Nat)}
  (hmo:P.follows .mixedOrders=true)
  (h:(eU P (bG iW) (fB kS) (eY kL) n (.code (bf P p) p N (bR N slots dF) (bn gs fF) (fJ ls 0))).ways asm=some ps)
  (hs:(bJ fF&&bI iW&&fK kS&&fM kL&&fV slots&&gK ls&&fI N slots&&Nat.ble N bS&&gJ dF)=true)
  (hK: ∀b,K b→b<w.heap.size) (ho:oI ρ (aJ bl) (gW w K g) bl fF) (hap:apart bl fF) (hG:g.G gs (aJ bl) w) (he:Ai P ρ w K g iW) (hl:CF P ρ w K g kS) (oP:CP P ρ w K g kL)
  {a:Act} (hN:a.tmps.size=N) (hd:sO ρ (aJ bl) dF a.defers) (ha: ∀s∈slots,R ρ (aJ bl) s.2 (a.tmps.getD s.1 undef)) (ht:Told ρ asm):
  (bf P p).wp P (fun ex a' w'=> ∃q∈ps,Told ρ q.1∧ ∃l,ls[q.2]? =some l∧ex=sW l.ex∧a'.tmps.size=N∧ ∃j,sO ρ j l.dF a'.defers∧oG ρ w K g bl l.leaf (.returned (.tuple (l.slots.map fun t=>a'.tmps.getD t undef).toArray)) w' j) a w:=by
 simp only [yba] at hs;obtain ⟨⟨⟨⟨⟨⟨⟨⟨s1,s2⟩,s5⟩,s9⟩,s3⟩,s4⟩,s6⟩,s7⟩,s8⟩:=hs;have s7:=yal s7;unfold Ob.ways at h;cases hps:(eU P (bG iW) (fB kS) (eY kL) n (.code (bf P p) p N (bR N slots dF) (bn gs fF) (fJ ls 0))).paths asm with
 | none=>rw [hps] at h;cases h
 | some ps0=>
 rw [hps] at h;cases h;have h:=hps
 classical
 let m:Nat→Bool:=fun k=>decide (∃p∈ps0,1000000+p.2=k∧Told ρ p.1)
 have hm: ∀p∈ps0,Told ρ p.1→m (1000000+p.2)=true:=fun p hp ht=>by
  show decide _=true;exact ya1 ⟨p,hp,rfl,ht⟩
 have hdn:=rT hm h (fun q hq=>hq) ht;have hg:=Fj (w0:=gW w K g) (E8 (BQ m s2 he)) (JO m s5 hl) (J3 m s9 oP) (fun n rec hg=>Af hmo hg) n;refine ya3 (hg.code _ _ _ _ _ _ rfl hdn (aJ bl) a w (EZ hK (BO m s1 ho) hap hG) (zyU hN ((KL m s8).2 hd) s7 s6 fun s hs=>(lX m (EB s3 s hs)).2 (ha s hs))) fun ex a' w' hh=> ?_;obtain ⟨x,env',H',j',rfl,h1,h2,h3,h4⟩:=hh;obtain ⟨k,l,h5,h6,h7,h8,h9,h10⟩:=Qa h4;have h10:(if 1000000+(0+k)<1000000 then ρ.b (1000000+(0+k)) else m (1000000+(0+k)))=true:=h10;rw [yai (by omega)] at h10;obtain ⟨q,hq,hk,hto⟩:=ybB h10;have:q.2=k:=by omega
 subst this;obtain ⟨y1,y2⟩:=O5 s4 h5;obtain ⟨x1,x2,x3,x4⟩:=BK (i:=0) y1 rfl;refine ⟨(q.1.drop asm.length,q.2),BR hq,fun c hc=>hto c (ya2 hc),l,h5,by rw [h6],h1.size,j',(KL m y2).1 ?_,Fp x1 x2 x3 x4 (oD (Rm h1 h8)) h2 h3 h9⟩;have hdf:=h1.dF;unfold Ga at h7;unfold dK at hdf;split at h7
 ·rename_i e1 e2;rw [e1] at hdf;rw [e2];exact hdf.none rfl
 ·rename_i v u e1 e2;rw [e1] at hdf;rw [e2,←AV.beq_eq h7];exact hdf
 ·cases h7
theorem xQ {P:Program} {c:Code} {Q:Exit→Act→World→Prop} {α:Type} (I:α→Act→World→Prop) (μ:α→Nat)
  (h: ∀x a w,I x a w→c.wp P (fun ex a' w'=>match ex with| .normal=> ∃x',μ x'<μ x∧I x' a' w'|ex=>Q ex a' w') a w) (x:α) (a:Act) (w:World) (hI:I x a w):(Code.loop c).wp P Q a w:=by
 have key: ∀n x a w,μ x<n→I x a w→Code.rounds P c Q n a w:=by
  intro n
  induction n with
  | zero=>intro x a w hn;omega
  | succ n ih=>
   intro x a w hn hI;refine ya3 (h x a w hI) fun ex a' w' hh=> ?_;cases ex with
   | normal=>
    obtain ⟨x',h1,h2⟩:=hh;exact ih x' a' w' (by omega) h2
   | _=>exact hh
 exact wp_loop_rounds (μ x+1) (key (μ x+1) x a w (ycF _) hI)
def Vq (P:Program) (p:List Nat):Nat×Nat:=
 match bf P p with
 | .seq _ _=>(1,0)
 | .block id _=>(2,id)
 | .loop _=>(3,0)
 | .cond _ _ _=>(4,0)
 | _=>(0,0)
theorem FL {P:Program} {p:List Nat} (hk:(Vq P p).1=3):bf P p= .loop (bf P (0::p)):=by
 cases hc:bf P p with
 | loop x=>rw [tY hc (by simp)];rfl
 | _=>unfold Vq at hk;rw [hc] at hk;cases hk
theorem ZQ {P:Program} {ρ:Val} {w0:World} {K:Nat→Prop} {g:aU} {e:cB} (h:VH P ρ w0 K g e) (hl: ∃c,bf P e.p= .loop c:=by exact ⟨_,Go.Dw.FL (by kernel_rfl)⟩):CV P ρ w0 K g e:=by
 obtain ⟨c0,hc0⟩:=hl;intro c hc;rw [hc0] at hc;subst hc;exact h c0 hc0
theorem Yx {P:Program} {ρ:Val} {w0:World} {K:Nat→Prop} {g:aU} {e:cB} (hn:e.fZ=0) (hg: ∀d∈e.ends,d.gs=e.gs)
    (h: ∀c,bf P e.p= .loop c→ ∀(j:J) (a:Act) (w:World) (F:Nat→Prop),a.tmps.size=e.n→a.defers= []→(∀s∈e.slots,s.1<e.n∧R ρ j s.2 (a.tmps.getD s.1 undef))→(∀r∈e.rows,∀L,j r.1=some L→ ¬F L.blk∧ ∃vals,RL ρ j r.2 vals∧Row w L vals)→g.fact e.gs (gQ j) F w→w0.heap.size≤w.heap.size→(∀i,i<w0.heap.size→ ¬K i→w.heap[i]? =w0.heap[i]?)→
      (Code.loop c).wp P (fun ex a' w'=> ∃d,yA ρ e.ends=some d∧ex=sW d.ex∧a'.tmps.size=e.n∧a'.defers= []∧(∀t∈e.keep,a'.tmps.getD t undef=a.tmps.getD t undef)∧(∀s∈d.slots,R ρ j s.2 (a'.tmps.getD s.1 undef))∧Below w.heap.size w w') a w) (hl: ∃c,bf P e.p= .loop c:=by exact ⟨_,Go.Dw.FL (by kernel_rfl)⟩):CV P ρ w0 K g e:=ZQ (zpi hn hg h) hl
end Go.Dw
namespace Go.Proofs
open Go.Dw Go.RowKit
def Tryz.nQ (l:List (SE×Nat)):AV:= .sx 0 (au 0) 3 l
def Tryz.wI:AV:= .aH [.func 118 [] [.ptr 1 0,.ptr 2 0],.aH []]
def Tryz.Cs (k:SE) (l:List (SE×Nat)):List (Nat×AV):= [(0,nQ l),(2,.ptr 1 0),(3,.ptr 2 0),(10,nQ l),(11,.int .i64 (au 0)),(12,.int .i64 k)]
def Tryz.IX (e:SE) (r:List Sh):List Sh:= .own [.int .i64 e]:: .own [.int .u64 (af 2)]::r
def Tryz.sS (a n b:Nat):Sh:= .ro [.int .u64 (af a),.int .u32 (bM n),.bool (.var b)]
end Go.Proofs
namespace Go.Proofs
open Go.Dw
def Tryz.zqf:List aK:= []
def Tryz.zud:List Sh:=IX (.lit 0) [sS 3 4 0]
def Tryz.JZ:List (Nat×AV):=Cs (.lit 0) [(.lit 0,3)]
def Tryz.zmq:List cB:= []
def Tryz.zmr:List dU:= []
def Tryz.zue:Option AV:=some wI
def Tryz.zBY:List (SB×Bool):= []
def Tryz.zzj:List gu:= [
 ⟨.ret,[2],(some (.aH [.func 118 [] [.ptr 1 0,.ptr 2 0],.aH []])),⟨.aH [.ptr 1 0],[(1,[.int .i64 (.lit 2)]),(2,[.int .u64 (af 2)])],[],0,[1,2]⟩⟩,
 ⟨.normal,[0,2,3,10,11,12],(some (.aH [.func 118 [] [.ptr 1 0,.ptr 2 0],.aH []])),⟨.aH [.sx 0 ((au 0)) 3 [((.lit 0),3)],.ptr 1 0,.ptr 2 0,.sx 0 ((au 0)) 3 [((.lit 0),3)],.int .i64 (au 0),.int .i64 (.lit 1)],[(1,[.int .i64 (.lit 0)]),(2,[.int .u64 (.bin .add .u64 (af 2) (bM 4))])],[],0,[1,2]⟩⟩,
 ⟨(.exit 0),[2],(some (.aH [.func 118 [] [.ptr 1 0,.ptr 2 0],.aH []])),⟨.aH [.ptr 1 0],[(1,[.int .i64 (.lit 0)]),(2,[.int .u64 (af 2)])],[],0,[1,2]⟩⟩]
def Tryz.zzi:List (List (SB×Bool)×Nat):= [
 ([((.cmp .lss (.lit 0) (au 0)),true),((.cmp .lss (bM 4) (.lit 1)),true)],0),
 ([((.cmp .lss (.lit 0) (au 0)),true),((.cmp .lss (bM 4) (.lit 1)),false),((.cmp .gtr (.bin .sub .u64 (bM 4) (.lit 1)) (.bin .sub .u64 (.lit 18446744073709551615) (af 3))),true)],0),
 ([((.cmp .lss (.lit 0) (au 0)),true),((.cmp .lss (bM 4) (.lit 1)),false),((.cmp .gtr (.bin .sub .u64 (bM 4) (.lit 1)) (.bin .sub .u64 (.lit 18446744073709551615) (af 3))),false)],1),
 ([((.cmp .lss (.lit 0) (au 0)),false)],2)]
theorem Tryz.zBX:(eU prog (bG zqf) (fB zmq) (eY zmr) 100000 (.code (bf prog [0,0,1,0,1,1,1,1,88]) [0,0,1,0,1,1,1,1,88] 53 (bR 53 JZ zue) (bn 0 zud) (fJ zzj 0))).ways zBY=some zzi:=by kernel_rfl
theorem Tryz.zEZ:(bJ zud&&bI zqf&&fK zmq&&fM zmr&&fV JZ&&gK zzj&&fI 53 JZ&&Nat.ble 53 bS&&gJ zue)=true:=by kernel_rfl
def Tryz.zqe:List aK:= []
def Tryz.zub:List Sh:=IX (.lit 0) [sS 3 4 0,sS 5 6 1]
def Tryz.JY:List (Nat×AV):=Cs (au 1) [(au 1,3),(.bin .sub .i64 (au 1) (.lit 1),4)]
def Tryz.zmo:List cB:= []
def Tryz.zmp:List dU:= []
def Tryz.zuc:Option AV:=some wI
def Tryz.zBW:List (SB×Bool):= [(.cmp .lss (au 1) (au 0),true),(.cmp .gtr (au 1) (.lit 0),true)]
def Tryz.zzh:List gu:= [
 ⟨.ret,[2],(some (.aH [.func 118 [] [.ptr 1 0,.ptr 2 0],.aH []])),⟨.aH [.ptr 1 0],[(1,[.int .i64 (.lit 2)]),(2,[.int .u64 (af 2)])],[],0,[1,2]⟩⟩,
 ⟨.normal,[0,2,3,10,11,12],(some (.aH [.func 118 [] [.ptr 1 0,.ptr 2 0],.aH []])),⟨.aH [.sx 0 ((au 0)) 3 [((au 1),3),((.bin .sub .i64 (au 1) (.lit 1)),4)],.ptr 1 0,.ptr 2 0,.sx 0 ((au 0)) 3 [((au 1),3),((.bin .sub .i64 (au 1) (.lit 1)),4)],.int .i64 (au 0),.int .i64 (.bin .add .i64 (au 1) (.lit 1))],[(1,[.int .i64 (.lit 0)]),(2,[.int .u64 (.bin .add .u64 (af 2) (bM 4))])],[],0,[1,2]⟩⟩]
def Tryz.zzg:List (List (SB×Bool)×Nat):= [
 ([((.cmp .lss (bM 4) (.lit 1)),true)],0),
 ([((.cmp .lss (bM 4) (.lit 1)),false),((.cmp .gtr (.bin .sub .u64 (bM 4) (.lit 1)) (.bin .sub .u64 (.lit 18446744073709551615) (af 3))),true)],0),
 ([((.cmp .lss (bM 4) (.lit 1)),false),((.cmp .gtr (.bin .sub .u64 (bM 4) (.lit 1)) (.bin .sub .u64 (.lit 18446744073709551615) (af 3))),false),(.var 1,true),(.var 0,false)],0),
 ([((.cmp .lss (bM 4) (.lit 1)),false),((.cmp .gtr (.bin .sub .u64 (bM 4) (.lit 1)) (.bin .sub .u64 (.lit 18446744073709551615) (af 3))),false),(.var 1,true),(.var 0,true)],1),
 ([((.cmp .lss (bM 4) (.lit 1)),false),((.cmp .gtr (.bin .sub .u64 (bM 4) (.lit 1)) (.bin .sub .u64 (.lit 18446744073709551615) (af 3))),false),(.var 1,false)],1)]
theorem Tryz.zBV:(eU prog (bG zqe) (fB zmo) (eY zmp) 100000 (.code (bf prog [0,0,1,0,1,1,1,1,88]) [0,0,1,0,1,1,1,1,88] 53 (bR 53 JY zuc) (bn 0 zub) (fJ zzh 0))).ways zBW=some zzg:=by kernel_rfl
theorem Tryz.zEY:(bJ zub&&bI zqe&&fK zmo&&fM zmp&&fV JY&&gK zzh&&fI 53 JY&&Nat.ble 53 bS&&gJ zuc)=true:=by kernel_rfl
def Tryz.zqd:List aK:= []
def Tryz.zt9:List Sh:=IX (.lit 0) []
def Tryz.JX:List (Nat×AV):=Cs (au 1) []
def Tryz.zmm:List cB:= []
def Tryz.zmn:List dU:= []
def Tryz.zua:Option AV:=some wI
def Tryz.zBU:List (SB×Bool):= [(.cmp .lss (au 1) (au 0),false)]
def Tryz.zzf:List gu:= [
 ⟨(.exit 0),[2],(some (.aH [.func 118 [] [.ptr 1 0,.ptr 2 0],.aH []])),⟨.aH [.ptr 1 0],[(1,[.int .i64 (.lit 0)]),(2,[.int .u64 (af 2)])],[],0,[1,2]⟩⟩]
def Tryz.zze:List (List (SB×Bool)×Nat):= [
 ([], 0)]
theorem Tryz.zBT:(eU prog (bG zqd) (fB zmm) (eY zmn) 100000 (.code (bf prog [0,0,1,0,1,1,1,1,88]) [0,0,1,0,1,1,1,1,88] 53 (bR 53 JX zua) (bn 0 zt9) (fJ zzf 0))).ways zBU=some zze:=by kernel_rfl
theorem Tryz.zEX:(bJ zt9&&bI zqd&&fK zmm&&fM zmn&&fV JX&&gK zzf&&fI 53 JX&&Nat.ble 53 bS&&gJ zua)=true:=by kernel_rfl
def Tryz.zt8:List aK:= []
def Tryz.zzc:List Sh:=IX (.lit 0) []
def Tryz.J6:List (Nat×AV):= [(2,.ptr 1 0)]
def Tryz.zqb:List cB:= []
def Tryz.zqc:List dU:= []
def Tryz.zzd:Option AV:=some wI
def Tryz.zEW:List (SB×Bool):= []
def Tryz.Vx:List gu:= [
 ⟨.ret,[2],(some (.aH [.func 118 [] [.ptr 1 0,.ptr 2 0],.aH []])),⟨.aH [.ptr 1 0],[(1,[.int .i64 (.lit 0)]),(2,[.int .u64 (af 2)])],[],0,[1,2]⟩⟩]
def Tryz.Vw:List (List (SB×Bool)×Nat):= [
 ([], 0)]
theorem Tryz.zEV:(eU prog (bG zt8) (fB zqb) (eY zqc) 100000 (.code (bf prog [1,1,1,1,1,88]) [1,1,1,1,1,88] 53 (bR 53 J6 zzd) (bn 0 zzc) (fJ Vx 0))).ways zEW=some Vw:=by kernel_rfl
theorem Tryz.zGg:(bJ zzc&&bI zt8&&fK zqb&&fM zqc&&fV J6&&gK Vx&&fI 53 J6&&Nat.ble 53 bS&&gJ zzd)=true:=by kernel_rfl
open Go.RowKit
def Tryz.jA (pw:Bool) (sum:Int):List Sg→Int
 | [] => if 4294967296≤sum then 2 else 0
 | x::r=>if x.len<1∨18446744073709551615-x.di<x.len-1∨(pw=true∧x.wr=false) then 2 else jA x.wr (sum+x.len) r
def Tryz.gM (l:List Sg):Int:=if 64<l.length then 3 else jA false 0 l
theorem Tryz.kF {P:Program} {c c':Code} {Q:Exit→Act→World→Prop} {a:Act} {w:World} (e:c=c') (h:c'.wp P Q a w):c.wp P Q a w:=e▸h
structure Tryz.Gw (l:List Sg) (sa:Option Addr) (c E C:Nat) (w0:World) (k:Nat) (a:Act) (w:World):Prop where
 kl:k≤l.length
 size:a.tmps.size=53
 s0:a.tmps.getD 0 undef= .slice sa l.length c
 s2:a.tmps.getD 2 undef= .pointer (some ⟨E,0,none⟩)
 s3:a.tmps.getD 3 undef= .pointer (some ⟨C,0,none⟩)
 s10:a.tmps.getD 10 undef= .slice sa l.length c
 s11:a.tmps.getD 11 undef= .int .i64 l.length
 s12:a.tmps.getD 12 undef= .int .i64 k
 dF: ∃d,a.defers= [d]∧ ∃args cap,d.target= .fn (.func 118) cap∧d.args=args∧(args++cap).toList= [.pointer (some ⟨E,0,none⟩),.pointer (some ⟨C,0,none⟩)]
 mv:Dw.Mv (fun b=>b=E∨b=C) w0 w
 sum: ∃pw s,Own w E [.int .i64 0]∧Own w C [.int .u64 s]∧0≤s∧s≤k*4294967296∧jA pw s (l.drop k)=jA false 0 l∧(k=0→pw=false)∧(∀i,k=i+1→ ∃h:i<l.length,pw=l[i].wr)
def Tryz.gq (n k s:Int) (x y:Sg) (sl:Value):Val:=BH [n,k,s,x.di,x.len,y.di,y.len] [x.wr,y.wr] [sl]
theorem Tryz.yu {ρ:Val} {j:J} {E C:Nat} {ds:List Deferred} (h:sO ρ j (some wI) ds) (h1:j 1=some ⟨E,0,0,none⟩) (h2:j 2=some ⟨C,0,0,none⟩):
  ∃ d,ds= [d]∧ ∃args cap,d.target= .fn (.func 118) cap∧d.args=args∧(args++cap).toList= [.pointer (some ⟨E,0,none⟩),.pointer (some ⟨C,0,none⟩)]:=by
 cases ds with
 | nil=>cases h
 | cons d ds=>
  obtain ⟨g,args,rest,cap,e1,e2,e3,e4⟩:=h;unfold wI at e1;cases e1;cases ds with
  | cons d' ds'=>obtain ⟨_,_,_,_,e,_⟩:=e4;cases e
  | nil=>
   refine ⟨d,rfl,d.args,cap,e2,rfl,?_⟩;obtain ⟨v1,m1,q1,⟨L1,r1,rfl⟩,v2,m2,rfl,⟨L2,r2,rfl⟩,q3⟩:=e3;rw [h1] at r1;cases r1;rw [h2] at r2;cases r2;have q3:m2= []:=q3;rw [q1,q3]
theorem Tryz.GI {ρ:Val} {j:J} {E C:Nat} {ds:List Deferred} (h1:j 1=some ⟨E,0,0,none⟩) (h2:j 2=some ⟨C,0,0,none⟩)
  (h: ∃d,ds= [d]∧ ∃args cap,d.target= .fn (.func 118) cap∧d.args=args∧(args++cap).toList= [.pointer (some ⟨E,0,none⟩),.pointer (some ⟨C,0,none⟩)]):sO ρ j (some wI) ds:=by
 obtain ⟨d,rfl,args,cap,e1,rfl,e3⟩:=h;exact ⟨_,_,_,cap,rfl,e1,by rw [e3];exact ai (bT h1) (ai (bT h2) RL.nil),rfl⟩
theorem Tryz.zox {w:World} {R o:Nat} {vs:List Value} (h:w.rangeAt R o vs) (h0:vs≠ []): ∃(arr:Array Value) (e:TypeId) (fr:Nat×Nat),w.heap[R]? =some (.cells arr e fr)∧o+vs.length≤arr.size∧ ∀(i:Nat) (y:Value),vs[i]? =some y→arr[o+i]? =some y:=by
 have hc: ∀(i:Nat) (y:Value),vs[i]? =some y→ ∃arr e fr,w.heap[R]? =some (.cells arr e fr)∧arr[o+i]? =some y:=fun i y hy=>by
  have:=h i y hy;unfold World.cell? at this;split at this
  ·rename_i arr e fr he;exact ⟨arr,e,fr,he,this⟩
  ·cases this
 obtain ⟨y0,hy0⟩: ∃y,vs[0]? =some y:=⟨vs[0]'(ybt.2 h0),yam (ybt.2 h0)⟩;obtain ⟨arr,e,fr,he,_⟩:=hc 0 y0 hy0;refine ⟨arr,e,fr,he,?_,fun i y hy=> ?_⟩
 ·have hl:vs.length-1<vs.length:=by have:=ybt.2 h0;omega
  obtain ⟨arr',e',fr',he',hy'⟩:=hc (vs.length-1) _ (yam hl);rw [he] at he';cases he';have:=(yar.1 hy').1;omega
 ·obtain ⟨arr',e',fr',he',hy'⟩:=hc i y hy;rw [he] at he';cases he';exact hy'
theorem Tryz.jQ {w:World} {X o:Nat} {ρ:Val} {j:J} {K:Nat→Prop} {g:aU} {row:List AV} {vals:List Value} (h:w.rangeAt X o vals) (h0:vals≠ []) (hr:RL ρ j row vals) (hK: ¬K X):wo ρ j (gW w K g) (X,o) (.ro row):=by
 obtain ⟨arr,e,fr,h1,h2,h3⟩:=zox h h0;exact ⟨hK,vals,arr,e,fr,h1,hr,by rw [←RL.length hr];exact h2,h3⟩
structure Tryz.LY (E C:Nat) (w0:World) (e s:Int) (a:Act) (w:World):Prop where
 size:a.tmps.size=53
 s2:a.tmps.getD 2 undef= .pointer (some ⟨E,0,none⟩)
 dF: ∃d,a.defers= [d]∧ ∃args cap,d.target= .fn (.func 118) cap∧d.args=args∧(args++cap).toList= [.pointer (some ⟨E,0,none⟩),.pointer (some ⟨C,0,none⟩)]
 mv:Dw.Mv (fun b=>b=E∨b=C) w0 w
 oE:Own w E [.int .i64 e]
 oC:Own w C [.int .u64 s]
theorem Tryz.iH {ρ:Val} {lc:Nat→Dw.Loc} {L:List Value} {vs:List AV} (h:Ending.returned (.tuple L.toArray)= .returned ((AV.aH vs).val ρ lc)):L=AV.aP ρ lc vs:=by
 injection h with h;unfold AV.val at h;injection h with h;simpa using yaH Array.toList h
theorem Tryz.zBZ {l:List Sg} {sa:Option Addr} {c E C:Nat} {w0:World} {k:Nat} {a:Act} {w:World} (h:Gw l sa c E C w0 k a w) (hl:l.length≤64) (hok: ∀x∈l,x.ok) (hne:E≠C) (hE:E<w0.heap.size) (hC:C<w0.heap.size)
    (hr:l= []∨ ∃R o,sa=some ⟨R,o,none⟩∧R≠E∧R≠C∧w0.rangeAt R o (dX l)):
    (bf prog [0,0,1,0,1,1,1,1,88]).wp prog (fun ex a' w'=>match ex with
      | .normal=>k<l.length∧Gw l sa c E C w0 (k+1) a' w'
      | ex=>(ex= .ret∧jA false 0 l=2∧ ∃s,LY E C w0 2 s a' w')∨(ex= .exit 0∧ ∃s,0≤s∧s<18446744073709551616∧jA false 0 l=(if 4294967296≤s then 2 else 0)∧LY E C w0 0 s a' w')) a w:=by
  obtain ⟨kl,size,s0,s2,s3,s10,s11,s12,dF,mv,pw,s,oE,oC,hs0,hs1,hsw,hp0,hp1⟩:=h;have hEw:E<w.heap.size:=qH oE;have hCw:C<w.heap.size:=qH oC;have hK: ∀b,(b=E∨b=C)→b<w.heap.size:=fun b hb=>by rcases hb with rfl|rfl<;>assumption
  by_cases hkl:k<l.length
  · rcases hr with h0|⟨R,o,rfl,hRE,hRC,hr⟩
    · rw [h0] at hkl;simp at hkl
    have MQ:=uz hr (by intro h0;rw [h0] at hkl;simp at hkl);have hrw:w.rangeAt R o (dX l):=gL hr (mv.block R MQ (by rintro (e|e)<;>contradiction));have hx:=Fg hrw k hkl;have hxo:=hok l[k] (yaL hkl);rw [ycr hkl] at hsw;have ML: ¬(R=E∨R=C):=by rintro (e|e)<;>contradiction
    generalize hX:l[k]=X at hx hxo hsw;obtain ⟨Vm,xa1,Vn,Vo⟩:=hxo;rw [jA] at hsw;have fin: ∀ {a':Act} {w':World} {ρ:Val} {j:J},a'.tmps.size=53→sO ρ j (some wI) a'.defers→j 1=some ⟨E,0,0,none⟩→j 2=some ⟨C,0,0,none⟩→Dw.Mv (fun b=>b=E∨b=C) w w'→
        Own w' E [.int .i64 0]→Own w' C [.int .u64 (s+X.len)]→
        ([0,2,3,10,11,12].map fun t=>a'.tmps.getD t undef)= [.slice (some ⟨R,o,none⟩) l.length c,.pointer (some ⟨E,0,none⟩),.pointer (some ⟨C,0,none⟩),.slice (some ⟨R,o,none⟩) l.length c,.int .i64 l.length,.int .i64 (k+1)]→
        jA X.wr (s+X.len) (l.drop (k+1))=jA false 0 l→k<l.length∧Gw l (some ⟨R,o,none⟩) c E C w0 (k+1) a' w':=fun {a' w' ρ j} q1 q2 q3 q4 q5 q6 q7 q8 q9=>by
      simp only [yaK,ya0,yaR,yaU] at q8;obtain ⟨t0,t2,t3,t10,t11,t12⟩:=q8;refine ⟨hkl,⟨by omega,q1,t0,t2,t3,t10,t11,by rw [t12];norm_cast,yu q2 q3 q4,mv.trans q5,X.wr,s+X.len,q6,q7,by omega,by push_cast;omega,q9,by omega,fun i hi=> ?_⟩⟩;have:k=i:=by omega
      subst this;exact ⟨hkl,by rw [hX]⟩
    have hden: ∀(n k' s':Int) (x y:Sg) (sl:Value),n=l.length→0≤k'→k'<64→0≤s'→s'<18446744073709551616→x.ok→(au 0).den (gq n k' s' x y sl)=l.length∧(au 1).den (gq n k' s' x y sl)=k'∧(af 2).den (gq n k' s' x y sl)=s'∧(af 3).den (gq n k' s' x y sl)=x.di∧(bM 4).den (gq n k' s' x y sl)=x.len:=fun n k' s' x y sl h1 h2 h3 h4 h5 h6=>by
      subst h1;exact ⟨mh (by show (0:Int)≤l.length;omega) (by show ((l.length:Nat):Int)<_;omega),mh h2 (by show k'<_;omega),iI h4 h5,iI h6.1 h6.2.1,pF h6.2.2.1 h6.2.2.2⟩
    have Dv:X.ok:=⟨Vm,xa1,Vn,Vo⟩;have hwl:IntKind.wrap .u64 (X.len-1)=(X.len-1)%18446744073709551616:=Ca _;have rG:IntKind.wrap .u64 (18446744073709551615-X.di)=18446744073709551615-X.di:=bE (by omega) (by omega);have hws:IntKind.wrap .u64 (s+X.len)=s+X.len:=bE (by omega) (by omega);rcases ybk k with hk0|hk0
    · subst hk0;have hpw:=hp0 rfl;subst hpw;obtain ⟨d0,d1,d2,d3,d4⟩:=hden l.length 0 s X X (.slice (some ⟨R,o,none⟩) l.length c) rfl (by omega) (by omega) hs0 (by omega) Dv;have hj1:aJ [(E,0),(C,0),(R,o)] 1=some ⟨E,0,0,none⟩:=rfl;have hj2:aJ [(E,0),(C,0),(R,o)] 2=some ⟨C,0,0,none⟩:=rfl;have hj3:aJ [(E,0),(C,0),(R,o)] 3=some ⟨R,o,0,none⟩:=rfl;have hsx:Dw.R (gq l.length 0 s X X (.slice (some ⟨R,o,none⟩) l.length c)) (aJ [(E,0),(C,0),(R,o)]) (nQ [(.lit 0,3)]) (.slice (some ⟨R,o,none⟩) l.length c):=⟨rfl,_,_,_,rfl,d0.symm,⟨R,o,_,0,rfl,hj3,rfl,rfl,hkl,rfl⟩,trivial⟩;refine ya3 (iM (ρ:=gq l.length 0 s X X (.slice (some ⟨R,o,none⟩) l.length c)) (K:=fun b=>b=E∨b=C) (g:=aU.none) (bl:= [(E,0),(C,0),(R,o)]) mixed zBX zEZ hK
        ⟨gy oE (ai (aA rfl) RL.nil) (.inl rfl),gy oC (ai (aA d2) RL.nil) (.inr rfl),jQ hx (by unfold Sg.cells;simp) (ai (aA d3) (ai (aA d4) (ai (fA rfl) RL.nil))) ML,trivial⟩
        ⟨fun _ i b' s' h1 h2 h3=>(by match i,h1,h2 with|0,h1,_=>cases h1;exact hne|1,_,h2=>cases h2;cases h3|i+2,h1,_=>cases h1),fun _ i b' s' h1 h2 h3=>(by match i,h1,h2 with|0,_,h2=>cases h2;cases h3|i+1,h1,_=>cases h1),fun h=>(by cases h),trivial⟩
        eH trivial trivial trivial size (GI hj1 hj2 dF) ?_ (aT.2 trivial)) fun ex a' w' hh=> ?_
      · intro t ht;simp only [JZ,Cs,yac,yae,yav] at ht;rcases ht with rfl|rfl|rfl|rfl|rfl|rfl
        · rw [s0];exact hsx
        · rw [s2];exact bT hj1
        · rw [s3];exact bT hj2
        · rw [s10];exact hsx
        · rw [s11];exact aA d0
        · rw [s12];exact aA rfl
      · obtain ⟨q,hq,hto,lf,hlf,rfl,hsz,j,hdf,he⟩:=hh;have aW:=he.sub _ _ hj1;have bC:=he.sub _ _ hj2;unfold zzi at hq;simp only [yac,yae,yav] at hq;rcases hq with rfl|rfl|rfl|rfl
        all_goals
          simp only [aZ,aT,jY,gT,dJ,gG,zag,d0,d1,d2,d3,d4,hwl,rG,yap,yat,yaU] at hto;cases hlf
        · exact .inl ⟨rfl,by rw [←hsw,yak (by omega)],_,hsz,by have:=iH he.ret;simpa [AV.aP,AV.val,bB aW] using this,yu hdf aW bC,mv.trans he.mv,(he.rows.1 _ aW).2 (.inr (.inl rfl)) rfl,(he.rows.2.1 _ bC).2 (.inr (.inr rfl)) rfl⟩
        · exact .inl ⟨rfl,by rw [←hsw,yak (by omega)],_,hsz,by have:=iH he.ret;simpa [AV.aP,AV.val,bB aW] using this,yu hdf aW bC,mv.trans he.mv,(he.rows.1 _ aW).2 (.inr (.inl rfl)) rfl,(he.rows.2.1 _ bC).2 (.inr (.inr rfl)) rfl⟩
        · refine fin hsz hdf aW bC he.mv ((he.rows.1 _ aW).2 (.inr (.inl rfl)) rfl) ?_ ?_ ?_
          · have:=(he.rows.2.1 _ bC).2 (.inr (.inr rfl)) rfl;simpa only [AV.aP,AV.val,den_add,d2,d4,hws] using this
          · have:=iH he.ret;rw [this];simp only [AV.aP,AV.val,bB aW,bB bC,d0,zag];rfl
          · rw [←hsw,yai (by rintro (h|h|⟨h,_⟩);omega;omega;cases h)]
        · omega
    · obtain ⟨i,rfl⟩: ∃i,k=i+1:=⟨k-1,by omega⟩;obtain ⟨hil,hpw⟩:=hp1 i rfl;have hy:=Fg hrw i hil;have rH:=hok l[i] (yaL hil);generalize hY:l[i]=Y at hy rH hpw;subst hpw;have hkk:IntKind.wrap .i64 (((i+1:Nat):Int)+1)=((i+1:Nat):Int)+1:=gV (by omega) (by omega);have hk1:IntKind.wrap .i64 (((i+1:Nat):Int)-1)=(i:Int):=by rw [gV (by omega) (by omega)];omega
      obtain ⟨d0,d1,d2,d3,d4⟩:=hden l.length (i+1:Nat) s X Y (.slice (some ⟨R,o,none⟩) l.length c) rfl (by omega) (by omega) hs0 (by omega) Dv;have hj1:aJ [(E,0),(C,0),(R,o+3*(i+1)),(R,o+3*i)] 1=some ⟨E,0,0,none⟩:=rfl;have hj2:aJ [(E,0),(C,0),(R,o+3*(i+1)),(R,o+3*i)] 2=some ⟨C,0,0,none⟩:=rfl;have hj3:aJ [(E,0),(C,0),(R,o+3*(i+1)),(R,o+3*i)] 3=some ⟨R,o+3*(i+1),0,none⟩:=rfl;have uR:aJ [(E,0),(C,0),(R,o+3*(i+1)),(R,o+3*i)] 4=some ⟨R,o+3*i,0,none⟩:=rfl;have hsx:Dw.R (gq l.length (i+1:Nat) s X Y (.slice (some ⟨R,o,none⟩) l.length c)) (aJ [(E,0),(C,0),(R,o+3*(i+1)),(R,o+3*i)]) (nQ [(au 1,3),(.bin .sub .i64 (au 1) (.lit 1),4)]) (.slice (some ⟨R,o,none⟩) l.length c):=⟨rfl,_,_,_,rfl,d0.symm,⟨R,o,_,i+1,rfl,hj3,rfl,d1,hkl,rfl⟩,⟨R,o,_,i,rfl,uR,rfl,by rw [gG,d1,zag];exact hk1,hil,rfl⟩,trivial⟩;refine ya3 (iM (ρ:=gq l.length (i+1:Nat) s X Y (.slice (some ⟨R,o,none⟩) l.length c)) (K:=fun b=>b=E∨b=C) (g:=aU.none) (bl:= [(E,0),(C,0),(R,o+3*(i+1)),(R,o+3*i)]) mixed zBV zEY hK
        ⟨gy oE (ai (aA rfl) RL.nil) (.inl rfl),gy oC (ai (aA d2) RL.nil) (.inr rfl),jQ hx (by unfold Sg.cells;simp) (ai (aA d3) (ai (aA d4) (ai (fA rfl) RL.nil))) ML,jQ hy (by unfold Sg.cells;simp) (ai (aA (iI rH.1 rH.2.1)) (ai (aA (pF rH.2.2.1 rH.2.2.2)) (ai (fA rfl) RL.nil))) ML,trivial⟩
        ⟨fun _ i b' s' h1 h2 h3=>(by match i,h1,h2 with|0,h1,_=>cases h1;exact hne|1,_,h2=>cases h2;cases h3|2,_,h2=>cases h2;cases h3|i+3,h1,_=>cases h1),fun _ i b' s' h1 h2 h3=>(by match i,h1,h2 with|0,_,h2=>cases h2;cases h3|1,_,h2=>cases h2;cases h3|i+2,h1,_=>cases h1),fun h=>(by cases h),fun h=>(by cases h),trivial⟩
        eH trivial trivial trivial size (GI hj1 hj2 dF) ?_ (aZ.2 ⟨by rw [gT,d0,d1];simp only [yap];omega,aZ.2 ⟨by rw [jY,d1,zag];simp only [yap];omega,aT.2 trivial⟩⟩)) fun ex a' w' hh=> ?_
      · intro t ht;simp only [JY,Cs,yac,yae,yav] at ht;rcases ht with rfl|rfl|rfl|rfl|rfl|rfl
        · rw [s0];exact hsx
        · rw [s2];exact bT hj1
        · rw [s3];exact bT hj2
        · rw [s10];exact hsx
        · rw [s11];exact aA d0
        · rw [s12];exact aA d1
      · obtain ⟨q,hq,hto,lf,hlf,rfl,hsz,j,hdf,he⟩:=hh;have aW:=he.sub _ _ hj1;have bC:=he.sub _ _ hj2;unfold zzg at hq;simp only [yac,yae,yav] at hq;rcases hq with rfl|rfl|rfl|rfl|rfl
        all_goals
          simp only [aZ,aT,jY,gT,dJ,gG,zag,d0,d1,d2,d3,d4,hwl,rG,yap,yat,yaU] at hto;cases hlf
        · exact .inl ⟨rfl,by rw [←hsw,yak (by omega)],_,hsz,by have:=iH he.ret;simpa [AV.aP,AV.val,bB aW] using this,yu hdf aW bC,mv.trans he.mv,(he.rows.1 _ aW).2 (.inr (.inl rfl)) rfl,(he.rows.2.1 _ bC).2 (.inr (.inr rfl)) rfl⟩
        · exact .inl ⟨rfl,by rw [←hsw,yak (by omega)],_,hsz,by have:=iH he.ret;simpa [AV.aP,AV.val,bB aW] using this,yu hdf aW bC,mv.trans he.mv,(he.rows.1 _ aW).2 (.inr (.inl rfl)) rfl,(he.rows.2.1 _ bC).2 (.inr (.inr rfl)) rfl⟩
        · exact .inl ⟨rfl,by rw [←hsw,yak (.inr (.inr ⟨hto.2.2.1,hto.2.2.2⟩))],_,hsz,by have:=iH he.ret;simpa [AV.aP,AV.val,bB aW] using this,yu hdf aW bC,mv.trans he.mv,(he.rows.1 _ aW).2 (.inr (.inl rfl)) rfl,(he.rows.2.1 _ bC).2 (.inr (.inr rfl)) rfl⟩
        · refine fin hsz hdf aW bC he.mv ((he.rows.1 _ aW).2 (.inr (.inl rfl)) rfl) ?_ ?_ ?_
          · have:=(he.rows.2.1 _ bC).2 (.inr (.inr rfl)) rfl;simpa only [AV.aP,AV.val,den_add,d2,d4,hws] using this
          · have:=iH he.ret;rw [this];simp only [AV.aP,AV.val,bB aW,bB bC,d0,d1,den_add,zag,hkk];rfl
          · rw [←hsw,yai (by rintro (h|h|⟨h,h'⟩);omega;omega;exact absurd (h'.symm.trans hto.2.2.2) (by decide))]
        · refine fin hsz hdf aW bC he.mv ((he.rows.1 _ aW).2 (.inr (.inl rfl)) rfl) ?_ ?_ ?_
          · have:=(he.rows.2.1 _ bC).2 (.inr (.inr rfl)) rfl;simpa only [AV.aP,AV.val,den_add,d2,d4,hws] using this
          · have:=iH he.ret;rw [this];simp only [AV.aP,AV.val,bB aW,bB bC,d0,d1,den_add,zag,hkk];rfl
          · rw [←hsw,yai (by rintro (h|h|⟨h,h'⟩);omega;omega;exact absurd (h.symm.trans hto.2.2) (by decide))]
  · have hkk:k=l.length:=by omega
    subst hkk;rw [List.drop_length,jA] at hsw;have d0:(au 0).den (gq l.length l.length s ⟨0,0,false⟩ ⟨0,0,false⟩ (.slice sa l.length c))=l.length:=mh (by show (0:Int)≤l.length;omega) (by show ((l.length:Nat):Int)<_;omega);have d1:(au 1).den (gq l.length l.length s ⟨0,0,false⟩ ⟨0,0,false⟩ (.slice sa l.length c))=l.length:=mh (by show (0:Int)≤l.length;omega) (by show ((l.length:Nat):Int)<_;omega);have d2:(af 2).den (gq l.length l.length s ⟨0,0,false⟩ ⟨0,0,false⟩ (.slice sa l.length c))=s:=iI hs0 (by show s<_;omega);have hj1:aJ [(E,0),(C,0)] 1=some ⟨E,0,0,none⟩:=rfl;have hj2:aJ [(E,0),(C,0)] 2=some ⟨C,0,0,none⟩:=rfl;have hsx:Dw.R (gq l.length l.length s ⟨0,0,false⟩ ⟨0,0,false⟩ (.slice sa l.length c)) (aJ [(E,0),(C,0)]) (nQ []) (.slice sa l.length c):=⟨rfl,_,_,_,rfl,d0.symm,trivial⟩;refine ya3 (iM (ρ:=gq l.length l.length s ⟨0,0,false⟩ ⟨0,0,false⟩ (.slice sa l.length c)) (K:=fun b=>b=E∨b=C) (g:=aU.none) (bl:= [(E,0),(C,0)]) mixed zBT zEX hK
      ⟨gy oE (ai (aA rfl) RL.nil) (.inl rfl),gy oC (ai (aA d2) RL.nil) (.inr rfl),trivial⟩
      ⟨fun _ i b' s' h1 h2 h3=>(by match i,h1,h2 with|0,h1,_=>cases h1;exact hne|i+1,h1,_=>cases h1),fun _ i b' s' h1 h2 h3=>(by cases h1),trivial⟩
      eH trivial trivial trivial size (GI hj1 hj2 dF) ?_ (aZ.2 ⟨by rw [gT,d0,d1];simp,aT.2 trivial⟩)) fun ex a' w' hh=> ?_
    · intro t ht;simp only [JX,Cs,yac,yae,yav] at ht;rcases ht with rfl|rfl|rfl|rfl|rfl|rfl
      · rw [s0];exact hsx
      · rw [s2];exact bT hj1
      · rw [s3];exact bT hj2
      · rw [s10];exact hsx
      · rw [s11];exact aA d0
      · rw [s12];exact aA d1
    · obtain ⟨q,hq,hto,lf,hlf,rfl,hsz,j,hdf,he⟩:=hh;have aW:=he.sub _ _ hj1;have bC:=he.sub _ _ hj2;unfold zze at hq;simp only [yac,yae,yav] at hq;subst hq;cases hlf;refine .inr ⟨rfl,s,hs0,by omega,hsw.symm,hsz,by have:=iH he.ret;simpa [AV.aP,AV.val,bB aW] using this,yu hdf aW bC,mv.trans he.mv,(he.rows.1 _ aW).2 (.inr (.inl rfl)) rfl,?_⟩;have:=(he.rows.2.1 _ bC).2 (.inr (.inr rfl)) rfl;simpa only [AV.aP,AV.val,d2] using this
open Go.Maps Go.Sort
set_option maxRecDepth 100000 in
theorem Tryz.zny (E C:Nat) (e sum:Int) (u:FrameMode) (w:World) (hE:w.cell? ⟨E,0,none⟩=some (.int .i64 e)) (fE:w.frozen? ⟨E,0,none⟩=false) (hC:w.cell? ⟨C,0,none⟩=some (.int .u64 sum)):
  CallsD prog 118 #[.pointer (some ⟨E,0,none⟩),.pointer (some ⟨C,0,none⟩)] u w fun ed u' w'=>u'=u∧ed= .returned (.tuple #[])∧w'=if e=0∧4294967296≤sum then w.setCell ⟨E,0,none⟩ (.int .i64 2) else w:=by
 refine callsD_of_wp func118 rfl ?_;simp only [ntmps118,yci,yaW,ybv,Nat.reduceAdd,Nat.reduceSub,Array.replicate_succ,Array.replicate_zero,List.push_toArray,List.append_toArray,ycd,yb3];by_cases h0:e=0
 ·subst h0;by_cases h1:4294967296≤sum
  ·rw [yak ⟨rfl,h1⟩];go_wp2;go_end0;exact ⟨rfl,rfl⟩
  ·rw [yai (fun h=>h1 h.2)];go_wp2;go_end0;exact ⟨rfl,rfl⟩
 ·rw [yai (fun h=>h0 h.1)];go_wp2;go_end0;exact ⟨rfl,rfl⟩
theorem Tryz.ztg {w:World} {b:Nat} {v:Value} (h:Own w b [v]):w.cell? ⟨b,0,none⟩=some v∧w.frozen? ⟨b,0,none⟩=false:=by
 obtain ⟨arr,e,h1,h2⟩:=h;exact ⟨by simp [World.cell?,h1,h2 0 v rfl],by simp [World.frozen?,h1]⟩
theorem Tryz.zxL (w:World) (cs:List Value) (t:TypeId):Own (w.alloc (.cells cs.toArray t)) w.heap.size cs:=⟨cs.toArray,t,by unfold World.alloc;exact yd0,fun i y h=>by rw [yaz];exact h⟩
set_option maxRecDepth 100000 in
theorem Tryz.PG {A:Nat→Prop} {w:World} {v:Value} {l:List Sg} (h:aL A w v l):
  Calls prog 88 #[v] w fun e w'=>e= .returned (.int .i64 (gM l))∧Below w.heap.size w w':=by
 obtain ⟨sa,c,rfl,hok,hr⟩:=h;unfold gM;by_cases hlen:64<l.length
 ·rw [yak hlen];have hb0:=(yag w.heap.size w).alloc (yab _) (.cells #[.int .i64 3] 38);go_enter_defers func88,ntmps88;go_wp2;have hE:(w.alloc (.cells #[.int .i64 3] 38)).cell? ⟨w.heap.size,0,none⟩=some (.int .i64 3):=by simp
  simp only [bodyPostD,Leaves];refine ⟨.int .i64 3,?_,rfl,hb0⟩;simp [results,results88,go_sem,hE]
 ·rw [yai hlen];go_enter_defers func88,ntmps88;go_wp2;have o1:=zxL w [.int .i64 0] 38;have o2:=zxL (w.alloc (.cells #[.int .i64 0] 38)) [.int .u64 0] 30;have hs1:(w.alloc (.cells #[.int .i64 0] 38)).heap.size=w.heap.size+1:=ydL _ _;rw [hs1] at o2;have o1':Own ((w.alloc (.cells #[.int .i64 0] 38)).alloc (.cells #[.int .u64 0] 30)) w.heap.size [.int .i64 0]:=o1.kept (ycm _ _ _ (by rw [hs1];omega));have hbb:=((yag w.heap.size w).alloc (yab _) (.cells #[.int .i64 0] 38)).alloc (by rw [hs1];omega) (.cells #[.int .u64 0] 30);have hsz:((w.alloc (.cells #[.int .i64 0] 38)).alloc (.cells #[.int .u64 0] 30)).heap.size=w.heap.size+2:=by rw [ydL,hs1]
  have hr':l= []∨ ∃R o,sa=some ⟨R,o,none⟩∧R≠w.heap.size∧R≠w.heap.size+1∧((w.alloc (.cells #[.int .i64 0] 38)).alloc (.cells #[.int .u64 0] 30)).rangeAt R o (dX l):=by
   rcases hr with h0|⟨R,o,e,_,hr⟩
   ·exact .inl h0
   ·by_cases h0:l= []
    ·exact .inl h0
    ·have hR:=uz hr h0;exact .inr ⟨R,o,e,by omega,by omega,gL hr (hbb.block R hR)⟩
  generalize (w.alloc (.cells #[.int .i64 0] 38)).alloc (.cells #[.int .u64 0] 30)=W at*;refine kF (c':= .loop (bf prog [0,0,1,0,1,1,1,1,88])) (by kernel_rfl) ?_;refine xQ (fun k a w'=>Gw l sa c w.heap.size (w.heap.size+1) W k a w') (fun k=>l.length-k) (fun k a w' hI=>ya3 (zBZ hI (by omega) hok (by omega) (by omega) (by omega) hr') fun ex a' w2 hh=> ?_) 0 _ _ ?_
  ·have leave: ∀ {e s:Int} {a':Act} {w2:World},LY w.heap.size (w.heap.size+1) W e s a' w2→jA false 0 l=(if e=0∧4294967296≤s then 2 else e)→
     bodyPostD prog f88 (fun e w'=>e=Ending.returned (Value.int IntKind.i64 (jA false 0 l))∧RowKit.Below w.heap.size w w') .ret a' w2:=fun {e s a' w2} ho hV=>by
    obtain ⟨d,hd,args,cap,e1,e2,e3⟩:=ho.dF;have hm2:RowKit.Below w.heap.size w w2:=⟨ho.mv.os.trans hbb.os,ho.mv.tape.trans hbb.tape,ho.mv.output.trans hbb.output,yau hbb.size ho.mv.size,fun k hk=>(ho.mv.block k (by omega) (by omega)).trans (hbb.block k hk)⟩;obtain ⟨cE,fE⟩:=ztg ho.oE;obtain ⟨cC,fC⟩:=ztg ho.oC;simp only [bodyPostD,hd,Leaves];have e3:args++cap= #[.pointer (some ⟨w.heap.size,0,none⟩),.pointer (some ⟨w.heap.size+1,0,none⟩)]:=by rw [←Array.toList_inj];exact e3
    refine ⟨by simp,.func 118,cap,118,#[.pointer (some ⟨w.heap.size,0,none⟩),.pointer (some ⟨w.heap.size+1,0,none⟩)],e1,by rw [e1,e2,←e3];simp [go_sem],?_⟩;refine (zny w.heap.size (w.heap.size+1) e s .returning w2 cE fE cC).mono ?_;rintro ed u' w9 ⟨rfl,rfl,rfl⟩;simp only [Leaves,settle];have hp:a'.tmps.getD 2 undef= .pointer (some ⟨w.heap.size,0,none⟩):=ho.s2;by_cases h0:e=0∧4294967296≤s
    ·rw [yak h0] at hV ⊢;have dE2:(w2.setCell ⟨w.heap.size,0,none⟩ (.int .i64 2)).cell? ⟨w.heap.size,0,none⟩=some (.int .i64 2):=ybO _ _ _ (by rw [cE];rfl);refine ⟨.int .i64 2,?_,by rw [hV],hm2.setCell (p:=⟨w.heap.size,0,none⟩) (yab _) _⟩;have hp':a'.tmps[2]?.getD undef= .pointer (some ⟨w.heap.size,0,none⟩):=by simpa using hp
     simp [results,results88,go_sem,hp',dE2]
    ·rw [yai h0] at hV ⊢;refine ⟨.int .i64 e,?_,by rw [hV],hm2⟩;have hp':a'.tmps[2]?.getD undef= .pointer (some ⟨w.heap.size,0,none⟩):=by simpa using hp
     simp [results,results88,go_sem,hp',cE]
   cases ex with
   | normal=>exact ⟨k+1,by omega,hh.2⟩
   | ret=>
    rcases hh with ⟨_,hV,s,ho⟩|⟨h,_⟩
    ·exact leave ho (by rw [hV];simp)
    ·cases h
   | exit i=>
    rcases hh with ⟨h,_⟩|⟨h,s,hq0,hq1,hV,ho⟩
    ·cases h
    ·cases h;simp only [Exit.inBlock,Exit.then,yak];rename_i K hK;refine hK _ _ (kF (c':=bf prog [1,1,1,1,1,88]) (by kernel_rfl) ?_);have hj1:aJ [(w.heap.size,0),(w.heap.size+1,0)] 1=some ⟨w.heap.size,0,0,none⟩:=rfl;have hj2:aJ [(w.heap.size,0),(w.heap.size+1,0)] 2=some ⟨w.heap.size+1,0,0,none⟩:=rfl;have d2:(af 2).den (gq 0 0 s ⟨0,0,false⟩ ⟨0,0,false⟩ undef)=s:=iI hq0 hq1;refine ya3 (iM (ρ:=gq 0 0 s ⟨0,0,false⟩ ⟨0,0,false⟩ undef) (K:=fun b=>b=w.heap.size∨b=w.heap.size+1) (g:=aU.none) (bl:= [(w.heap.size,0),(w.heap.size+1,0)]) mixed zEV zGg (fun b hb=>by rcases hb with rfl|rfl;exact qH ho.oE;exact qH ho.oC)
      ⟨gy ho.oE (ai (aA rfl) RL.nil) (.inl rfl),gy ho.oC (ai (aA d2) RL.nil) (.inr rfl),trivial⟩
      ⟨fun _ i b' s' h1 h2 h3=>(by match i,h1,h2 with|0,h1,_=>cases h1;show w.heap.size≠w.heap.size+1;omega|i+1,h1,_=>cases h1),fun _ i b' s' h1 h2 h3=>(by cases h1),trivial⟩
      eH trivial trivial trivial ho.size (GI hj1 hj2 ho.dF) ?_ (aT.2 trivial)) fun ex a3 w3 hh=> ?_
     ·intro t ht;simp only [J6,yac,yae,yav] at ht;subst ht;rw [ho.s2];exact bT hj1
     ·obtain ⟨q,hq,hto,lf,hlf,rfl,Ui,j,hdf,he⟩:=hh;have aW:=he.sub _ _ hj1;have bC:=he.sub _ _ hj2;unfold Vw at hq;simp only [yac,yae,yav] at hq;subst hq;cases hlf;have oC:=(he.rows.2.1 _ bC).2 (.inr (.inr rfl)) rfl;simp only [AV.aP,AV.val,d2] at oC;refine leave (e:=0) ⟨Ui,by have:=iH he.ret;simpa [AV.aP,AV.val,bB aW] using this,yu hdf aW bC,ho.mv.trans he.mv,(he.rows.1 _ aW).2 (.inr (.inl rfl)) rfl,oC⟩ (by rw [hV];simp)
   | _=>rcases hh with ⟨h,_⟩|⟨h,_⟩<;>cases h
  ·exact ⟨yax _,rfl,rfl,rfl,rfl,rfl,rfl,rfl,⟨_,rfl,_,_,rfl,rfl,rfl⟩,Dw.Mv.refl _ _,false,0,o1',o2,ybC _,by simp,rfl,fun _=>rfl,fun i hi=>by omega⟩
end Go.Proofs
namespace Go.Proofs
open Go.Dw Go.RowKit
def Tryz.sl1 (l:List (SE×Nat)):AV:= .sx 1 (au 0) 3 l
open Go.Maps Go.Sort Go.Deep
def Tryz.qV (F:Nat→Prop) (w:World) (sa:Option Addr) (l:List Sg):Prop:=l= []∨ ∃R o,sa=some ⟨R,o,none⟩∧F R∧w.rangeAt R o (dX l)
theorem Tryz.qV.kept {F:Nat→Prop} {w w':World} {sa:Option Addr} {l:List Sg} (h:qV F w sa l) (hb: ∀b,F b→w'.heap[b]? =w.heap[b]?):qV F w' sa l:=by
 rcases h with h|⟨R,o,e,hF,hr⟩
 ·exact .inl h
 ·exact .inr ⟨R,o,e,hF,gL hr (hb R hF)⟩
theorem Tryz.qV.v {F:Nat→Prop} {w:World} {sa:Option Addr} {l:List Sg} (h:qV F w sa l) (hok: ∀x∈l,x.ok) (c:Nat):aL (fun _=>False) w (.slice sa l.length c) l:=by
 rcases h with h|⟨R,o,e,hF,hr⟩
 ·exact ⟨sa,c,rfl,hok,.inl h⟩
 ·exact ⟨sa,c,rfl,hok,.inr ⟨R,o,e,fun h=>h,hr⟩⟩
def Tryz.xE (sa:Option Addr) (l:List Sg):aU where
 fact k _ F w:=qV F w sa l
 loc:=fun k _ _ F w w' h _ hb hs=>h.kept hb
theorem Tryz.Cw (k:Nat) (h:k<4611686018427387904):IntKind.wrap .i64 ((k:Int)+1)=((k+1:Nat):Int):=by rw [gV (by omega) (by omega)];omega
def Tryz.dZ (wr:Bool):List Sg→Int
 | [] => 0
 | x::r=>if x.wr=wr then x.len+dZ wr r else dZ wr r
def Tryz.iT (l:List Sg):Int×Int:=if gM l=0 then (dZ false l,dZ true l) else (0,0)
theorem Tryz.zP (b:Bool): ∀(l:List Sg),(∀x∈l,x.ok)→0≤dZ b l∧dZ b l≤l.length*4294967296
 | [], _=>by simp [dZ]
 | x::r,h=>by
  obtain ⟨h1,h2⟩:=zP b r fun y hy=>h y (yaB _ hy);obtain ⟨_,_,h3,h4⟩:=h x (yaG ..);unfold dZ;have e:(((x::r).length:Nat):Int)=r.length+1:=by simp
  rw [e];split<;>omega
theorem Tryz.Jl (b:Bool) (l:List Sg) (k:Nat) (h:k<l.length):dZ b (l.take (k+1))=dZ b (l.take k)+(if l[k].wr=b then l[k].len else 0):=by
 induction l generalizing k with
 | nil=>simp at h
 | cons x r ih=>
  cases k with
  | zero=>simp only [List.take_succ_cons,List.take_zero,dZ,yc7];split<;>simp
  | succ k=>
   have:=ih k (by simpa using h);simp only [List.take_succ_cons,dZ,yb6];rw [this];split<;>omega
theorem Tryz.Qm {l:List Sg} (h:gM l=0):l.length≤64:=by
 unfold gM at h;split at h
 ·omega
 ·omega
theorem Tryz.JF {A:Nat→Prop} {w:World} {sa:Option Addr} {c:Nat} {l:List Sg} (h:aL A w (.slice sa l.length c) l):(xE sa l).G 0 (aJ []) w:=by
 obtain ⟨sa',c',e,hok,hr⟩:=h;injection e with e1 _ e3;subst e1;refine ⟨fun b=>b<w.heap.size,fun b hb=>⟨hb,fun hm=> ?_⟩,?_⟩
 ·obtain ⟨k,L,h1,_⟩:=hm;cases k<;>cases h1
 ·by_cases h0:l= []
  ·exact .inl h0
  ·rcases hr with h|⟨R,o,e,_,hr⟩
   ·exact .inl h
   ·exact .inr ⟨R,o,e,uz hr h0,hr⟩
theorem Tryz.Gj {ρ:Val} {j:J} {sa:Option Addr} {c:Nat} {l:List Sg} (hv:ρ.v 1= .slice sa l.length c) (d0:(au 0).den ρ=l.length):Dw.R ρ j (sl1 []) (.slice sa l.length c):=⟨hv.symm,sa,_,c,rfl,d0.symm,trivial⟩
structure Tryz.Gx (a b:Int):Prop where
 eq:a=b
set_option maxRecDepth 100000 in
theorem Tryz.zn2 {A:Nat→Prop} {w:World} {v:Value} {l:List Sg} (h:aL A w v l) (hln:l.length<4611686018427387904):
    Calls prog 60 #[v] w fun e w'=>e= .returned (.tuple #[.int .u64 (iT l).1,.int .u64 (iT l).2])∧Below w.heap.size w w':=by
  have hck:=PG h;obtain ⟨sa,c,rfl,hok,hr⟩:=h;unfold iT;by_cases he:gM l=0
  · rw [yak he];rw [he] at hck;have hl:=Qm he;have hS1:(fun _:Unit=>dZ false l)=fun _=>dZ false (l.take l.length):=by rw [ycG]
    have hS2:(fun _:Unit=>dZ true l)=fun _=>dZ true (l.take l.length):=by rw [ycG]
    go_enter func60,ntmps60;go_wp2_with (first
      | (go_at_call 88;refine hck.mono ?_;rintro en w3 ⟨rfl,hb3⟩)
      | go_in)
    go_loopw [2,3,5,11] (fun x y z i wr=>Below w.heap.size w wr∧ ∃k:Nat,k≤l.length∧i= .int .i64 k∧x= .int .u64 (dZ false (l.take k))∧y= .int .u64 (dZ true (l.take k))) (fun _ _ _ i _=>l.length-(RowKit.intOf i).toNat)
    case atStart=>exact ⟨hb3,0,yax _,rfl,rfl,rfl⟩
    case round=>
      obtain ⟨hb2,k,hk,rfl,rfl,rfl⟩:=hrel;by_cases hkl:k<l.length
      · have hkl':(k:Int)<l.length:=by omega
        rcases hr with hr|⟨R,o,rfl,A9,hr⟩
        · subst hr;simp at hkl
        obtain ⟨d0,d1,d2⟩:=EI l k hkl;have g0:=hr _ _ d0;have g1:=hr _ _ d1;have g2:=hr _ _ d2;have hRl:R<w.heap.size:=yan w _ g1;replace g0:=(hb2.cell (p:=⟨R,o+3*k,none⟩) hRl).trans g0;replace g1:=(hb2.cell (p:=⟨R,o+(3*k+1),none⟩) hRl).trans g1;replace g2:=(hb2.cell (p:=⟨R,o+(3*k+2),none⟩) hRl).trans g2;rw [ybH 3 k] at g0;rw [show o+(3*k+1)=o+k*3+1 by omega] at g1;rw [show o+(3*k+2)=o+k*3+2 by omega] at g2;obtain ⟨q1,q2,q3,q4⟩:=hok l[k] (yaL hkl);have hs1:=Jl false l k hkl;have hs2:=Jl true l k hkl;have b1:=zP false (l.take (k+1)) (fun y hy=>hok y (ybA hy));have b2:=zP true (l.take (k+1)) (fun y hy=>hok y (ybA hy));have hlt:(l.take (k+1)).length≤64:=by simp;omega
        have u0:IntKind.wrap .u64 l[k].len=l[k].len:=bE q3 (by omega);have hA:=fun o:Obj=>hb2.alloc hb2.size o;clear hr d0 d1 d2 hS1 hS2 hck;cases hw:l[k].wr
        all_goals
          rw [hw] at g2 hs1 hs2;simp only [ybU,ybm,yds,reduceCtorEq] at hs1 hs2;rw [hs1] at b1;rw [hs2] at b2;have qg:(Gx (dZ false (l.take (k+1))) _):=⟨hs1⟩;have wT:(Gx (dZ true (l.take (k+1))) _):=⟨hs2⟩;clear hs1 hs2
        · have u1:IntKind.wrap .u64 (dZ false (l.take k)+l[k].len)=dZ false (l.take k)+l[k].len:=bE (by omega) (by omega);go_wp2_with fail;exact ⟨⟨hA _,k+1,by omega,by push_cast;rfl,by rw [qg.eq],by rw [wT.eq]⟩,by simp only [RowKit.intOf];omega⟩
        · have u1:IntKind.wrap .u64 (dZ true (l.take k)+l[k].len)=dZ true (l.take k)+l[k].len:=bE (by omega) (by omega);go_wp2_with fail;exact ⟨⟨hA _,k+1,by omega,by push_cast;rfl,by rw [qg.eq],by rw [wT.eq]⟩,by simp only [RowKit.intOf];omega⟩
      · have hkl': ¬(k:Int)<l.length:=by omega
        go_wp2;go_ret2;have:k=l.length:=by omega
        subst this;exact ⟨by rw [ybV hS1 (),ybV hS2 ()];rfl,hb2⟩
  · rw [yai he];have he2:(gM l==0)=false:=by simpa using he
    go_enter func60,ntmps60;go_wp2_with (first
      | (go_at_call 88;refine hck.mono ?_;rintro en w3 ⟨rfl,hb3⟩)
      | go_in)
    all_goals
      go_ret2;exact ⟨rfl,hb3⟩
def Tryz.Ad (N:Nat):List Sg→Bool
 | [] => true
 | x::r=>decide (1≤x.len∧x.di+x.len≤N)&&Ad N r
def Tryz.oH (N:Nat) (l:List Sg):Int:=if gM l=0 then (if Ad N l=true then 0 else 5) else gM l
theorem Tryz.EU {N:Nat}: ∀ {l:List Sg},Ad N l=true↔ ∀x∈l,1≤x.len∧x.di+x.len≤N
 | [] => by simp [Ad]
 | y::r=>by
  unfold Ad;rw [yba,decide_eq_true_iff,EU (l:=r)];constructor
  ·rintro ⟨h1,h2⟩ x hx;rcases yac.1 hx with rfl|hx
   ·exact h1
   ·exact h2 x hx
  ·intro h;exact ⟨h y (by simp),fun x hx=>h x (by simp [hx])⟩
set_option maxRecDepth 100000 in
theorem Tryz.zwJ {A:Nat→Prop} {w:World} {P L Bs B N:Nat} {g:Nat→Int} {sa:Option Addr} {c:Nat} {l:List Sg} (hm:GM w P L Bs B N g) (hN:N≤1048576) (h1:1≤N) (h:aL A w (.slice sa l.length c) l) (hln:l.length<4611686018427387904)
    (MP: ∀R o,sa=some ⟨R,o,none⟩→R≠P∧R≠L∧R≠Bs∧R≠B):
    Calls prog 163 #[.pointer (some ⟨P,0,none⟩),.slice sa l.length c] w fun e w'=>e= .returned (.int .i64 (oH N l))∧Below w.heap.size w w':=by
  clear MP;have hck:=PG h;have hrd:=EY P L Bs B N 0 g w hm;obtain ⟨sa',c',e',hok,hr⟩:=h;cases e';unfold oH;by_cases he:gM l=0
  · rw [yak he];rw [he] at hck;have hl:=Qm he;obtain ⟨z,hz⟩: ∃z,Gx z (if Ad N l=true then 0 else 5):=⟨_,⟨rfl⟩⟩;rw [←hz.eq];go_enter func163,ntmps163;go_wp2_with (first
      | (go_at_call 71;refine hrd.mono ?_;rintro en w2 ⟨rfl,hw2⟩;have hw2:=hw2.symm;subst hw2)
      | (go_at_call 88;refine hck.mono ?_;rintro en w3 ⟨rfl,hb3⟩)
      | go_in)
    go_loopw [9,25] (fun z i wr=>Below w.heap.size w wr∧ ∃k:Nat,k≤l.length∧i= .int .i64 k∧ ∀(j:Nat) (hj:j<l.length),j<k→1≤l[j].len∧l[j].di+l[j].len≤N) (fun _ i _=>l.length-(RowKit.intOf i).toNat)
    case atStart=>exact ⟨hb3,0,yax _,rfl,fun j _ hj=>absurd hj (by omega)⟩
    case round=>
      obtain ⟨hb2,k,hk,rfl,hall⟩:=hrel;by_cases hkl:k<l.length
      · have hkl':(k:Int)<l.length:=by omega
        rcases hr with hr|⟨R,o,rfl,A9,hr⟩
        · subst hr;simp at hkl
        obtain ⟨d0,d1,d2⟩:=EI l k hkl;have g0:=hr _ _ d0;have g1:=hr _ _ d1;have g2:=hr _ _ d2;have hRl:R<w.heap.size:=yan w _ g1;replace g0:=(hb2.cell (p:=⟨R,o+3*k,none⟩) hRl).trans g0;replace g1:=(hb2.cell (p:=⟨R,o+(3*k+1),none⟩) hRl).trans g1;replace g2:=(hb2.cell (p:=⟨R,o+(3*k+2),none⟩) hRl).trans g2;rw [ybH 3 k] at g0;rw [show o+(3*k+1)=o+k*3+1 by omega] at g1;rw [show o+(3*k+2)=o+k*3+2 by omega] at g2;obtain ⟨q1,q2,q3,q4⟩:=hok l[k] (yaL hkl);have u0:IntKind.wrap .u64 l[k].len=l[k].len:=bE q3 (by omega);have hhas:=fun w4 (h4:Below w.heap.size w w4)=>zyx P L Bs B N l[k].di l[k].len g w4 (hm.below h4) hN h1 q1 q2 q3;have hin2:Ad N l=true→1≤l[k].len∧l[k].di+l[k].len≤N:=fun h=>EU.1 h l[k] (yaL hkl);clear hr d0 d1 d2 hck hrd;generalize hat:l[k].di=a1 at*;generalize hln:l[k].len=n1 at*;have hA:=fun o:Obj=>hb2.alloc hb2.size o;by_cases hin:1≤n1∧a1+n1≤N
        · rw [ya1 hin] at hhas;go_wp2_with (first
            | (go_at_call 167;refine (hhas _ (hA _)).mono ?_;rintro en w5 ⟨rfl,hb5⟩)
            | go_in)
          refine ⟨⟨(hA _).trans (hb5.mono (hA _).size),k+1,by omega,by push_cast;rfl,fun j hj hlt=> ?_⟩,by simp only [RowKit.intOf];omega⟩;by_cases hjk:j=k
          · subst hjk;rw [hat,hln];exact hin
          · exact hall j hj (by omega)
        · rw [ybd hin] at hhas;go_wp2_with (first
            | (go_at_call 167;refine (hhas _ (hA _)).mono ?_;rintro en w5 ⟨rfl,hb5⟩)
            | go_in)
          go_ret;exact ⟨by rw [hz.eq,yai fun h=>hin (hin2 h)];rfl,(hA _).trans (hb5.mono (hA _).size)⟩
      · have hkl': ¬(k:Int)<l.length:=by omega
        go_wp2;go_ret;exact ⟨by
          rw [hz.eq,yak (EU.2 fun x hx=>by
            obtain ⟨j,hj,rfl⟩:=ydg hx;exact hall j hj (by omega))]
          rfl,hb2⟩
  · rw [yai he];have he2:(gM l==0)=false:=by simpa using he
    go_enter func163,ntmps163;go_wp2_with (first
      | (go_at_call 71;refine hrd.mono ?_;rintro en w2 ⟨rfl,hw2⟩;have hw2:=hw2.symm;subst hw2)
      | (go_at_call 88;refine hck.mono ?_;rintro en w3 ⟨rfl,hb3⟩)
      | go_in)
    all_goals
      go_ret;exact ⟨rfl,hb3⟩
end Go.Proofs
namespace Go.Dw
open Go.RowKit
structure mG where
 e:aK
 rows:List (Nat×List AV×List AV)
def isVar (H:Heap) (n:Nat) (row row':List AV):Bool:=
 match H.m.get n with
 | some (.cells v 0 g none false true)=>(match Nat.beq g n,Nat.beq v.n row.length,Nat.beq row'.length row.length with
  | true,true,true=>AV.pV (v.list 0 v.n) row
  | _,_,_=>false)
 | _=>false
def K7 (H:Heap):List (Nat×List AV×List AV)→Bool
 | [] => true
 | r::l=>match isVar H r.1 r.2.1 r.2.2 with|true=>K7 H l|false=>false
def vN (H:Heap):List (Nat×List AV×List AV)→Heap
 | [] => H
 | r::l=>vN (H.upd r.1 (.cells (Vec.ofList r.2.2) 0 r.1 none false true)) l
def vO:List (Nat×List AV×List AV)→List Nat
 | [] => []
 | r::l=>r.1::vO l
def Ku:List (Nat×List AV×List AV)→List (Nat×List AV)
 | [] => []
 | r::l=>(r.1,r.2.1)::Ku l
def IJ:List Nat→List Nat→Bool
 | [], _=>true
 | a::l,m=>match m.any (Nat.beq a) with|true=>IJ l m|false=>false
def mG.fits (e:mG) (f:FuncId) (args:List AV) (H:Heap):Bool:=
 match e.e.fits f args H,K7 H e.rows,pE H (Ku e.rows),IJ (vO e.rows) (AV.lG args) with
 | true,true,true,true=>CB (vO e.rows)
 | _,_,_,_=>false
theorem Xi: ∀ {l:List (Nat×List AV×List AV)} {r},r∈l→(r.1,r.2.1)∈Ku l
 | [], r,h=>by cases h
 | x::l,r,h=>by
  unfold Ku;rcases yac.1 h with rfl|h
  ·exact yaG ..
  ·exact yaB _ (Xi h)
theorem QK: ∀ {l m:List Nat},IJ l m=true→ ∀a∈l,a∈m
 | [], _,_,a,h=>by cases h
 | x::l,m,hs,a,h=>by
  unfold IJ at hs;split at hs
  case h_2=>cases hs
  rename_i h1;rcases yac.1 h with rfl|h
  ·obtain ⟨y,h2,h3⟩:=ydu.1 h1;rw [bK h3];exact h2
  ·exact QK hs a h
def FD:List mG→FuncId→List AV→Heap→Option (List (AV×Heap))
 | [], _,_,_=>none
 | e::l,f,args,H=>match e.fits f args H with
  | true=>some [(e.e.res,vN (e.e.heap H) e.rows)]
  | false=>FD l f args H
def xY (l:List aK) (m:List mG):FuncId→List AV→Heap→Option (List (AV×Heap)):=fun f args H=>
 match bG l f args H with
 | some r=>some r
 | none=>FD m f args H
def uF (j:J) (rows:List (Nat×List AV×List AV)) (b:Nat):Prop:= ∃r∈rows,∃L,j r.1=some L∧b=L.blk
def Ww (P:Program) (ρ:Val) (w0:World) (K:Nat→Prop) (g:aU) (e:mG):Prop:=
 Enters P e.e.f∧ ∀(j:J) (w:World) (vals:List Value) (F:Nat→Prop) (n:Nat),RL ρ j e.e.args vals→(∀k,n≤k→j k=none)→(e.e.fZ≠0→n=e.e.base)→(∀b,F b→b<w.heap.size)→w0.heap.size≤w.heap.size→
  (∀ r∈e.rows,∃L vs,j r.1=some L∧L.off=0∧(w0.heap.size≤L.blk∨K L.blk)∧ ¬F L.blk∧RL ρ j r.2.1 vs∧Own w L.blk vs)→
  (∀ r∈e.rows,∀r'∈e.rows,r.1≠r'.1→ ∀L L',j r.1=some L→j r'.1=some L'→L.blk≠L'.blk)→g.fact e.e.gs (gQ j) F w→
   Calls P e.e.f vals.toArray w fun en w'=> ∃u qs F',en= .returned u∧qs.length=e.e.fZ∧R ρ (jq j n qs) e.e.res u∧g.fact e.e.gs' (gQ (jq j n qs)) F' w'∧(∀b,F' b→b<w'.heap.size∧(F b∨w.heap.size≤b))∧
    (∀ r∈e.rows,∀L,j r.1=some L→ ∃vs,RL ρ (jq j n qs) r.2.2 vs∧Own w' L.blk vs)∧Mv (fun b=>(F b∧(w0.heap.size≤b∨K b))∨uF j e.rows b) w w'
def K9 (P:Program) (ρ:Val) (w0:World) (K:Nat→Prop) (g:aU):List mG→Prop
 | [] => True
 | e::l=>Ww P ρ w0 K g e∧K9 P ρ w0 K g l
def JM:List (Nat×List AV×List AV)→Bool
 | [] => true
 | r::l=>match AV.bQ r.2.1,AV.bQ r.2.2 with|true,true=>JM l|_,_=>false
def zO:List mG→Bool
 | [] => true
 | e::l=>match AV.bQ e.e.args,e.e.res.small,JM e.rows with|true,true,true=>zO l|_,_,_=>false
theorem O7: ∀ {l:List (Nat×List AV×List AV)},JM l=true→ ∀r∈l,AV.bQ r.2.1=true∧AV.bQ r.2.2=true
 | [], _,r,h=>by cases h
 | x::l,hl,r,h=>by
  unfold JM at hl;split at hl
  ·rename_i h1 h2;rcases yac.1 h with rfl|h
   ·exact ⟨h1,h2⟩
   ·exact O7 hl r h
  ·cases hl
theorem zBg {H:Heap} {n:Nat} {row row':List AV} (h:isVar H n row row'=true): ∃v,H.m.get n=some (.cells v 0 n none false true)∧v.n=row.length∧row'.length=row.length∧v.list 0 v.n=row:=by
 unfold isVar at h;split at h
 case h_2=>cases h
 rename_i v g hm;split at h
 case h_2=>cases h
 rename_i h1 h2 h3;have h1:=bK h1;subst h1;exact ⟨v,hm,bK h2,bK h3,AV.sQ h⟩
theorem Zt {H:Heap}: ∀ {l:List (Nat×List AV×List AV)},K7 H l=true→ ∀r∈l,isVar H r.1 r.2.1 r.2.2=true
 | [], _,r,h=>by cases h
 | x::l,hl,r,h=>by
  unfold K7 at hl;split at hl
  ·rename_i h1;rcases yac.1 h with rfl|h
   ·exact h1
   ·exact Zt hl r h
  ·cases hl
theorem zrn {n:Nat} {l:List Nat} (h:CB (n::l)=true):n∉l∧CB l=true:=by
 unfold CB at h;split at h
 ·cases h
 ·rename_i hh;refine ⟨fun hm=> ?_,h⟩;have:l.any (Nat.beq n)=true:=ydu.2 ⟨n,hm,by simp⟩;rw [this] at hh;cases hh
theorem PU: ∀ {l:List (Nat×List AV×List AV)} {r},r∈l→r.1∈vO l
 | [], r,h=>by cases h
 | x::l,r,h=>by
  unfold vO;rcases yac.1 h with rfl|h
  ·exact yaG ..
  ·exact yaB _ (PU h)
theorem Inv.turns {ρ:Val} {x:Cx} {j:J} {w':World}: ∀(rows:List (Nat×List AV×List AV)) {H:Heap} {wm:World},Inv ρ x j H wm→CB (vO rows)=true→
  (∀ r∈rows,∃v L vs,H.m.get r.1=some (.cells v 0 r.1 none false true)∧v.n=r.2.2.length∧j r.1=some L∧L.off=0∧RL ρ j r.2.2 vs∧Own w' L.blk vs)→
  (∀ r∈rows,∀r'∈rows,r.1≠r'.1→ ∀L L',j r.1=some L→j r'.1=some L'→L.blk≠L'.blk)→
  (∃ hp:Array Go.Obj,wm= { w' with heap:=hp })→wm.heap.size=w'.heap.size→(∀b,¬uF j rows b→wm.heap[b]? =w'.heap[b]?)→
  Inv ρ x j (vN H rows) w'
 | [], H,wm,hi,_,_,_,⟨hp,hw⟩,hsz,hout=>by
  have:hp=w'.heap:=by
   apply ycx;intro i;have:=hout i (by rintro ⟨r,h,_⟩;cases h);rw [hw] at this;exact this
  subst this;rw [hw] at hi;exact hi
 | r::rows,H,wm,hi,hnd,hr,hne,⟨hp,hw⟩,hsz,hout=>by
  obtain ⟨hn1,hn2⟩:=zrn hnd;obtain ⟨v,L,vs,h1,h2,h3,h4,h5,arr,e,h6,h7⟩:=hr r (yaG ..);have hlt:L.blk<wm.heap.size:=hi.blk _ _ h3 (hi.lJ h3 h1);have hb:=(hi.obj _ _ h3)
  let w1:World:= { w' with heap:=wm.heap.setIfInBounds L.blk (.cells arr e (0,0)) }
  have hset:w1.heap[L.blk]? =some (.cells arr e (0,0)):=by
   show (wm.heap.setIfInBounds L.blk _)[L.blk]? =_;rw [Array.getElem?_setIfInBounds_self_of_lt hlt]
  have hoth: ∀k,k≠L.blk→w1.heap[k]? =wm.heap[k]? :=fun k hk=>by
   show (wm.heap.setIfInBounds L.blk _)[k]? =_;rw [ybS (fun h=>hk h.symm)]
  have hlen:=RL.length h5;have hcell: ∀i a,r.2.2[i]? =some a→ ∃x,arr[L.off+i]? =some x∧R ρ j a x:=fun i a hi'=>by
   obtain ⟨x,q1,q2⟩:=h5.get i a hi';exact ⟨x,by rw [h4,yaq];exact h7 i x q1,q2⟩
  have hn:L.off+v.n≤arr.size:=by
   rcases ybk v.n with h0|h0
   ·omega
   ·obtain ⟨x,q1,_⟩:=hcell (v.n-1) _ (yam (by omega));have:=(yar.1 q1).1;omega
  have hi1:=hi.turned h3 h1 h2.symm hset hoth (by show (wm.heap.setIfInBounds L.blk _).size=_;simp) (by rw [hw]) (by rw [hw]) (by rw [hw]) hn hcell;unfold vN;rw [Heap.nZ];refine Inv.turns rows hi1 hn2 (fun r' hr'=> ?_) (fun r1 h1' r2 h2'=>hne r1 (yaB _ h1') r2 (yaB _ h2')) ⟨_,rfl⟩ (by show (wm.heap.setIfInBounds L.blk _).size=_;simp [hsz]) (fun b hb=> ?_)
  ·obtain ⟨v',L',vs',g1,g2⟩:=hr r' (yaB _ hr');have hne':r'.1≠r.1:=fun h=>hn1 (h▸PU hr');exact ⟨v',L',vs',by show (H.m.set r.1 _).get r'.1=_;rw [T.jm _ _ hne'];exact g1,g2⟩
  ·by_cases hbl:b=L.blk
   ·subst hbl;rw [hset,h6]
   ·rw [hoth b hbl];refine hout b ?_;rintro ⟨r',hr',L',g1,g2⟩;rcases yac.1 hr' with rfl|hr'
    ·rw [h3] at g1;cases g1;exact hbl g2
    ·exact hb ⟨r',hr',L',g1,g2⟩
theorem XI: ∀(rows:List (Nat×List AV×List AV)) (H:Heap),(vN H rows).nx=H.nx∧(vN H rows).gw=H.gw∧ ∀k,k∉vO rows→(vN H rows).m.get k=H.m.get k
 | [], H=>⟨rfl,rfl,fun _ _=>rfl⟩
 | r::rows,H=>by
  unfold vN;rw [Heap.nZ];obtain ⟨h1,h2,h3⟩:=XI rows ⟨H.m.set r.1 (.cells (Vec.ofList r.2.2) 0 r.1 none false true),H.nx,H.gw⟩;refine ⟨h1,h2,fun k hk=> ?_⟩;unfold vO at hk;rw [h3 k (fun h=>hk (yaB _ h))];exact T.jm _ _ (fun h=>hk (h▸yaG ..))
theorem Y7 {P:Program} {ρ:Val} {w0:World} {K:Nat→Prop} {g:aU} (m:Nat→Bool) {l:List mG} (hs:zO l=true) (h:K9 P ρ w0 K g l):nN P (ρ.mark m) (gW w0 K g) (FD l):=by
  intro f args H r hr
  induction l with
  | nil=>cases hr
  | cons e l ih=>
    unfold zO at hs;split at hs
    case h_2=>cases hs
    rename_i s1 s2 s3;unfold FD at hr;split at hr
    case h_2=>exact ih hs h.2 hr
    rename_i hf;cases hr;unfold mG.fits at hf;split at hf
    case h_2=>cases hf
    rename_i hf1 hf2 hf3 Tw;unfold aK.fits at hf1;split at hf1
    · cases hf1
    rename_i yY;have yY:=bK yY;subst yY;split at hf1
    case h_2=>cases hf1
    rename_i ha hgs;have ha:=AV.sQ ha;have hgs:=bK hgs;subst ha;obtain ⟨h1,h2⟩:=h.1;refine ⟨h1,fun k hk j w vals hi hv=> ?_⟩;have hk:Ob.den (ρ.mark m) (k e.e.res (vN (e.e.heap H) e.rows)):=hk;have hG:=hi.fO;rw [hgs] at hG;obtain ⟨F,g1,g2⟩:=hG;have hnone: ∀k,H.nx≤k→j k=none:=fun k hk=>by
      cases hjk:j k with
      | none=>rfl
      | some L=>have:=hi.dom k L hjk;omega
    have hbase:e.e.fZ≠0→H.nx=e.e.base:=fun hn=>by
      split at hf1
      · rename_i h0;exact absurd h0 hn
      · exact bK hf1
    have hpl: ∀r∈e.rows,∃L,j r.1=some L:=fun r hr=>⟨_,xC hv r.1 (QK Tw _ (PU hr))⟩;have hrow: ∀r∈e.rows,∃v L vs arr t,H.m.get r.1=some (.cells v 0 r.1 none false true)∧v.n=r.2.1.length∧r.2.2.length=r.2.1.length∧j r.1=some L∧L.q=none∧L.off=0∧(gW w0 K g).own L.blk∧w.heap[L.blk]? =some (.cells arr t (0,0))∧RL ρ j r.2.1 vs∧ ∀(i:Nat) (y:Value),vs[i]? =some y→arr[i]? =some y:=fun r hr=>by
      obtain ⟨v,q1,q2,q3,_⟩:=zBg (Zt hf2 r hr);obtain ⟨L,hL⟩:=hpl r hr;have hq:=hi.lJ hL q1;have h0:=hi.lH _ _ _ _ _ _ hL q1;obtain ⟨o,k1,k2⟩:=hi.obj _ _ hL;rw [q1] at k1;cases k1;have hown:=k2.2.1;rw [yak rfl] at hown;obtain ⟨vals,arr,t,fr,p1,p2,p3,_⟩:=hi.IB hL (zK hf3 (Xi hr));have:=hi.fz _ _ hL hq hown _ _ _ p1;subst this;exact ⟨v,L,vals,arr,t,q1,q2,q3,hL,hq,h0,hown,p1,(iV m (O7 s3 r hr).1).1 p2,fun i y hy=>by have:=p3 i y hy;rwa [h0,yaq] at this⟩
    have hFr: ∀r∈e.rows,∀L,j r.1=some L→ ¬F L.blk:=fun r hr L hL hF=>by
      obtain ⟨v,L',vs,arr,t,q1,q2,q3,q4,q5,_⟩:=hrow r hr;rw [hL] at q4;cases q4;exact (g1 _ hF).2 ⟨r.1,L,hL,q5,rfl⟩
    have hne: ∀r∈e.rows,∀r'∈e.rows,r.1≠r'.1→ ∀L L',j r.1=some L→j r'.1=some L'→L.blk≠L'.blk:=fun r hr r' hr' hne L L' hL hL' hb=>by
      obtain ⟨v,L1,vs,arr,t,q1,q2,q3,q4,q5,_⟩:=hrow r hr;obtain ⟨v',L2,vs',arr',t',q1',q2',q3',UO,q5',_⟩:=hrow r' hr';rw [hL] at q4;cases q4;rw [hL'] at UO;cases UO;obtain ⟨vn,en,gn,cn,sn,on,vm,em,gm,cm,sm,om,k1,k2,k3,k4⟩:=hi.sep r.1 r'.1 L L' hne hL hL' q5 q5' hb;rw [q1] at k1;cases k1;rw [q1'] at k2;cases k2;exact hne (k4 rfl).1
    refine yas (h2 j w vals F H.nx ((iV m s1).1 hv) hnone hbase (fun b hF=>(g1 b hF).1) hi.fr.size (fun r hr=> ?_) hne g2) fun en w' he=> ?_
    · obtain ⟨v,L,vs,arr,t,q1,q2,q3,q4,q5,q6,q7,q8,q9,tT⟩:=hrow r hr;exact ⟨L,vs,q4,q6,q7,hFr r hr L q4,q9,arr,t,q8,tT⟩
    · obtain ⟨u,qs,F',rfl,e2,e3,e4,e5,e6,e7⟩:=he
      classical
      let hp:Array Go.Obj:=Array.ofFn (n:=w'.heap.size) fun i=>if uF j e.rows i.val then (w.heap[i.val]?).getD w'.heap[i] else w'.heap[i]
      let wm:World:= { w' with heap:=hp }
      have hT: ∀b,uF j e.rows b→b<w.heap.size∧Mine j b∧(gW w0 K g).own b:=fun b hb=>by
        obtain ⟨r,hr,L,hL,rfl⟩:=hb;obtain ⟨v,L',vs,arr,t,q1,q2,q3,q4,q5,q6,q7,q8,_⟩:=hrow r hr;rw [hL] at q4;cases q4;exact ⟨hi.blk _ _ hL q5,⟨r.1,L,hL,q5,rfl⟩,q7⟩
      have Np: ∀b,b<w'.heap.size→wm.heap[b]? =if uF j e.rows b then w.heap[b]? else w'.heap[b]? :=fun b hb=>by
        show hp[b]? =_;rw [yaM (by simp [hp];exact hb)];simp only [hp,Array.getElem_ofFn];by_cases ht:uF j e.rows b
        · rw [yak ht,yak ht];rw [yaM (hT b ht).1];rfl
        · rw [yai ht,yai ht,yaM hb];rfl
      have hsz:wm.heap.size=w'.heap.size:=by show hp.size=_;simp [hp]
      have hmv:Mv (fun b=> ¬Mine j b∧(gW w0 K g).own b) w wm:=⟨e7.os,e7.tape,e7.output,by rw [hsz];exact e7.size,fun b hb hnb=>by
        rw [Np b (yad hb e7.size)];by_cases ht:uF j e.rows b
        · rw [yak ht]
        · rw [yai ht];refine e7.block b hb ?_;rintro (⟨hF,ho⟩|h)
          · exact hnb ⟨(g1 b hF).2,ho⟩
          · exact ht h⟩
      have hFn: ∀b,F' b→ ¬uF j e.rows b:=fun b hF' ht=>by
        rcases (e5 b hF').2 with hF|hF
        · exact (g1 b hF).2 (hT b ht).2.1
        · have:=(hT b ht).1;omega
      have hns:(gW w0 K g).G e.e.gs' (jq j H.nx qs) wm:=⟨F',fun b hF'=>⟨by rw [hsz];exact (e5 b hF').1,fun hm=>by
        have hm:=KS hnone hm;rcases (e5 b hF').2 with hF|hF
        · exact (g1 b hF).2 hm
        · obtain ⟨k,L,k1,k2,k3⟩:=hm;have:=hi.blk k L k1 k2;omega⟩,g.loc _ _ _ _ _ _ e4 (fun _ _ h=>h) (fun b hb=>by rw [Np b (e5 b hb).1,yai (hFn b hb)]) (by omega)⟩
      obtain ⟨i1,i2⟩:=Inv.ent (e:=e.e) hi hgs e2 hns hmv;have hjq: ∀r∈e.rows,jq j H.nx qs r.1=j r.1:=fun r hr=>by
        obtain ⟨L,hL⟩:=hpl r hr;rw [hL];exact VR hi qs _ _ hL
      have hTq: ∀b,uF (jq j H.nx qs) e.rows b↔uF j e.rows b:=fun b=>by
        constructor
        · rintro ⟨r,hr,L,hL,hb⟩;exact ⟨r,hr,L,(hjq r hr)▸hL,hb⟩
        · rintro ⟨r,hr,L,hL,hb⟩;exact ⟨r,hr,L,(hjq r hr).symm▸hL,hb⟩
      obtain ⟨z1,z2,z3,z4,z5⟩:=e.e.Tt H hi.jv hgs;have NM: ∀r∈e.rows,(e.e.heap H).m.get r.1=H.m.get r.1:=fun r hr=>by
        obtain ⟨L,hL⟩:=hpl r hr;have:=hi.dom _ _ hL;have hn0:=hi.tQ hL;rw [z4 r.1 (by omega),yai (by omega)]
      have i3:=Inv.turns e.rows (w':=w') i1 hf (fun r hr=>by
        obtain ⟨v,L,vs,arr,t,q1,q2,q3,q4,q5,q6,_⟩:=hrow r hr;obtain ⟨vs',k1,k2⟩:=e6 r hr L q4;exact ⟨v,L,vs',by rw [NM r hr];exact q1,by omega,by rw [hjq r hr];exact q4,q6,(iV m (O7 s3 r hr).2).2 k1,k2⟩)
        (fun r hr r' hr' hh L L' hL hL'=>hne r hr r' hr' hh L L' ((hjq r hr)▸hL) ((hjq r' hr')▸hL')) ⟨hp,rfl⟩ hsz (fun b hb=>by
          rw [hTq] at hb;by_cases hlt:b<w'.heap.size
          · rw [Np b hlt,yai hb]
          · rw [ya8 (by omega),ya8 (by omega)])
      obtain ⟨y1,y2,y3⟩:=XI e.rows (e.e.heap H);refine ⟨u,rfl,e.e.res,_,_,(lX m s2).2 e3,i3,⟨i2.sub,i2.fresh,fun n hp hn hlt=> ?_,by rw [y1];exact i2.nx⟩,hk⟩;have hnr:n∉vO e.rows:=fun hm=>by
        have:=xC hv n (QK Tw _ hm);rw [hn] at this;cases this
      rw [y3 n hnr,y2];exact i2.keep n hp hn hlt
theorem zmc {P:Program} {ρ:Val} {x:Cx} {l:List aK} {m:List mG} (h1:nN P ρ x (bG l)) (h2:nN P ρ x (FD m)):nN P ρ x (xY l m):=by
 intro f args H r hr;unfold xY at hr;split at hr
 ·rename_i r' h;cases hr;exact h1 f args H _ h
 ·exact h2 f args H r hr
theorem zvk {P:Program} {ρ:Val} {w:World} {K:Nat→Prop} {g:aU} {bl:List (Nat×Nat)} {fF:List Sh} {gs:Nat} {iW:List aK} {vw:List mG} {kS:List cB} {kL:List dU} {n:Nat} {f:FuncId} {args:List AV} {vals:List Value} {ls:List Leaf} {asm:List (SB×Bool)} {ps:List (List (SB×Bool)×Nat)}
  (hmo:P.follows .mixedOrders=true)
  (h:(eU P (xY iW vw) (fB kS) (eY kL) n (.call f args (bn gs fF) (cK ls 0))).ways asm=some ps)
  (hs:(bJ fF&&bI iW&&zO vw&&fK kS&&fM kL&&AV.bQ args&&dx ls)=true)
  (hK: ∀b,K b→b<w.heap.size) (ho:oI ρ (aJ bl) (gW w K g) bl fF) (hap:apart bl fF) (hG:g.G gs (aJ bl) w) (he:Ai P ρ w K g iW) (hw:K9 P ρ w K g vw) (hl:CF P ρ w K g kS) (oP:CP P ρ w K g kL) (ha:RL ρ (aJ bl) args vals) (ht:Told ρ asm):
  Calls P f vals.toArray w fun e w'=> ∃p∈ps,Told ρ p.1∧ ∃l,ls[p.2]? =some l∧ ∃j,oG ρ w K g bl l e w' j:=by
 simp only [yba] at hs;obtain ⟨⟨⟨⟨⟨⟨s1,s2⟩,sw⟩,s5⟩,s9⟩,s3⟩,s4⟩:=hs;unfold Ob.ways at h;cases hps:(eU P (xY iW vw) (fB kS) (eY kL) n (.call f args (bn gs fF) (cK ls 0))).paths asm with
 | none=>rw [hps] at h;cases h
 | some ps0=>
 rw [hps] at h;cases h;have h:=hps;refine yas (zo3 (x:=gW w K g) hmo (fun m=>zmc (E8 (BQ m s2 he)) (Y7 m sw hw)) (fun m=>JO m s5 hl) (fun m=>J3 m s9 oP) (fun m=>EZ hK (BO m s1 ho) hap hG) (fun m=>(iV m s3).2 ha) ht h) fun e w' hh=> ?_;obtain ⟨p,hp,hto,l,hl,m,u,v,j',H',rfl,h1,h2,h3,h4⟩:=hh;obtain ⟨x1,x2,x3,x4⟩:=BK s4 hl;exact ⟨(p.1.drop asm.length,p.2),BR hp,fun c hc=>hto c (ya2 hc),l,hl,j',Fp x1 x2 x3 x4 h1 h2 h3 h4⟩
theorem zvm {P:Program} {ρ:Val} {w:World} {K:Nat→Prop} {g:aU} {bl:List (Nat×Nat)} {fF:List Sh} {gs:Nat} {iW:List aK} {vw:List mG} {kS:List cB} {kL:List dU} {n:Nat} {p:List Nat} {N:Nat} {slots:List (Nat×AV)} {dF:Option AV} {ls:List gu} {asm:List (SB×Bool)} {ps:List (List (SB×Bool)×Nat)}
  (hmo:P.follows .mixedOrders=true)
  (h:(eU P (xY iW vw) (fB kS) (eY kL) n (.code (bf P p) p N (bR N slots dF) (bn gs fF) (fJ ls 0))).ways asm=some ps)
  (hs:(bJ fF&&bI iW&&zO vw&&fK kS&&fM kL&&fV slots&&gK ls&&fI N slots&&Nat.ble N bS&&gJ dF)=true)
  (hK: ∀b,K b→b<w.heap.size) (ho:oI ρ (aJ bl) (gW w K g) bl fF) (hap:apart bl fF) (hG:g.G gs (aJ bl) w) (he:Ai P ρ w K g iW) (hw:K9 P ρ w K g vw) (hl:CF P ρ w K g kS) (oP:CP P ρ w K g kL)
  {a:Act} (hN:a.tmps.size=N) (hd:sO ρ (aJ bl) dF a.defers) (ha: ∀s∈slots,R ρ (aJ bl) s.2 (a.tmps.getD s.1 undef)) (ht:Told ρ asm):
  (bf P p).wp P (fun ex a' w'=> ∃q∈ps,Told ρ q.1∧ ∃l,ls[q.2]? =some l∧ex=sW l.ex∧a'.tmps.size=N∧ ∃j,sO ρ j l.dF a'.defers∧oG ρ w K g bl l.leaf (.returned (.tuple (l.slots.map fun t=>a'.tmps.getD t undef).toArray)) w' j) a w:=by
 simp only [yba] at hs;obtain ⟨⟨⟨⟨⟨⟨⟨⟨⟨s1,s2⟩,sw⟩,s5⟩,s9⟩,s3⟩,s4⟩,s6⟩,s7⟩,s8⟩:=hs;have s7:=yal s7;unfold Ob.ways at h;cases hps:(eU P (xY iW vw) (fB kS) (eY kL) n (.code (bf P p) p N (bR N slots dF) (bn gs fF) (fJ ls 0))).paths asm with
 | none=>rw [hps] at h;cases h
 | some ps0=>
 rw [hps] at h;cases h;have h:=hps
 classical
 let m:Nat→Bool:=fun k=>decide (∃p∈ps0,1000000+p.2=k∧Told ρ p.1)
 have hm: ∀p∈ps0,Told ρ p.1→m (1000000+p.2)=true:=fun p hp ht=>by
  show decide _=true;exact ya1 ⟨p,hp,rfl,ht⟩
 have hdn:=rT hm h (fun q hq=>hq) ht;have hg:=Fj (w0:=gW w K g) (zmc (E8 (BQ m s2 he)) (Y7 m sw hw)) (JO m s5 hl) (J3 m s9 oP) (fun n rec hg=>Af hmo hg) n;refine ya3 (hg.code _ _ _ _ _ _ rfl hdn (aJ bl) a w (EZ hK (BO m s1 ho) hap hG) (zyU hN ((KL m s8).2 hd) s7 s6 fun s hs=>(lX m (EB s3 s hs)).2 (ha s hs))) fun ex a' w' hh=> ?_;obtain ⟨x,env',H',j',rfl,h1,h2,h3,h4⟩:=hh;obtain ⟨k,l,h5,h6,h7,h8,h9,h10⟩:=Qa h4;have h10:(if 1000000+(0+k)<1000000 then ρ.b (1000000+(0+k)) else m (1000000+(0+k)))=true:=h10;rw [yai (by omega)] at h10;obtain ⟨q,hq,hk,hto⟩:=ybB h10;have:q.2=k:=by omega
 subst this;obtain ⟨y1,y2⟩:=O5 s4 h5;obtain ⟨x1,x2,x3,x4⟩:=BK (i:=0) y1 rfl;refine ⟨(q.1.drop asm.length,q.2),BR hq,fun c hc=>hto c (ya2 hc),l,h5,by rw [h6],h1.size,j',(KL m y2).1 ?_,Fp x1 x2 x3 x4 (oD (Rm h1 h8)) h2 h3 h9⟩;have hdf:=h1.dF;unfold Ga at h7;unfold dK at hdf;split at h7
 ·rename_i e1 e2;rw [e1] at hdf;rw [e2];exact hdf.none rfl
 ·rename_i v u e1 e2;rw [e1] at hdf;rw [e2,←AV.beq_eq h7];exact hdf
 ·cases h7
end Go.Dw
namespace Go.Proofs
open Go.Dw Go.RowKit
def Tryz.Cy:List AV:= [.ptr 1 0,.ptr 2 0,.ptr 3 0,.ptr 4 0,.ptr 5 0,.ptr 6 0]
def Tryz.qb:AV:= .func 159 [] Cy
def Tryz.yH (kn:List (AV×Option AV)):List Sh:=
 [.own [.int .i64 (.var 3)],.own [.cst 0 none],.own [.int .i64 (au 4)],.own [.bool (.var 1)],.own [qb],.own [.cst 1 none],.dm kn]
def Tryz.vP:List (Nat×AV):= [(0,.int .u64 (af 0)),(1,.int .i64 (ah 1)),(2,.int .i64 (aF 2)),(3,.bool (.var 0)),(4,.ptr 1 0),(5,.ptr 2 0),(6,.ptr 3 0),(7,.ptr 4 0),(8,.ptr 5 0),(9,.ptr 6 0),(14,.map 7)]
def Tryz.zGB:AV:= .agg [.int .u64 (af 10),.int .u32 (bM 11),.int .u16 (aF 12),.int .u16 (aF 13)]
def Tryz.FT:aK:=⟨71,[.cst 0 none,.int .u64 (.bin .add .u64 (af 0) (.bin .mul .u64 (.lit 16) (aF 2))),.int .i64 (.lit 16)],0,8,1,.aH [.opq 8 none,.int .i64 (.var 16)],1⟩
def Tryz.Gq:aK:=⟨160,[.opq 8 none],1,0,0,.aH [zGB,.int .i64 (.lit 0)],1⟩
def Tryz.Q5:aK:=⟨161,[.cst 0 none,.int .u64 (af 10),.int .u32 (bM 11)],1,0,0,.aH [.int .i64 (.var 14),.int .i64 (.var 15)],1⟩
def Tryz.zxi:aK:=⟨71,[.cst 0 none,.int .u64 (.bin .add .u64 (af 0) (.bin .mul .u64 (.lit 16) (aF 2))),.int .i64 (.lit 16)],0,0,0,.aH [.bZ,.int .i64 (.var 16)],0⟩
def Tryz.AR (b:Bool):SB×Bool:=(.cmp .geq (aF 2) (ah 1),b)
def Tryz.Di (b:Bool):SB×Bool:=(.cmp .neq (.var 16) (.lit 0),b)
def Tryz.G6 (b:Bool):SB×Bool:=(.cmp .neq (.dG [⟨12,0,65535,2,1,2⟩] 0) (.lit 0),b)
def Tryz.SL (b:Bool):SB×Bool:=(.cmp .eql (.var 15) (.lit 0),b)
def Tryz.zGr:List AV:= [.int .u64 (af 10),.int .u32 (bM 11),.bool (.cmp .neq (.dG [⟨12,0,65535,1,1,1⟩] 0) (.lit 0))]
def Tryz.UX:dU:=⟨36,.cst 1 none,1,zGr,1,12,1,.opq 12 none,2⟩
def Tryz.jo:mG:=⟨⟨159,[.int .u64 (af 10),.int .i64 (.var 14),.int .i64 (.lit 0),.bool (.lit true)]++Cy,1,10,1,.aH [],3⟩,
 [(1,[.int .i64 (.var 15)],[.int .i64 (.var 20)]),(2,[.cst 0 none],[.cst 0 none]),(3,[.int .i64 (.bin .add .i64 (au 4) (.lit 1))],[.int .i64 (.var 21)]),(4,[.bool (.var 1)],[.bool (.var 1)]),(5,[qb],[qb]),(6,[.cst 1 none],[.opq 10 none])]⟩
end Go.Proofs
namespace Go.Proofs
open Go.Dw
def Tryz.Yo:List aK:= []
def Tryz.Zx:List Sh:=yH [(.int .i64 (aF 2),some (.bool (.lit true)))]
def Tryz.Pv:List (Nat×AV):=vP
def Tryz.Xm:List cB:= []
def Tryz.Xn:List dU:= []
def Tryz.Zy:Option AV:=none
def Tryz.zvG:List (SB×Bool):= []
def Tryz.zpP:List gu:= [
 ⟨.ret,[],none,⟨.aH [],[(1,[.int .i64 (.lit 4)]),(2,[.cst 0 none]),(3,[.int .i64 (au 4)]),(4,[.bool (.var 1)]),(5,[.func 159 [] [.ptr 1 0,.ptr 2 0,.ptr 3 0,.ptr 4 0,.ptr 5 0,.ptr 6 0]]),(6,[.cst 1 none])],[],0,[1,2,3,4,5,6]⟩⟩]
def Tryz.zpO:List (List (SB×Bool)×Nat):= [
 ([], 0)]
theorem Tryz.zvF:(eU prog (bG Yo) (fB Xm) (eY Xn) 100000 (.code (bf prog [0,0,1,159]) [0,0,1,159] 104 (bR 104 Pv Zy) (bn 0 Zx) (fJ zpP 0))).ways zvG=some zpO:=by kernel_rfl
theorem Tryz.zyG:(bJ Zx&&bI Yo&&fK Xm&&fM Xn&&fV Pv&&gK zpP&&fI 104 Pv&&Nat.ble 104 bS&&gJ Zy)=true:=by kernel_rfl
def Tryz.Zz:List aK:= []
def Tryz.zpQ:List Sh:=yH [(.int .i64 (aF 2),none)]
def Tryz.P6:List (Nat×AV):=vP
def Tryz.Yp:List cB:= []
def Tryz.Yq:List dU:= []
def Tryz.zpR:Option AV:=none
def Tryz.zyI:List (SB×Bool):= [AR true]
def Tryz.ztM:List gu:= [
 ⟨.ret,[],none,⟨.aH [],[(1,[.int .i64 (.lit 4)]),(2,[.cst 0 none]),(3,[.int .i64 (au 4)]),(4,[.bool (.var 1)]),(5,[.func 159 [] [.ptr 1 0,.ptr 2 0,.ptr 3 0,.ptr 4 0,.ptr 5 0,.ptr 6 0]]),(6,[.cst 1 none])],[],0,[1,2,3,4,5,6]⟩⟩]
def Tryz.ztL:List (List (SB×Bool)×Nat):= [
 ([], 0)]
theorem Tryz.zyH:(eU prog (bG Zz) (fB Yp) (eY Yq) 100000 (.code (bf prog [0,0,1,159]) [0,0,1,159] 104 (bR 104 P6 zpR) (bn 0 zpQ) (fJ ztM 0))).ways zyI=some ztL:=by kernel_rfl
theorem Tryz.zBu:(bJ zpQ&&bI Zz&&fK Yp&&fM Yq&&fV P6&&gK ztM&&fI 104 P6&&Nat.ble 104 bS&&gJ zpR)=true:=by kernel_rfl
def Tryz.ZB:List aK:= [zxi]
def Tryz.zpU:List Sh:=yH [(.int .i64 (aF 2),none)]
def Tryz.P8:List (Nat×AV):=vP
def Tryz.Zl:List cB:= []
def Tryz.Zm:List dU:= []
def Tryz.zpV:Option AV:=none
def Tryz.zyM:List (SB×Bool):= [AR false,Di true]
def Tryz.ztQ:List gu:= [
 ⟨.ret,[],none,⟨.aH [],[(1,[.int .i64 (.lit 5)]),(2,[.cst 0 none]),(3,[.int .i64 (au 4)]),(4,[.bool (.var 1)]),(5,[.func 159 [] [.ptr 1 0,.ptr 2 0,.ptr 3 0,.ptr 4 0,.ptr 5 0,.ptr 6 0]]),(6,[.cst 1 none])],[],0,[1,2,3,4,5,6]⟩⟩]
def Tryz.ztP:List (List (SB×Bool)×Nat):= [
 ([], 0)]
theorem Tryz.zyL:(eU prog (bG ZB) (fB Zl) (eY Zm) 100000 (.code (bf prog [0,0,1,159]) [0,0,1,159] 104 (bR 104 P8 zpV) (bn 0 zpU) (fJ ztQ 0))).ways zyM=some ztP:=by kernel_rfl
theorem Tryz.zBw:(bJ zpU&&bI ZB&&fK Zl&&fM Zm&&fV P8&&gK ztQ&&fI 104 P8&&Nat.ble 104 bS&&gJ zpV)=true:=by kernel_rfl
def Tryz.ZA:List aK:= [FT,Gq]
def Tryz.zpS:List Sh:=yH [(.int .i64 (aF 2),none)]
def Tryz.P7:List (Nat×AV):=vP
def Tryz.Zj:List cB:= []
def Tryz.Zk:List dU:= []
def Tryz.zpT:Option AV:=none
def Tryz.zyK:List (SB×Bool):= [AR false,Di false,G6 true,(.var 0,true)]
def Tryz.ztO:List gu:= [
 ⟨.ret,[],none,⟨.aH [],[(1,[.int .i64 (.lit 4)]),(2,[.cst 0 none]),(3,[.int .i64 (.bin .add .i64 (au 4) (.lit 1))]),(4,[.bool (.var 1)]),(5,[.func 159 [] [.ptr 1 0,.ptr 2 0,.ptr 3 0,.ptr 4 0,.ptr 5 0,.ptr 6 0]]),(6,[.cst 1 none])],[],1,[1,2,3,4,5,6]⟩⟩]
def Tryz.ztN:List (List (SB×Bool)×Nat):= [
 ([], 0)]
theorem Tryz.zyJ:(eU prog (bG ZA) (fB Zj) (eY Zk) 100000 (.code (bf prog [0,0,1,159]) [0,0,1,159] 104 (bR 104 P7 zpT) (bn 0 zpS) (fJ ztO 0))).ways zyK=some ztN:=by kernel_rfl
theorem Tryz.zBv:(bJ zpS&&bI ZA&&fK Zj&&fM Zk&&fV P7&&gK ztO&&fI 104 P7&&Nat.ble 104 bS&&gJ zpT)=true:=by kernel_rfl
def Tryz.ZY:List aK:= [FT,Gq,Q5]
def Tryz.Yi:List mG:= [jo]
def Tryz.zpH:List Sh:=yH [(.int .i64 (aF 2),none)]
def Tryz.PZ:List (Nat×AV):=vP
def Tryz.Yj:List cB:= []
def Tryz.Yk:List dU:= []
def Tryz.zpI:Option AV:=none
def Tryz.zyC:List (SB×Bool):= [AR false,Di false,G6 true,(.var 0,false),SL true]
def Tryz.ztI:List gu:= [
 ⟨.ret,[],none,⟨.aH [],[(1,[.int .i64 (.lit 4)]),(2,[.cst 0 none]),(3,[.int .i64 (.bin .add .i64 (au 4) (.lit 1))]),(4,[.bool (.var 1)]),(5,[.func 159 [] [.ptr 1 0,.ptr 2 0,.ptr 3 0,.ptr 4 0,.ptr 5 0,.ptr 6 0]]),(6,[.cst 1 none])],[],1,[1,2,3,4,5,6]⟩⟩,
 ⟨.ret,[],none,⟨.aH [],[(1,[.int .i64 (.var 20)]),(2,[.cst 0 none]),(3,[.int .i64 (.var 21)]),(4,[.bool (.var 1)]),(5,[.func 159 [] [.ptr 1 0,.ptr 2 0,.ptr 3 0,.ptr 4 0,.ptr 5 0,.ptr 6 0]]),(6,[.opq 10 none])],[],3,[1,2,3,4,5,6]⟩⟩]
def Tryz.ztH:List (List (SB×Bool)×Nat):= [
 ([(.var 1,false)],0),
 ([(.var 1,true),((.cmp .neq (.dG [⟨12,0,65535,0,1,0⟩] 0) (.lit 0)),true)],0),
 ([(.var 1,true),((.cmp .neq (.dG [⟨12,0,65535,0,1,0⟩] 0) (.lit 0)),false)],1)]
theorem Tryz.zyB:(eU prog (xY ZY Yi) (fB Yj) (eY Yk) 100000 (.code (bf prog [0,0,1,159]) [0,0,1,159] 104 (bR 104 PZ zpI) (bn 0 zpH) (fJ ztI 0))).ways zyC=some ztH:=by kernel_rfl
theorem Tryz.zBs:(bJ zpH&&bI ZY&&zO Yi&&fK Yj&&fM Yk&&fV PZ&&gK ztI&&fI 104 PZ&&Nat.ble 104 bS&&gJ zpI)=true:=by kernel_rfl
def Tryz.Yl:List aK:= [FT,Gq,Q5]
def Tryz.Zu:List Sh:=yH [(.int .i64 (aF 2),none)]
def Tryz.Pq:List (Nat×AV):=vP
def Tryz.Xk:List cB:= []
def Tryz.Xl:List dU:= []
def Tryz.Zv:Option AV:=none
def Tryz.zvE:List (SB×Bool):= [AR false,Di false,G6 true,(.var 0,false),SL false]
def Tryz.zpK:List gu:= [
 ⟨.ret,[],none,⟨.aH [],[(1,[.int .i64 (.lit 4)]),(2,[.cst 0 none]),(3,[.int .i64 (.bin .add .i64 (au 4) (.lit 1))]),(4,[.bool (.var 1)]),(5,[.func 159 [] [.ptr 1 0,.ptr 2 0,.ptr 3 0,.ptr 4 0,.ptr 5 0,.ptr 6 0]]),(6,[.cst 1 none])],[],1,[1,2,3,4,5,6]⟩⟩,
 ⟨.ret,[],none,⟨.aH [],[(1,[.int .i64 (.var 15)]),(2,[.cst 0 none]),(3,[.int .i64 (.bin .add .i64 (au 4) (.lit 1))]),(4,[.bool (.var 1)]),(5,[.func 159 [] [.ptr 1 0,.ptr 2 0,.ptr 3 0,.ptr 4 0,.ptr 5 0,.ptr 6 0]]),(6,[.cst 1 none])],[],1,[1,2,3,4,5,6]⟩⟩]
def Tryz.zpJ:List (List (SB×Bool)×Nat):= [
 ([(.var 1,false)],0),
 ([(.var 1,true),((.cmp .neq (.dG [⟨12,0,65535,0,1,0⟩] 0) (.lit 0)),true)],0),
 ([(.var 1,true),((.cmp .neq (.dG [⟨12,0,65535,0,1,0⟩] 0) (.lit 0)),false)],1)]
theorem Tryz.zvD:(eU prog (bG Yl) (fB Xk) (eY Xl) 100000 (.code (bf prog [0,0,1,159]) [0,0,1,159] 104 (bR 104 Pq Zv) (bn 0 Zu) (fJ zpK 0))).ways zvE=some zpJ:=by kernel_rfl
theorem Tryz.zyD:(bJ Zu&&bI Yl&&fK Xk&&fM Xl&&fV Pq&&gK zpK&&fI 104 Pq&&Nat.ble 104 bS&&gJ Zv)=true:=by kernel_rfl
def Tryz.Zw:List aK:= [FT,Gq]
def Tryz.zpM:List Sh:=yH [(.int .i64 (aF 2),none)]
def Tryz.P5:List (Nat×AV):=vP
def Tryz.Ym:List cB:= []
def Tryz.Yn:List dU:= [UX]
def Tryz.zpN:Option AV:=none
def Tryz.zyF:List (SB×Bool):= [AR false,Di false,G6 false]
def Tryz.ztK:List gu:= [
 ⟨.ret,[],none,⟨.aH [],[(1,[.int .i64 (.var 3)]),(2,[.cst 0 none]),(3,[.int .i64 (.bin .add .i64 (au 4) (.lit 1))]),(4,[.bool (.var 1)]),(5,[.func 159 [] [.ptr 1 0,.ptr 2 0,.ptr 3 0,.ptr 4 0,.ptr 5 0,.ptr 6 0]]),(6,[.opq 12 none])],[(7,[(.int .i64 (aF 2),some (.bool (.lit true)))])],2,[1,2,3,4,5,6]⟩⟩,
 ⟨.normal,[0,1,2,3,4,5,6,7,8,9,14],none,⟨.aH [.int .u64 (af 0),.int .i64 (ah 1),.int .i64 (aF 13),.bool (.var 0),.ptr 1 0,.ptr 2 0,.ptr 3 0,.ptr 4 0,.ptr 5 0,.ptr 6 0,.map 7],[(1,[.int .i64 (.var 3)]),(2,[.cst 0 none]),(3,[.int .i64 (.bin .add .i64 (au 4) (.lit 1))]),(4,[.bool (.var 1)]),(5,[.func 159 [] [.ptr 1 0,.ptr 2 0,.ptr 3 0,.ptr 4 0,.ptr 5 0,.ptr 6 0]]),(6,[.opq 12 none])],[(7,[(.int .i64 (aF 2),some (.bool (.lit true)))])],2,[1,2,3,4,5,6]⟩⟩]
def Tryz.ztJ:List (List (SB×Bool)×Nat):= [
 ([((.cmp .eql (.dG [⟨12,0,65535,0,1,0⟩] 0) (.lit 0)),true)],0),
 ([((.cmp .eql (.dG [⟨12,0,65535,0,1,0⟩] 0) (.lit 0)),false)],1)]
theorem Tryz.zyE:(eU prog (bG Zw) (fB Ym) (eY Yn) 100000 (.code (bf prog [0,0,1,159]) [0,0,1,159] 104 (bR 104 P5 zpN) (bn 0 zpM) (fJ ztK 0))).ways zyF=some ztJ:=by kernel_rfl
theorem Tryz.zBt:(bJ zpM&&bI Zw&&fK Ym&&fM Yn&&fV P5&&gK ztK&&fI 104 P5&&Nat.ble 104 bS&&gJ zpN)=true:=by kernel_rfl
open Go.RowKit
def Tryz.FX (n:Nat):Nat→List AV
 | 0=> []
 | k+1=> .int .u8 (Vd n)::FX (n+1) k
def Tryz.U4:AV:= .sx 0 (.lit 16) 1 [(.lit 0,1)]
def Tryz.abr:aK:=⟨147,[.cst 0 none,rg,.bool (.lit false)],0,0,0,.int .i64 (.lit 0),0⟩
def Tryz.zFx:aK:=⟨148,[.cst 0 none,rg,.int .i64 (aF 7),.bool (.var 1)],0,2,1,.aH [.opq 2 none,.int .i64 (.var 21),.int .i64 (.var 20)],1⟩
def Tryz.zGv:aK:=⟨149,[.cst 0 none,.opq 2 none],1,3,1,.aH [.opq 3 none,.int .i64 (.var 22)],2⟩
def Tryz.Lf:List AV:= [.ptr 6 0,.ptr 1 0,.ptr 5 0,.ptr 3 0,.ptr 7 0,.ptr 4 0]
def Tryz.u6:AV:= .func 159 [] Lf
def Tryz.jL:mG:=⟨⟨159,[.int .u64 (af 1),.int .i64 (ah 0),.int .i64 (aF 7),.bool (.lit false)]++Lf,0,8,1,.aH [],1⟩,
 [(6,[.int .i64 (.lit 0)],[.int .i64 (.var 20)]),(1,[.cst 0 none],[.cst 0 none]),(5,[.int .i64 (.lit 0)],[.int .i64 (.var 21)]),(3,[.bool (.var 1)],[.bool (.var 1)]),(7,[u6],[u6]),(4,[.bZ],[.opq 8 none])]⟩
end Go.Proofs
namespace Go.Proofs
open Go.Dw
def Tryz.zmj:List aK:= []
def Tryz.zp7:List Sh:= [.ro (FX 20 16)]
def Tryz.zmk:List AV:= [U4]
def Tryz.zy1:List (SB×Bool):= []
def Tryz.zt3:List Leaf:= [
 ⟨.aH [.agg [.int .u64 (.dG [⟨20,0,255,0,8,0⟩,⟨21,0,255,0,8,8⟩,⟨22,0,255,0,8,16⟩,⟨23,0,255,0,8,24⟩,⟨24,0,255,0,8,32⟩,⟨25,0,255,0,8,40⟩,⟨26,0,255,0,8,48⟩,⟨27,0,255,0,8,56⟩] 0),.int .u32 (.dG [⟨28,0,255,0,8,0⟩,⟨29,0,255,0,8,8⟩,⟨30,0,255,0,8,16⟩,⟨31,0,255,0,8,24⟩] 0),.int .u16 (.dG [⟨32,0,255,0,8,0⟩,⟨33,0,255,0,8,8⟩] 0),.int .u16 (.dG [⟨34,0,255,0,8,0⟩,⟨35,0,255,0,8,8⟩] 0)],.int .i64 (.lit 0)],[],[],0,[]⟩]
def Tryz.zBN:List (List (SB×Bool)×Nat):= [
 ([], 0)]
theorem Tryz.zy0:(ev prog (bG zmj) 100000 (.call 160 zmk (bn 0 zp7) (cK zt3 0))).ways zy1=some zBN:=by kernel_rfl
theorem Tryz.zBO:(bJ zp7&&bI zmj&&AV.bQ zmk&&dx zt3)=true:=by kernel_rfl
def Tryz.Yg:List aK:= []
def Tryz.Xu:List mG:= [jL]
def Tryz.Y6:List Sh:= []
def Tryz.Yh:List AV:= [.cst 0 none,rg,.int .i64 (aF 7),.bool (.var 1)]
def Tryz.Xv:List cB:= []
def Tryz.Xw:List dU:= []
def Tryz.zus:List (SB×Bool):= []
def Tryz.znp:List Leaf:= [
 ⟨.aH [.opq 8 none,.int .i64 (.var 21),.int .i64 (.var 20)],[],[],1,[]⟩]
def Tryz.zvY:List (List (SB×Bool)×Nat):= [
 ([], 0)]
theorem Tryz.zur:(eU prog (xY Yg Xu) (fB Xv) (eY Xw) 100000 (.call 148 Yh (bn 0 Y6) (cK znp 0))).ways zus=some zvY:=by kernel_rfl
theorem Tryz.zvZ:(bJ Y6&&bI Yg&&zO Xu&&fK Xv&&fM Xw&&AV.bQ Yh&&dx znp)=true:=by kernel_rfl
def Tryz.XW:List aK:= [abr,zFx,zGv]
def Tryz.Y8:List Sh:= []
def Tryz.XY:List AV:= [.cst 0 none,rg,.int .i64 (aF 7),.bool (.var 1)]
def Tryz.zuw:List (SB×Bool):= []
def Tryz.zns:List Leaf:= [
 ⟨.aH [.bZ,.int .i64 (.var 20)],[],[],1,[]⟩,
 ⟨.aH [.opq 3 none,.int .i64 (.var 22)],[],[],2,[]⟩]
def Tryz.znr:List (List (SB×Bool)×Nat):= [
 ([((.cmp .neq (.var 20) (.lit 0)),true)],0),
 ([((.cmp .neq (.var 20) (.lit 0)),false)],1)]
theorem Tryz.zuv:(ev prog (bG XW) 100000 (.call 128 XY (bn 0 Y8) (cK zns 0))).ways zuw=some znr:=by kernel_rfl
theorem Tryz.zwa:(bJ Y8&&bI XW&&AV.bQ XY&&dx zns)=true:=by kernel_rfl
open Go.RowKit
def Tryz.Ak (i s:Nat):Nat→List aO
 | 0=> []
 | k+1=>⟨i,0,255,0,8,s⟩::Ak (i+1) (s+8) k
theorem Tryz.zuu (g:Nat→Int) (a k:Nat):aC g a (k+1)=g a+256*aC g (a+1) k:=by
 induction k with
 | zero=>simp [aC]
 | succ k ih=>
  rw [aC,ih]
  conv=>rhs;rw [aC]
  rw [show a+1+k=a+(k+1) by omega,ycT,Int.mul_add];have:g (a+(k+1))*(256^k*256)=256*(g (a+(k+1))*256^k):=by
   rw [←Int.mul_assoc,ydr _ 256]
  omega
theorem Tryz.qA (g:Nat→Int) (hg: ∀j,0≤g j∧g j<256) (a k:Nat):0≤aC g a k∧aC g a k<256^k:=kE g hg a k
theorem Tryz.zqh {ρ:Val} {g:Nat→Int} (hg: ∀j,0≤g j∧g j<256): ∀(k i s a:Nat),(∀t,t<k→ρ.i (i+t)=g (a+t))→aN ρ (Ak i s k) 0=(aC g a k).toNat*2^s
 | 0,i,s,a,_=>by simp [Ak,aN,aC]
 | k+1,i,s,a,h=>by
  have h0:=h 0 (by omega);rw [ya7,ya7] at h0;have ih:=zqh hg k (i+1) (s+8) (a+1) fun t ht=>by
   have:=h (t+1) (by omega);rw [show i+1+t=i+(t+1) by omega,show a+1+t=a+(t+1) by omega];exact this
  obtain ⟨b0,b1⟩:=hg a;obtain ⟨x,hx⟩:=yaO b0;obtain ⟨y,hy⟩:=yaO (qA g hg (a+1) k).1;rw [hx] at b1;unfold Ak aN;rw [ih,zuu,hx,hy];simp only [aO.den,h0,hx,yaV,ybX];have e1:max 0 (min x 255)=x:=by omega
  rw [e1,ybe (by omega)];have e2:((x:Int)+256*(y:Int)).toNat=x+256*y:=by omega
  rw [e2,yb2,ycK,yde];have e3:y*(2^s*2^8)=y<<<(s+8):=by rw [yb2,yde]
  rw [e3,←ycH (by rw [yde,ybH];exact Nat.mul_lt_mul_of_pos_left (by omega) (Nat.pow_pos (by decide))),yb2,yde,ybJ];have:y*(2^s*2^8)=256*y*2^s:=by rw [ybH (2^s),←Nat.mul_assoc,ybH y]
  omega
theorem Tryz.J2 {ρ:Val} {g:Nat→Int} (hg: ∀j,0≤g j∧g j<256) (k i a:Nat) (h: ∀t,t<k→ρ.i (i+t)=g (a+t)):SE.den ρ (.dG (Ak i 0 k) 0)=aC g a k:=by
 show ((aN ρ (Ak i 0 k) 0:Nat):Int)=_;rw [zqh hg k i 0 a h];have:=(qA g hg a k).1;simp;omega
def Tryz.descVal (g:Nat→Int) (a:Nat):Value:= .agg #[.int .u64 (aC g a 8),.int .u32 (aC g (a+8) 4),.int .u16 (aC g (a+12) 2),.int .u16 (aC g (a+14) 2)]
def Tryz.Me (g:Nat→Int) (a:Nat) (v:Value):Val:=⟨fun i=>g (a+(i-20)),fun _=>false,fun _=>v⟩
theorem Tryz.zmv {ρ:Val} {j:J} {g:Nat→Int} (hg: ∀j,0≤g j∧g j<256): ∀(k i a:Nat),(∀t,t<k→ρ.i (i+t)=g (a+t))→RL ρ j (FX i k) (row g a k)
 | 0,i,a,_=>by unfold FX row;exact RL.nil
 | k+1,i,a,h=>by
  have h0:=h 0 (by omega);rw [ya7,ya7] at h0;have e:row g a (k+1)= .int .u8 (g a)::row g (a+1) k:=by
   unfold row;rw [List.range_succ_eq_map,yaK,ycS];congr 1;apply ycO;intro t _;show Value.int .u8 (g (a+(t+1)))= .int .u8 (g (a+1+t));rw [show a+(t+1)=a+1+t by omega]
  rw [e];unfold FX;obtain ⟨b0,b1⟩:=hg a;refine ai (aA ?_) (zmv hg k (i+1) (a+1) fun t ht=>by
   have:=h (t+1) (by omega);rw [show i+1+t=i+(t+1) by omega,show a+1+t=a+(t+1) by omega];exact this)
  rw [zGd (by rw [h0];exact b0) (by rw [h0];exact b1),h0]
theorem Tryz.zp9 {g:Nat→Int} (hg: ∀j,0≤g j∧g j<256) (a X o c:Nat) (w:World) (h:w.rangeAt X o (row g a 16)):
  Calls prog 160 #[.slice (some ⟨X,o,none⟩) 16 c] w fun e w'=>e= .returned (.tuple #[descVal g a,.int .i64 0])∧Below w.heap.size w w':=by
 have hr: ∀k i b,(∀t,t<k→20≤i+t∧b+t=a+(i+t-20))→ ∀t,t<k→(Me g a (.slice (some ⟨X,o,none⟩) 16 c)).i (i+t)=g (b+t):=fun k i b hh t ht=>by
  obtain ⟨h1,h2⟩:=hh t ht;show g (a+(i+t-20))=_;rw [h2]
 have hsx:Dw.R (Me g a (.slice (some ⟨X,o,none⟩) 16 c)) (aJ [(X,o)]) U4 (.slice (some ⟨X,o,none⟩) 16 c):=⟨rfl,_,_,_,rfl,rfl,⟨X,o,_,0,rfl,rfl,rfl,rfl,by decide,rfl⟩,trivial⟩;refine yas (eD (ρ:=Me g a (.slice (some ⟨X,o,none⟩) 16 c)) (K:=fun _=>False) (g:=aU.none) (bl:= [(X,o)]) (vals:= [.slice (some ⟨X,o,none⟩) 16 c]) mixed zy0 zBO (fun b h=>h.elim)
  ⟨jQ h (by unfold row;simp) (zmv hg 16 20 a (hr 16 20 a fun t _=>⟨by omega,by omega⟩)) (fun h=>h),trivial⟩ ⟨fun h=>(by cases h),trivial⟩ eH trivial (ai hsx RL.nil) (aT.2 trivial)) fun e w' hh=> ?_
 obtain ⟨_,j,he⟩:=iN hh;refine ⟨he.ret.trans ?_,fG he (fun _ h=>h)⟩;have e1:=J2 hg 8 20 a (hr 8 20 a fun t _=>⟨by omega,by omega⟩);have e2:=J2 hg 4 28 (a+8) (hr 4 28 (a+8) fun t _=>⟨by omega,by omega⟩);have e3:=J2 hg 2 32 (a+12) (hr 2 32 (a+12) fun t _=>⟨by omega,by omega⟩);have e4:=J2 hg 2 34 (a+14) (hr 2 34 (a+14) fun t _=>⟨by omega,by omega⟩);simp only [Ak] at e1 e2 e3 e4;simp only [AV.val,AV.aP,e1,e2,e3,e4,zag];rfl
end Go.Proofs
namespace Go.Proofs
open Go.RowKit
structure Tryz.Cl (w:World) (b:Nat) (l:List Value):Prop where
 lt:b<w.heap.size
 cell: ∀(i:Nat) (v:Value),l[i]? =some v→w.cell? ⟨b,i,none⟩=some v
 free: ∀i,w.frozen? ⟨b,i,none⟩=false
theorem Tryz.Cl.below {w w':World} {b B:Nat} {l:List Value} (h:Cl w b l) (hb:Below B w w') (hB:b<B):Cl w' b l:=
 ⟨yad h.lt hb.size,fun i v hv=>(hb.cell (p:=⟨b,i,none⟩) hB).trans (h.cell i v hv),fun i=>(hb.frozen (p:=⟨b,i,none⟩) hB).trans (h.free i)⟩
theorem Tryz.Cl.at {w:World} {b:Nat} {arr:Array Value} {t:TypeId} (h:w.heap[b]? =some (.cells arr t (0,0))):Cl w b arr.toList:=
 ⟨(yar.1 h).1,fun i v hv=>by rw [ycD _ _ i _ _ (0,0) h,←ybx];exact hv,fun i=>by simp [World.frozen?,h]⟩
theorem Tryz.Cl.new (w:World) (arr:Array Value) (t:TypeId):Cl (w.alloc (.cells arr t)) w.heap.size arr.toList:=Cl.at (ybq w _)
theorem Tryz.Cl.new2 {w:World} {b:Nat} {arr:Array Value} {t:TypeId} (h:w.heap.size=b):Cl (w.alloc (.cells arr t)) b arr.toList:=h▸Cl.new w arr t
theorem Tryz.Cl.alloc {w:World} {b:Nat} {l:List Value} (h:Cl w b l) (o:Obj):Cl (w.alloc o) b l:=h.below ((yag _ w).alloc (yab _) o) h.lt
theorem Tryz.Cl.set {w:World} {b:Nat} {l:List Value} (h:Cl w b l) (j:Nat) (v:Value) (hj:j<l.length):Cl (w.setCell ⟨b,j,none⟩ v) b (l.set j v):=by
 refine ⟨by have:=h.lt;simpa using this,fun i u hu=> ?_,fun i=>by rw [ydd];exact h.free i⟩;by_cases hij:i=j
 ·subst hij;rw [List.getElem?_set_self hj] at hu;cases hu;exact ybO _ _ _ (by rw [h.cell i _ (yam hj)];rfl)
 ·rw [List.getElem?_set_ne (fun e=>hij e.symm)] at hu;rw [ycu w ⟨b,j,none⟩ ⟨b,i,none⟩ v (fun e=>hij (yaH Addr.off e).symm)];exact h.cell i u hu
open Go.Dw Go.Maps Go.Sort Go.Deep
theorem Tryz.Q6 {ρ:Val} {i lo hi fr n sh:Nat} (h0:(lo:Int)≤ρ.i i) (h1:ρ.i i≤(hi:Int)):SE.den ρ (.dG [⟨i,lo,hi,fr,n,sh⟩] 0)=(ρ.i i/(2^fr:Nat)%(2^n:Nat))*(2^sh:Nat):=by
 obtain ⟨x,hx⟩:=yaO (Int.le_trans (ycW lo) h0);rw [hx] at h0 h1;simp only [SE.den,aN,aO.den,hx,yaV,ycJ];have e:max lo (min x hi)=x:=by omega
 rw [e,ydT,yb2];show ((x/2^fr%2^n*2^sh:Nat):Int)=_;push_cast;rfl
def Tryz.dA (N:Nat) (di n:Int):Int×Int:=if n=0∨ ¬n%16=0∨64<n/16 then (0,4) else if di+n≤N then (n/16,0) else (0,5)
set_option maxRecDepth 100000 in
theorem Tryz.zrL {P L Bs B N:Nat} {A n:Int} {g:Nat→Int} {w:World} (st:GM w P L Bs B N g) (hN:N≤1048576) (h1:1≤N) (ha0:0≤A) (ha1:A<18446744073709551616) (hn0:0≤n) (hn1:n<4294967296):
    Calls prog 161 #[.pointer (some ⟨P,0,none⟩),.int .u64 A,.int .u32 n] w fun e w'=>e= .returned (.tuple #[.int .i64 (dA N A n).1,.int .i64 (dA N A n).2])∧Below w.heap.size w w':=by
  have t1:n.tmod 16=n%16:=ybs hn0;have t2:n.tdiv 16=n/16:=ydN hn0;have hhas:=zyx P L Bs B N A n g w st hN h1 ha0 ha1 hn0;have wk:IntKind.wrap .u64 n=n:=bE (by omega) (by omega);have wd:IntKind.wrap .i64 (n/16)=n/16:=gV (by omega) (by omega);have wq:IntKind.wrap .u32 (n/16)=n/16:=La (by omega) (by omega);unfold dA;by_cases hbad:n=0∨ ¬n%16=0∨64<n/16
  · rw [yak hbad];go_enter func161,ntmps161;by_cases q1:n=0
    · subst q1;go_wp2;go_ret2;exact ⟨rfl,yag _ _⟩
    · by_cases q2:n%16=0
      · have q3:64<n/16:=by omega
        go_wp2;go_ret2;exact ⟨rfl,yag _ _⟩
      · go_wp2;go_ret2;exact ⟨rfl,yag _ _⟩
  · rw [yai hbad];have q1: ¬n=0:=fun h=>hbad (.inl h);have q2:n%16=0:=by omega
    have q3: ¬64<n/16:=fun h=>hbad (.inr (.inr h));by_cases hin:A+n≤N
    · rw [yak hin];rw [ya1 (show 1≤n∧A+n≤N from ⟨by omega,hin⟩)] at hhas;go_enter func161,ntmps161;go_wp2_with (first
        | (go_at_call 167;refine hhas.mono ?_;rintro en w1 ⟨rfl,hb1⟩)
        | go_in)
      go_ret2;exact ⟨rfl,hb1⟩
    · rw [yai hin];rw [ybd (show¬(1≤n∧A+n≤N) from fun h=>hin h.2)] at hhas;go_enter func161,ntmps161;go_wp2_with (first
        | (go_at_call 167;refine hhas.mono ?_;rintro en w1 ⟨rfl,hb1⟩)
        | go_in)
      go_ret2;exact ⟨rfl,hb1⟩
set_option maxRecDepth 100000 in
theorem Tryz.zvg {P L Bs B N:Nat} {g:Nat→Int} {r:Rg} {w:World} (st:GM w P L Bs B N g) (hr:RgOk r):
    Calls prog 147 #[.pointer (some ⟨P,0,none⟩),r.val,.bool false] w fun e w'=>e= .returned (.int .i64 0)∧Below w.heap.size w w':=by
  have hck:=fun w'=>tZ r hr w';have hrd:=EY P L Bs B N 0 g w st;clear hr;unfold Rg.val at hck ⊢;generalize r.n=n at*;generalize r.d=d at*;generalize r.v=v at*;generalize r.c=c at*;have kc:=Cl.new w #[.bool false,.int .i64 n,.int .u64 d,.int .u64 v,.int .u64 c] 32;have hb:=(yag w.heap.size w).alloc (yab _) (.cells #[.bool false,.int .i64 n,.int .u64 d,.int .u64 v,.int .u64 c] 32);go_enter func147,ntmps147;go_wp2_with (first
    | (go_at_call 71;refine (EY P L Bs B N 0 g _ (st.below hb)).mono ?_;rintro en w2 ⟨rfl,hw2⟩;have hw2:=hw2.symm;subst hw2)
    | (go_at_call 72;refine (hck _).mono ?_;rintro en w1 ⟨rfl,hb1⟩;have k1:=kc.below hb1 kc.lt;have c0:=k1.cell 0 _ rfl)
    | go_in)
  go_ret;exact ⟨rfl,hb.trans (hb1.mono (by simp))⟩
def Tryz.lV (N:Nat) (l:List Sg):Int:=if l= []∨ ¬gM l=0 then 4 else oH N l
set_option maxRecDepth 100000 in
theorem Tryz.zvt {A:Nat→Prop} {w:World} {P L Bs B N:Nat} {g:Nat→Int} {sa:Option Addr} {c:Nat} {l:List Sg} (hm:GM w P L Bs B N g) (hN:N≤1048576) (h1:1≤N) (h:aL A w (.slice sa l.length c) l) (hln:l.length<4611686018427387904)
    (MP: ∀R o,sa=some ⟨R,o,none⟩→R≠P∧R≠L∧R≠Bs∧R≠B):
    Calls prog 149 #[.pointer (some ⟨P,0,none⟩),.slice sa l.length c] w fun e w'=>e= .returned (.tuple #[if lV N l=0 then .slice sa l.length c else .slice none 0 0,.int .i64 (lV N l)])∧Below w.heap.size w w':=by
  have hck:=PG h;have hin:=fun w1 (hb:Below w.heap.size w w1)=>zwJ (hm.below hb) hN h1 (aL.below h hb) hln MP;by_cases hne:l= []
  · subst hne;have hE:lV N []=4:=by unfold lV;exact yak (.inl rfl)
    rw [hE,yai (by decide)];go_enter func149,ntmps149;go_wp2_with (first
      | (go_at_call 88;refine hck.mono ?_;rintro en w3 ⟨rfl,hb3⟩)
      | go_in)
    go_ret2;exact ⟨rfl,yag _ _⟩
  · have hne': ¬((l.length:Nat):Int)=0:=fun e=>hne (yb0.1 (by omega));by_cases he:gM l=0
    · have hE:lV N l=oH N l:=by unfold lV;exact yai fun q=>q.elim hne fun q=>q he
      rw [hE];rw [he] at hck;clear hE;generalize oH N l=z at*;by_cases hz:z=0
      · rw [yak hz];subst hz;go_enter func149,ntmps149;go_wp2_with (first
          | (go_at_call 88;refine hck.mono ?_;rintro en w3 ⟨rfl,hb3⟩)
          | (go_at_call 163;refine (hin _ hb3).mono ?_;rintro en w4 ⟨rfl,hb4⟩)
          | go_in)
        go_ret2;exact ⟨rfl,hb3.trans (hb4.mono hb3.size)⟩
      · rw [yai hz];have hz2:(z !=0)=true:=by simpa using hz
        go_enter func149,ntmps149;go_wp2_with (first
          | (go_at_call 88;refine hck.mono ?_;rintro en w3 ⟨rfl,hb3⟩)
          | (go_at_call 163;refine (hin _ hb3).mono ?_;rintro en w4 ⟨rfl,hb4⟩)
          | go_in)
        go_ret2;exact ⟨rfl,hb3.trans (hb4.mono hb3.size)⟩
    · have hE:lV N l=4:=by unfold lV;exact yak (.inr he)
      rw [hE,yai (by decide)];clear hE;generalize gM l=z at*;have he2:(z !=0)=true:=by simpa using he
      go_enter func149,ntmps149;go_wp2_with (first
        | (go_at_call 88;refine hck.mono ?_;rintro en w3 ⟨rfl,hb3⟩)
        | go_in)
      go_ret2;exact ⟨rfl,hb3⟩
end Go.Proofs
namespace Go.Proofs
open Go.Dw Go.RowKit
structure Tryz.WS where
 aQ:List Sg
 n:Int
 e:Int
def Tryz.lq (g:Nat→Int) (a:Nat):Sg:=⟨aC g a 8,aC g (a+8) 4,aC g (a+12) 2/2%2*2 !=0⟩
def Tryz.fH (N:Nat) (g:Nat→Int) (tab:Int→Int→Int→WS→WS):Nat→Int→Int→Int→List Int→WS→WS
 | 0,_,_,_,_,s=>s
 | f+1,aR,size,k,seen,s=>
  if k∈seen∨size≤k then { s with e:=4 }
  else if¬(aR+16*k)%18446744073709551616+16≤N then { s with e:=5 }
  else if aC g (((aR+16*k)%18446744073709551616).toNat+12) 2/4%2=1 then
   tab (aC g ((aR+16*k)%18446744073709551616).toNat 8) (aC g (((aR+16*k)%18446744073709551616).toNat+8) 4) (aC g (((aR+16*k)%18446744073709551616).toNat+12) 2) { s with n:=s.n+1 }
  else if aC g (((aR+16*k)%18446744073709551616).toNat+12) 2%2=0 then ⟨s.aQ++ [lq g ((aR+16*k)%18446744073709551616).toNat],s.n+1,s.e⟩
  else fH N g tab f aR size (aC g (((aR+16*k)%18446744073709551616).toNat+14) 2) (k::seen) ⟨s.aQ++ [lq g ((aR+16*k)%18446744073709551616).toNat],s.n+1,s.e⟩
def Tryz.qM:Int→Int→Int→WS→WS:=fun _ _ _ s=> { s with e:=4 }
def Tryz.lQ (N:Nat) (g:Nat→Int) (table:Bool):Int→Int→Int→WS→WS:=fun A Ln F s=>
 if table=false∨ ¬F%2=0 then { s with e:=4 }
 else if (dA N A Ln).2=0 then fH N g qM ((dA N A Ln).1.toNat+1) A (dA N A Ln).1 0 [] { s with e:=0 }
 else { s with e:=(dA N A Ln).2 }
theorem Tryz.ztr {g:Nat→Int} (hg: ∀j,0≤g j∧g j<256) (a:Nat):(lq g a).ok:=
 ⟨(qA g hg a 8).1,(qA g hg a 8).2,(qA g hg (a+8) 4).1,(qA g hg (a+8) 4).2⟩
def Tryz.cO (w:World) (b2:Nat) (v:Value) (l:List Sg):Prop:=w.ownsRow b2 48 3 v l.length (dX l)
theorem Tryz.cO.kept {w w':World} {b2:Nat} {v:Value} {l:List Sg} (h:cO w b2 v l) (hb: ∀b,v.ownBlock=some b→w'.heap[b]? =w.heap[b]?):cO w' b2 v l:=by
 obtain ⟨h1,h2⟩:=h;refine ⟨h1,?_⟩;rcases h2 with h2|⟨G,cap,cur,e,h3,h4,h5⟩
 ·exact .inl h2
 ·exact .inr ⟨G,cap,cur,e,h3,by rw [hb G (by rw [e];rfl)];exact h4,h5⟩
theorem Tryz.cO.lt {w:World} {b2:Nat} {v:Value} {l:List Sg} (h:cO w b2 v l): ∀b,v.ownBlock=some b→b2≤b∧b<w.heap.size∧ ∃cur e fr,w.heap[b]? =some (.cells cur e fr):=fun b hb=>by
 obtain ⟨h1,h2⟩:=h;rcases h2 with ⟨rfl,_⟩|⟨G,cap,cur,rfl,h3,h4,h5⟩
 ·cases hb
 ·cases hb;exact ⟨h3,(yar.1 h4).1,_,_,_,h4⟩
theorem Tryz.cO.rV {w:World} {b2:Nat} {v:Value} {l:List Sg} (h:cO w b2 v l) (hok: ∀x∈l,x.ok) {A:Nat→Prop} (hA: ∀b,b2≤b→ ¬A b):aL A w v l:=by
 obtain ⟨h1,h2⟩:=h;rcases h2 with ⟨rfl,h2⟩|⟨G,cap,cur,rfl,h3,h4,h5,h6,h7,h8⟩
 ·have:l= []:=yb0.1 h2;subst this;exact aL.none
 ·refine ⟨_,cap,rfl,hok,.inr ⟨G,0,rfl,hA G h3,fun i y hy=> ?_⟩⟩;have hlt:i<(dX l).length:=(yay.1 hy).1;rw [←h8] at hy;have hi:i<l.length*3:=by rw [EA] at hlt;omega
  rw [yby hi] at hy;simp only [World.cell?,h4,yaq];simpa using hy
theorem Tryz.cO.one {w:World} {b2:Nat} {v:Value} {l:List Sg} (h:cO w b2 v l):v.oneCell'=true:=by
 obtain ⟨h1,h2⟩:=h;rcases h2 with ⟨rfl,h2⟩|⟨G,cap,cur,rfl,_⟩<;>rfl
structure Tryz.V6 where
 E:Nat
 Mb:Nat
 Nn:Nat
 Tb:Nat
 Fb:Nat
 Lc:Nat
def Tryz.V6.l (x:V6):List Nat:= [x.E,x.Mb,x.Nn,x.Tb,x.Fb,x.Lc]
def Tryz.vp (b:Nat):Value:= .pointer (some ⟨b,0,none⟩)
def Tryz.V6.caps (x:V6):List Value:= [vp x.E,vp x.Mb,vp x.Nn,vp x.Tb,vp x.Fb,vp x.Lc]
structure Tryz.WW (w:World) (P L Bs B N:Nat) (g:Nat→Int) (b2:Nat) (x:V6) (table:Bool) (v:Value) (s:WS):Prop where
 mem:GM w P L Bs B N g
 lo:P<b2∧L<b2∧Bs<b2∧B<b2
 nd:x.l.Nodup
 sep: ∀b∈x.l,b≠P∧b≠L∧b≠Bs∧b≠B
 oE:Own w x.E [.int .i64 s.e]
 oM:Own w x.Mb [vp P]
 oN:Own w x.Nn [.int .i64 s.n]
 oT:Own w x.Tb [.bool table]
 oF:Own w x.Fb [.func (.func 159) #[] x.caps.toArray]
 oL:Own w x.Lc [v]
 row:cO w b2 v s.aQ
 OG: ∀b,v.ownBlock=some b→b∉x.l
 ok: ∀y∈s.aQ,y.ok
 hb:b2≤w.heap.size
 n0:0≤s.n
theorem Tryz.WW.Oa {w:World} {P L Bs B N:Nat} {g:Nat→Int} {b2:Nat} {x:V6} {table:Bool} {v:Value} {s:WS} (h:WW w P L Bs B N g b2 x table v s): ∀b∈x.l,b<w.heap.size:=fun b hb=>by
 simp only [V6.l,yac,yae,yav] at hb;rcases hb with rfl|rfl|rfl|rfl|rfl|rfl
 ·exact qH h.oE
 ·exact qH h.oM
 ·exact qH h.oN
 ·exact qH h.oT
 ·exact qH h.oF
 ·exact qH h.oL
def Tryz.wK (x:V6) (v:Value) (b:Nat):Prop:=b∈x.l∨v.ownBlock=some b
theorem Tryz.xJ: ∀ {bl:List (Nat×Nat)} {l:List Sh},(bl.map (·.1)).Nodup→apart bl l
 | [], _,_=>by unfold apart;trivial
 | b::bl,[],_=>by unfold apart;trivial
 | b::bl,s::l,h=>by
  rw [yaK,ycc] at h;refine ⟨fun _ i b' s' h1 _ _ e=>h.1 (e▸ycN (ya9 h1)),xJ h.2⟩
def Tryz.jl (b2:Nat) (v:Value) (l:List Sg) (F:Nat→Prop) (w:World):Prop:=cO w b2 v l∧ ∀b,v.ownBlock=some b→F b
def Tryz.zF8 (g:Nat→Int) (b2 W0:Nat) (v:Value) (l:List Sg) (a:Nat) (l3:List Sg) (k:Nat) (q:Nat→Option Value) (F:Nat→Prop) (w:World):Prop:=
 match k with
 | 0=>jl b2 v l F w
 | 1=>jl b2 v l F w∧ ∃R o c,q 8=some (.slice (some ⟨R,o,none⟩) 16 c)∧F R∧w.rangeAt R o (row g a 16)
 | 2=> ∃u,q 12=some u∧jl b2 u (l++ [lq g a]) F w∧ ∀b,u.ownBlock=some b→v.ownBlock=some b∨W0≤b
 | _=> ∃u,q 10=some u∧jl b2 u l3 F w∧ ∀b,u.ownBlock=some b→v.ownBlock=some b∨W0≤b
theorem Tryz.jl.kept {b2:Nat} {v:Value} {l:List Sg} {F:Nat→Prop} {w w':World} (h:jl b2 v l F w) (hb: ∀b,F b→w'.heap[b]? =w.heap[b]?):jl b2 v l F w':=⟨h.1.kept fun b e=>hb b (h.2 b e),h.2⟩
def Tryz.nR (P L Bs B N:Nat) (g:Nat→Int) (b2 W0:Nat) (v:Value) (l:List Sg) (a:Nat) (l3:List Sg):aU where
 fact k q F w:=(F P∧F L∧F Bs∧F B∧GM w P L Bs B N g)∧zF8 g b2 W0 v l a l3 k q F w
 loc:=fun k q q' F w w' h hq hb hs=>by
  obtain ⟨⟨h1,h2,h3,h4,h5⟩,h6⟩:=h;refine ⟨⟨h1,h2,h3,h4,h5.kept (fun b _ hb'=>by rcases hb' with rfl|rfl|rfl|rfl<;>exact hb _ (by assumption)) hs⟩,?_⟩
  match k,h6 with
  | 0,h6=>exact jl.kept h6 hb
  | 1,⟨h6,R,o,c,h7,h8,h9⟩=>exact ⟨jl.kept h6 hb,R,o,c,hq _ _ h7,h8,gL h9 (hb R h8)⟩
  | 2,⟨u,h7,h8,h9⟩=>exact ⟨u,hq _ _ h7,jl.kept h8 hb,h9⟩
  | k+3,⟨u,h7,h8,h9⟩=>exact ⟨u,hq _ _ h7,jl.kept h8 hb,h9⟩
structure Tryz.sM (ρ:Val) (P:Nat) (aR size k e n A Ln F Nx cnt x jw e3 n3:Int) (inner table:Bool) (v:Value):Prop where
 Mq:(af 0).den ρ=aR
 wL:(ah 1).den ρ=size
 sU:(aF 2).den ρ=k
 Sv:ρ.i 3=e
 pW:(au 4).den ρ=n
 GJ:(af 10).den ρ=A
 Ml:(bM 11).den ρ=Ln
 d_F:(aF 12).den ρ=F
 Mk:SE.den ρ (.dG [⟨12,0,65535,0,1,0⟩] 0)=F%2
 aai:SE.den ρ (.dG [⟨12,0,65535,1,1,1⟩] 0)=F/2%2*2
 GK:SE.den ρ (.dG [⟨12,0,65535,2,1,2⟩] 0)=F/4%2*4
 Sq:(aF 13).den ρ=Nx
 Sr:ρ.i 14=cnt
 yP:ρ.i 15=x
 yO:ρ.i 16=jw
 Sw:ρ.i 20=e3
 Sy:ρ.i 21=n3
 Da:ρ.b 0=inner
 AP:ρ.b 1=table
 yN:ρ.v 0=vp P
 pX:ρ.v 1=v
theorem Tryz.zV {P:Nat} {aR size k e n A Ln F Nx cnt x jw e3 n3:Int} {inner table:Bool} {v:Value} (h0:0≤aR∧aR<18446744073709551616) (h1:1≤size∧size≤32768) (h2:0≤k∧k<65536) (h3:0≤n∧n<4611686018427387904)
  (h4:0≤A∧A<18446744073709551616) (h5:0≤Ln∧Ln<4294967296) (h6:0≤F∧F<65536) (h7:0≤Nx∧Nx<65536):
  ∃ ρ:Val,sM ρ P aR size k e n A Ln F Nx cnt x jw e3 n3 inner table v:=by
 refine ⟨BH [aR,size,k,e,n,0,0,0,0,0,A,Ln,F,Nx,cnt,x,jw,0,0,0,e3,n3] [inner,table] [vp P,v],iI h0.1 h0.2,zy6 h1.1 h1.2,jC h2.1 h2.2,rfl,mh h3.1 h3.2,iI h4.1 h4.2,pF h5.1 h5.2,jC h6.1 h6.2,?_,?_,?_,jC h7.1 h7.2,rfl,rfl,rfl,rfl,rfl,rfl,rfl,rfl,rfl⟩
 ·refine (Q6 (i:=12) h6.1 (by show F≤_;omega)).trans ?_;show F/((2^0:Nat):Int)%((2^1:Nat):Int)*((2^0:Nat):Int)=_;have e1:((2^0:Nat):Int)=1:=rfl;have e2:((2^1:Nat):Int)=2:=rfl;rw [e1,e2];omega
 ·refine (Q6 (i:=12) h6.1 (by show F≤_;omega)).trans ?_;show F/((2^1:Nat):Int)%((2^1:Nat):Int)*((2^1:Nat):Int)=_;have e2:((2^1:Nat):Int)=2:=rfl;rw [e2]
 ·refine (Q6 (i:=12) h6.1 (by show F≤_;omega)).trans ?_;show F/((2^2:Nat):Int)%((2^1:Nat):Int)*((2^2:Nat):Int)=_;have e2:((2^1:Nat):Int)=2:=rfl;have e3:((2^2:Nat):Int)=4:=rfl;rw [e2,e3]
theorem Tryz.rW {j:J} {n:Nat} {u:Value}:gQ (jq j n [u]) n=some u:=by
 unfold gQ jq;rw [yak ⟨yab _,by simp⟩];simp
theorem Tryz.zyA {ρ:Val} {P:Nat} {aR size k e n A Ln F Nx cnt x jw e3 n3:Int} {inner table:Bool} {v:Value} (h:sM ρ P aR size k e n A Ln F Nx cnt x jw e3 n3 inner table v) (hk:0≤k∧k<65536):
  SE.den ρ (.bin .add .u64 (af 0) (.bin .mul .u64 (.lit 16) (aF 2)))=(aR+16*k)%18446744073709551616:=by
 rw [den_add,den_mul,h.Mq,h.sU,zag,bE (k:=16*k) (by omega) (by omega),Ca]
section
variable {ρ:Val} {P L Bs B N:Nat} {aR size k e n A Ln F Nx cnt x jw e3 n3:Int} {inner table:Bool} {v:Value} {g:Nat→Int} {b2 W0:Nat} {l l3:List Tryz.Sg} {a:Nat} {w0:World} {K:Nat→Prop}
theorem Tryz.Jv (hd:sM ρ P aR size k e n A Ln F Nx cnt x 0 e3 n3 inner table v) (hk:0≤k∧k<65536) (ha:(aR+16*k)%18446744073709551616=a) (hN:N≤1048576) (hin:a+16≤N):
  mq prog ρ w0 K (nR P L Bs B N g b2 W0 v l a l3) FT:=by
 refine ⟨Dw.enters_of (by kernel_rfl),fun j w vals F n hv hn hb hF hsz hf _=> ?_⟩;have hv:=Cu (by decide) hv (ai (iB (ρ:=ρ) (j:=j) hd.yN rfl) (ai (aA ((zyA hd hk).trans ha)) (ai (aA rfl) RL.nil)));subst hv;have hb:n=8:=hb (by decide);subst hb;obtain ⟨⟨f1,f2,f3,f4,hm⟩,f6⟩:=hf;refine yas (zDL P L Bs B N a 16 g w hm hN (by omega) hin) fun en w' hh=> ?_;obtain ⟨u,rfl,⟨_,hrow⟩,hbl⟩:=hh;rcases hrow with ⟨_,h⟩|⟨G,cap,cur,rfl,h3,h4,h5,h6,h7,h8⟩
 ·cases h
 have aao:G<w'.heap.size:=(yar.1 h4).1;refine ⟨_,[.slice (some ⟨G,0,none⟩) 16 cap],fun b=>F b∨b=G,rfl,rfl,?_,⟨⟨.inl f1,.inl f2,.inl f3,.inl f4,hm.below hbl⟩,⟨?_,fun b hb=> .inl (f6.2 b hb)⟩,G,0,cap,rW,.inr rfl,?_⟩,?_,Dw.Mv.of_below hbl⟩
 ·refine oD (ai ⟨⟨⟨0,0,0,some _⟩,?_,rfl⟩,rfl,fun _ h=>by cases h⟩ (ai (aA hd.yO) RL.nil));show jq j 8 _ 8=_;unfold jq;rw [yak ⟨yab _,by simp⟩];simp
 ·exact f6.1.kept fun b hb=>hbl.block b (f6.1.lt b hb).2.1
 ·intro i y hy;rw [←h8] at hy;have hlt:i<16:=by
   have:=(yay.1 hy).1;rw [ybz] at this;omega
  rw [yby (by omega)] at hy;simp only [World.cell?,h4,yaq];simpa using hy
 ·rintro b (hb|rfl)
  ·exact ⟨yad (hF b hb) hbl.size,.inl hb⟩
  ·exact ⟨aao,.inr h3⟩
theorem Tryz.zvh (hd:sM ρ P aR size k e n A Ln F Nx cnt x 5 e3 n3 inner table v) (hk:0≤k∧k<65536) (hN:N≤1048576) (h1:1≤N) (hin: ¬(aR+16*k)%18446744073709551616+16≤N):
  mq prog ρ w0 K (nR P L Bs B N g b2 W0 v l a l3) zxi:=
 iU (Dw.enters_of (by kernel_rfl)) (by decide) [vp P,.int .u64 ((aR+16*k)%18446744073709551616),.int .i64 16] (.tuple #[.slice none 0 0,.int .i64 5]) (fun j=>ai (iB hd.yN rfl) (ai (aA (zyA hd hk)) (ai (aA rfl) RL.nil))) (fun j=>oD (ai rfl (ai (aA hd.yO) RL.nil))) fun w F q hf=>by
  obtain ⟨⟨_,_,_,_,hm⟩,_⟩:=hf;exact zAG P L Bs B N _ 16 g w hm hN h1 (by omega) (by omega) (by omega) (by omega) hin
theorem Tryz.KF (hd:sM ρ P aR size k e n (aC g a 8) (aC g (a+8) 4) (aC g (a+12) 2) (aC g (a+14) 2) cnt x jw e3 n3 inner table v) (hg: ∀j,0≤g j∧g j<256):
  mq prog ρ w0 K (nR P L Bs B N g b2 W0 v l a l3) Gq:=
 WO (Dw.enters_of (by kernel_rfl)) fun j w vals F hv hf=>by
  obtain ⟨_,_,R,o,c,hq,_,hr⟩:=hf;obtain ⟨u,m,rfl,⟨⟨Lq,hj,hu⟩,_⟩,hm⟩:=hv;have hm:m= []:=hm;subst hm;have hu:u= .slice (some ⟨R,o,none⟩) 16 c:=by
   unfold gQ at hq;rw [hj] at hq;simp only [ybF] at hq;rw [hu] at hq;exact yaC hq
  subst hu;refine yas (zp9 hg a R o c w hr) fun en w' hh=>⟨_,hh.1,?_,hh.2⟩;exact oD (ai (OU (ai (aA hd.GJ) (ai (aA hd.Ml) (ai (aA hd.d_F) (ai (aA hd.Sq) RL.nil))))) (ai (aA rfl) RL.nil))
theorem Tryz.Zp (hd:sM ρ P aR size k e n A Ln F Nx (dA N A Ln).1 (dA N A Ln).2 jw e3 n3 inner table v) (hN:N≤1048576) (h1:1≤N) (hA:0≤A∧A<18446744073709551616) (hL:0≤Ln∧Ln<4294967296):
  mq prog ρ w0 K (nR P L Bs B N g b2 W0 v l a l3) Q5:=
 iU (Dw.enters_of (by kernel_rfl)) (by decide) [vp P,.int .u64 A,.int .u32 Ln] (.tuple #[.int .i64 (dA N A Ln).1,.int .i64 (dA N A Ln).2]) (fun j=>ai (iB hd.yN rfl) (ai (aA hd.GJ) (ai (aA hd.Ml) RL.nil))) (fun j=>oD (ai (aA hd.Sr) (ai (aA hd.yP) RL.nil))) fun w F q hf=>
  zrL hf.1.2.2.2.2 hN h1 hA.1 hA.2 hL.1 hL.2
theorem Tryz.FR:(prog.info? 48).map (fun i=>(i.zero,i.size,i.bytes))=some (some (.agg #[.int .u64 0,.int .u32 0,.bool false]),3,16):=by kernel_rfl
set_option maxRecDepth 10000 in
theorem Tryz.zDk (hd:sM ρ P aR size k e n (aC g a 8) (aC g (a+8) 4) (aC g (a+12) 2) Nx cnt x jw e3 n3 inner table v) (hlo:P<b2∧L<b2∧Bs<b2∧B<b2) (hW:W0=w0.heap.size) (hb2:b2≤W0) (hK: ∀b,v.ownBlock=some b→K b) (hl:l.length≤1000000):
    O4 prog ρ w0 K (nR P L Bs B N g b2 W0 v l a l3) UX:=by
  intro j w F n us bb o cap vals ty fD hcells hxs hnone hbase hF hsz hf;have hb:n=12:=hbase (by decide);subst hb;obtain ⟨⟨f1,f2,f3,f4,hm⟩,⟨f5,f6⟩,_⟩:=hf;have fD:=ku (by decide) fD;have fD:us=v:=by rw [fD];exact hd.pX
  subst fD;have hxs:=Cu (by decide) hxs (ai (aA hd.GJ) (ai (aA hd.Ml) (ai (fA rfl) RL.nil)));have D8:vals=(lq g a).cells:=by
    rw [hxs];unfold lq Sg.cells;rw [show SB.den ρ (.cmp .neq (.dG [⟨12,0,65535,1,1,1⟩] 0) (.lit 0))=(aC g (a+12) 2/2%2*2 !=0) from by rw [lU,hd.aai,zag]]
  subst D8;have hinfo:=FR;cases hi:prog.info? 48 with
  | none=>rw [hi] at hinfo;cases hinfo
  | some i=>
  rw [hi] at hinfo;simp only [yaJ,ybP,ych] at hinfo;obtain ⟨i1,i2,i3⟩:=hinfo;obtain ⟨u,w',h1,h2,h3,h4,h5⟩:=ydz (P:=prog) w b2 36 ty 48 i _ 3 16 (by kernel_rfl) hi i1 i2 i3 rfl (by decide) us l.length (dX l) f5 ⟨bb,o,none⟩ 1 cap (lq g a).cells rfl
    (fun q y hy=>by
      rw [Dw.addr_add];exact hcells q y hy) (fun y hy=>by simp only [Sg.cells,yac,yae,yav] at hy;rcases hy with rfl|rfl|rfl<;>rfl) (by unfold maxLen;omega) (by omega) (by omega)
  have hseg:dX l++(lq g a).cells=dX (l++ [lq g a]):=by simp [dX]
  have hown:cO w' b2 u (l++ [lq g a]):=by
    unfold cO;rw [←hseg,yaQ];exact h2
  have hub:=hown.lt;have Ig: ∀b,u.ownBlock=some b→us.ownBlock=some b∨w.heap.size≤b:=fun b hb=>by
    rcases h5 with h5|h5
    · exact .inl (h5▸hb)
    · rw [hb] at h5;cases h5;exact .inr (yab _)
  have hmv:Dw.Mv (fun b=>us.ownBlock=some b) w w':=⟨h3.os,h3.tape,h3.output,h3.size,fun b hb hn=>h3.block b hb (fun e=>hn e.symm)⟩;have hvP: ∀b,us.ownBlock=some b→b≠P∧b≠L∧b≠Bs∧b≠B:=fun b hb=>by
    have:=(f5.lt b hb).1;omega
  refine ⟨u,w',[u],fun b=>F b∨u.ownBlock=some b,h1,rfl,⟨⟨⟨0,0,0,some u⟩,?_,rfl⟩,hown.one,fun _ h=>(by cases h)⟩,⟨⟨.inl f1,.inl f2,.inl f3,.inl f4,hm.kept (fun b hb hb'=>hmv.block b hb (fun e=>by
      obtain ⟨r1,r2,r3,r4⟩:=hvP b e;rcases hb' with h|h|h|h<;>contradiction)) hmv.size⟩,u,rW,⟨hown,fun b hb=> .inr hb⟩,fun b hb=> ?_⟩,?_,hmv.mono fun b hb=>⟨f6 b hb,.inr (hK b hb)⟩⟩
  · show jq j 12 _ 12=_;unfold jq;rw [yak ⟨yab _,by simp⟩];simp
  · rcases Ig b hb with h|h
    · exact .inl h
    · exact .inr (by omega)
  · rintro b (hb|hb)
    · exact ⟨yad (hF b hb) hmv.size,.inl hb⟩
    · refine ⟨(hub b hb).2.1,?_⟩;rcases Ig b hb with h|h
      · exact .inl (f6 b h)
      · exact .inr h
end
end Go.Proofs
namespace Go.Proofs
open Go.Dw Go.RowKit
structure Tryz.nO (w:World) (a:Act) (P L Bs B N:Nat) (g:Nat→Int) (b2:Nat) (x:V6) (table:Bool) (v:Value) (s:WS) (M:Nat) (aR size k:Int) (inner:Bool) (seen:List Int):Prop where
 ww:WW w P L Bs B N g b2 x table v s
 nl:(s.aQ.length:Int)≤s.n
 mM:b2≤M∧M<w.heap.size∧M∉x.l
 map: ∃arr clock,w.heap[M]? =some (.map arr clock)∧(jE arr∧kI arr clock)∧ ∀n:Int,dB arr n=if n∈seen then some (.bool true) else none
 zI:a.tmps.size=104
 dF:a.defers= []
 t0:a.tmps.getD 0 undef= .int .u64 aR
 t1:a.tmps.getD 1 undef= .int .i64 size
 t2:a.tmps.getD 2 undef= .int .i64 k
 t3:a.tmps.getD 3 undef= .bool inner
 t4:a.tmps.getD 4 undef=vp x.E
 t5:a.tmps.getD 5 undef=vp x.Mb
 t6:a.tmps.getD 6 undef=vp x.Nn
 t7:a.tmps.getD 7 undef=vp x.Tb
 t8:a.tmps.getD 8 undef=vp x.Fb
 t9:a.tmps.getD 9 undef=vp x.Lc
 t14:a.tmps.getD 14 undef= .map (some M)
def Tryz.kP (x:V6) (M:Nat):List (Nat×Nat):= [(x.E,0),(x.Mb,0),(x.Nn,0),(x.Tb,0),(x.Fb,0),(x.Lc,0),(M,0)]
def Tryz.lY (x:V6) (v:Value) (M b:Nat):Prop:=wK x v b∨b=M
theorem Tryz.Kw {bl:List (Nat×Nat)} {b:Nat} (h:Mine (aJ bl) b):b∈bl.map (·.1):=by
 obtain ⟨k,L,h1,_,h3⟩:=h
 match k,h1 with
 | 0,h1=>cases h1
 | k+1,h1=>
  have h1:(bl[k]?).map (fun b=>(⟨b.1,b.2,0,none⟩:Dw.Loc))=some L:=h1;cases hk:bl[k]? with
  | none=>rw [hk] at h1;cases h1
  | some p=>
   rw [hk] at h1;cases h1;exact ya6.2 ⟨p,ya9 hk,h3⟩
section
variable {w:World} {a:Act} {P L Bs B N:Nat} {g:Nat→Int} {b2:Nat} {x:Tryz.V6} {table:Bool} {v:Value} {s:Tryz.WS} {M:Nat} {aR size k:Int} {inner:Bool} {seen:List Int} {ρ:Val} {A Ln F Nx cnt xx jw e3 n3:Int} {l3:List Tryz.Sg} {aa:Nat}
theorem Tryz.nO.vM (h:nO w a P L Bs B N g b2 x table v s M aR size k inner seen): ∀b,v.ownBlock=some b→b≠M:=fun b hb e=>by
 obtain ⟨_,_,cur,t,fr,hc⟩:=h.ww.row.lt b hb;obtain ⟨arr,clock,hm,_⟩:=h.map;rw [e,hm] at hc;cases hc
theorem Tryz.nO.iA (h:nO w a P L Bs B N g b2 x table v s M aR size k inner seen): ∀b,lY x v M b→b<w.heap.size:=fun b hb=>by
 rcases hb with (hb|hb)|rfl
 ·exact h.ww.Oa b hb
 ·exact (h.ww.row.lt b hb).2.1
 ·exact h.mM.2.1
theorem Tryz.nO.nd (h:nO w a P L Bs B N g b2 x table v s M aR size k inner seen):((kP x M).map (·.1)).Nodup:=by
 have h1:=h.ww.nd;have h2:=h.mM.2.2;simp only [kP,yaK,ya0,V6.l,ycc,yac,yae,yav,not_or] at h1 h2 ⊢;obtain ⟨⟨a1,a2,a3,a4,a5⟩,⟨b1,b2,b3,b4⟩,⟨c1,c2,c3⟩,⟨d1,d2⟩,e1,_⟩:=h1;obtain ⟨m1,m2,m3,m4,m5,m6⟩:=h2;refine ⟨⟨a1,a2,a3,a4,a5,fun e=>m1 e.symm⟩,⟨b1,b2,b3,b4,fun e=>m2 e.symm⟩,⟨c1,c2,c3,fun e=>m3 e.symm⟩,⟨d1,d2,fun e=>m4 e.symm⟩,⟨e1,fun e=>m5 e.symm⟩,fun e=>m6 e.symm,?_⟩;exact ⟨fun h=>h,ycB⟩
theorem Tryz.zEy {j:J} (h1:j 1=some ⟨x.E,0,0,none⟩) (h2:j 2=some ⟨x.Mb,0,0,none⟩) (h3:j 3=some ⟨x.Nn,0,0,none⟩) (h4:j 4=some ⟨x.Tb,0,0,none⟩) (h5:j 5=some ⟨x.Fb,0,0,none⟩) (h6:j 6=some ⟨x.Lc,0,0,none⟩):RL ρ j Cy x.caps:=
 ai (bT h1) (ai (bT h2) (ai (bT h3) (ai (bT h4) (ai (bT h5) (ai (bT h6) RL.nil)))))
theorem Tryz.Ae (h:nO w a P L Bs B N g b2 x table v s M aR size k inner seen) (hd:sM ρ P aR size k s.e s.n A Ln F Nx cnt xx jw e3 n3 inner table v) {gh:aU} {o:Option AV} {ov:Option Value} (ho:RO ρ (aJ (kP x M)) o ov) (hov:ov=if k∈seen then some (.bool true) else none):
  oI ρ (aJ (kP x M)) (gW w (lY x v M) gh) (kP x M) (yH [(.int .i64 (aF 2),o)]):=by
 have k6: ∀b∈x.l,lY x v M b:=fun b hb=> .inl (.inl hb);obtain ⟨arr,clock,m1,m2,m3⟩:=h.map;refine ⟨gy h.ww.oE (ai (aA hd.Sv) RL.nil) (k6 _ (by simp [V6.l])),gy h.ww.oM (ai (iB hd.yN rfl) RL.nil) (k6 _ (by simp [V6.l])),gy h.ww.oN (ai (aA hd.pW) RL.nil) (k6 _ (by simp [V6.l])),gy h.ww.oT (ai (fA hd.AP) RL.nil) (k6 _ (by simp [V6.l])),
  gy h.ww.oF (ai (jP RL.nil (zEy rfl rfl rfl rfl rfl rfl)) RL.nil) (k6 _ (by simp [V6.l])),gy h.ww.oL (ai (iB hd.pX h.ww.row.one) RL.nil) (k6 _ (by simp [V6.l])),⟨.inr rfl,rfl,arr,clock,[(k,ov)],m1,m2,⟨k,ov,[],rfl,aA hd.sU,ho,rfl⟩,fun k' o' hm=> ?_⟩,trivial⟩
 simp only [yac,ych,yae,yav] at hm;obtain ⟨rfl,rfl⟩:=hm;rw [hov];exact m3 k'
theorem Tryz.yR (h:nO w a P L Bs B N g b2 x table v s M aR size k inner seen):(nR P L Bs B N g b2 w.heap.size v s.aQ aa l3).G 0 (aJ (kP x M)) w:=by
 obtain ⟨l1,l2,l3',l4⟩:=h.ww.lo;have hm:=h.ww.mem;refine ⟨fun b=>b=P∨b=L∨b=Bs∨b=B∨v.ownBlock=some b,fun b hb=>⟨?_,fun hmn=> ?_⟩,⟨.inl rfl,.inr (.inl rfl),.inr (.inr (.inl rfl)),.inr (.inr (.inr (.inl rfl))),hm⟩,h.ww.row,fun b hb=> .inr (.inr (.inr (.inr hb)))⟩
 ·rcases hb with rfl|rfl|rfl|rfl|hb
  ·exact hm.pl
  ·exact hm.ll
  ·exact hm.sl
  ·exact hm.bl
  ·exact (h.ww.row.lt b hb).2.1
 ·have hmn:=Kw hmn;have hx:b∈x.l∨b=M:=by
   simp only [kP,yaK,ya0,yac,yae,yav] at hmn;simp only [V6.l,yac,yae,yav];rcases hmn with h|h|h|h|h|h|h<;>simp [h]
  rcases hx with hx|rfl
  ·obtain ⟨s1,s2,s3,s4⟩:=h.ww.sep b hx;rcases hb with h|h|h|h|hb
   ·exact s1 h
   ·exact s2 h
   ·exact s3 h
   ·exact s4 h
   ·exact h.ww.OG b hb hx
  ·have:=h.mM.1;rcases hb with h|h|h|h|hb
   ·omega
   ·omega
   ·omega
   ·omega
   ·exact h.vM b hb rfl
theorem Tryz.zU (h:nO w a P L Bs B N g b2 x table v s M aR size k inner seen) (hd:sM ρ P aR size k s.e s.n A Ln F Nx cnt xx jw e3 n3 inner table v): ∀t∈vP,Dw.R ρ (aJ (kP x M)) t.2 (a.tmps.getD t.1 undef):=fun t ht=>by
 simp only [vP,yac,yae,yav] at ht;rcases ht with rfl|rfl|rfl|rfl|rfl|rfl|rfl|rfl|rfl|rfl|rfl
 ·rw [h.t0];exact aA hd.Mq
 ·rw [h.t1];exact aA hd.wL
 ·rw [h.t2];exact aA hd.sU
 ·rw [h.t3];exact fA hd.Da
 ·rw [h.t4];exact bT (L:=⟨x.E,0,0,none⟩) rfl
 ·rw [h.t5];exact bT (L:=⟨x.Mb,0,0,none⟩) rfl
 ·rw [h.t6];exact bT (L:=⟨x.Nn,0,0,none⟩) rfl
 ·rw [h.t7];exact bT (L:=⟨x.Tb,0,0,none⟩) rfl
 ·rw [h.t8];exact bT (L:=⟨x.Fb,0,0,none⟩) rfl
 ·rw [h.t9];exact bT (L:=⟨x.Lc,0,0,none⟩) rfl
 ·rw [h.t14];exact OT (L:=⟨M,0,0,none⟩) rfl
def Tryz.Vu (e' n':SE) (lv:AV):List (Nat×List AV):= [(1,[.int .i64 e']),(2,[.cst 0 none]),(3,[.int .i64 n']),(4,[.bool (.var 1)]),(5,[qb]),(6,[lv])]
theorem Tryz.sj (h:nO w a P L Bs B N g b2 x table v s M aR size k inner seen) (hd:sM ρ P aR size k s.e s.n A Ln F Nx cnt xx jw e3 n3 inner table v) {gh:aU} {l:Leaf} {e:Ending} {w':World} {j:J} {e' n':SE} {lv:AV}
  (he:oG ρ w (lY x v M) gh (kP x M) l e w' j) (hrows:l.rows=Vu e' n' lv) {v':Value} {s':WS} (hv:lv.val ρ (dH j)=v') (h1:e'.den ρ=s'.e) (h2:n'.den ρ=s'.n) (hm:GM w' P L Bs B N g) (h3:cO w' b2 v' s'.aQ)
  (h4: ∀b,v'.ownBlock=some b→v.ownBlock=some b∨w.heap.size≤b) (h5: ∀y∈s'.aQ,y.ok) (h6:0≤s'.n):WW w' P L Bs B N g b2 x table v' s':=by
 have k6: ∀b∈x.l,lY x v M b:=fun b hb=> .inl (.inl hb);have hj: ∀i L,aJ (kP x M) i=some L→j i=some L:=fun i L=>he.sub i L;have dO:=bB (hj 1 _ rfl);have dS:=bB (hj 2 _ rfl);have zw:=bB (hj 3 _ rfl);have zA:=bB (hj 4 _ rfl);have zB:=bB (hj 5 _ rfl);have zC:=bB (hj 6 _ rfl);have hr: ∀ {n:Nat} {row:List AV} {b:Nat},(n,row)∈Vu e' n' lv→aJ (kP x M) n=some ⟨b,0,0,none⟩→b∈x.l→Own w' b (AV.aP ρ (dH j) row):=fun {n row b} hm hjn hb=>by
  rw [←hrows] at hm;exact (EW he.rows hm _ (hj n _ hjn)).2 (.inr (k6 b hb)) rfl
 have r1:=hr (n:=1) (.head _) rfl (by simp [V6.l]);have r2:=hr (n:=2) (.tail _ (.head _)) rfl (by simp [V6.l]);have r3:=hr (n:=3) (.tail _ (.tail _ (.head _))) rfl (by simp [V6.l]);have r4:=hr (n:=4) (.tail _ (.tail _ (.tail _ (.head _)))) rfl (by simp [V6.l]);have r5:=hr (n:=5) (.tail _ (.tail _ (.tail _ (.tail _ (.head _))))) rfl (by simp [V6.l]);have r6:=hr (n:=6) (.tail _ (.tail _ (.tail _ (.tail _ (.tail _ (.head _)))))) rfl (by simp [V6.l]);simp only [AV.aP,AV.val,qb,Cy,dO,dS,zw,zA,zB,zC,hv,h1,h2,hd.yN,dJ,hd.AP] at r1 r2 r3 r4 r5 r6;refine ⟨hm,h.ww.lo,h.ww.nd,h.ww.sep,r1,r2,r3,r4,r5,r6,h3,fun b hb hx=> ?_,h5,yau h.ww.hb he.mv.size,h6⟩;rcases h4 b hb with h'|h'
 ·exact h.ww.OG b h' hx
 ·have:=h.ww.Oa b hx;omega
theorem Tryz.qD {ρ:Val} {j:J} {w:World} {b:Nat} {row:List AV} {vs:List Value} (h:Own w b vs) (hx:AV.pY row=true) (hr:RL ρ j row vs):Own w b (AV.aP ρ (dH j) row):=(qU hx hr)▸h
end
end Go.Proofs
end
