/-
  Proved: laws on the way to 'PdriveHoldsProof' (texts DwOpen DwEnt DwWay DwDen SoA SoB SoC SoD SoF SoG SoH DwLoop WkA WkB SoI SoJ SoK SoL SoM SoN WkC WkD WkE WkF0 WkG DwTurn WkH0 WkH WkI0 WkI WkJ ClA WkK PsA PsB0 PsB); no condition.
-/
import Derived.Test.YtkemikknnokdhaaGreatM3
import Derived.KernelRfl
import Derived.Maps.AppendAt
import Derived.Defers
import Derived.BigFrame
import Derived.Recover
set_option linter.unusedSimpArgs false
set_option linter.unusedVariables false
set_option maxHeartbeats 4000000
noncomputable section
namespace Go.Dw
open Go.RowKit
def Val.mark (ρ:Val) (m:Nat→Bool):Val:=⟨ρ.i,fun n=>if n<1000000 then ρ.b n else m n,ρ.v⟩
def SB.small:SB→Bool
 | .lit _=>true
 | .var n=>Nat.blt n 1000000
 | .cmp _ _ _=>true
 | .not a=>a.small
 | .beq a b=>match a.small with|true=>b.small|false=>false
 | .and a b=>match a.small with|true=>b.small|false=>false
theorem zkZ (ρ:Val) (m:Nat→Bool): ∀(l:List Fld) (c:Nat),zab (ρ.mark m) l c=zab ρ l c
 | [], c=>rfl
 | f::l,c=>by
  unfold zab
  rw [zkZ ρ m l c]
  rfl
theorem SE.den_mark (ρ:Val) (m:Nat→Bool): ∀a:SE,a.den (ρ.mark m)=a.den ρ
 | .lit n=>rfl
 | .var i=>rfl
 | .bin o k a b=>by unfold SE.den;rw [SE.den_mark ρ m a,SE.den_mark ρ m b]
 | .wrap k a=>by unfold SE.den;rw [SE.den_mark ρ m a]
 | .flds l c=>by unfold SE.den;rw [zkZ]
theorem SB.den_mark (ρ:Val) (m:Nat→Bool): ∀b:SB,b.small=true→b.den (ρ.mark m)=b.den ρ
 | .lit b,_=>rfl
 | .var n,h=>by
  have h:Nat.blt n 1000000=true:=h
  rw [Nat.blt_eq] at h
  show (if n<1000000 then ρ.b n else m n)=ρ.b n
  rw [if_pos h]
 | .cmp o a b,_=>by unfold SB.den;rw [SE.den_mark,SE.den_mark]
 | .not a,h=>by unfold SB.den;rw [SB.den_mark ρ m a h]
 | .beq a b,h=>by
  unfold SB.small at h
  split at h
  ·rename_i ha;unfold SB.den;rw [SB.den_mark ρ m a ha,SB.den_mark ρ m b h]
  ·cases h
 | .and a b,h=>by
  unfold SB.small at h
  split at h
  ·rename_i ha;unfold SB.den;rw [SB.den_mark ρ m a ha,SB.den_mark ρ m b h]
  ·cases h
structure Leaf where
 v:AV
 rows:List (Nat×List AV)
 maps:List (Nat×List (AV×Option AV))
 gs:Nat
 own:List Nat
def zj8 (H:Heap) (n:Nat) (l:List AV):Bool:=
 match H.m.get n with
 | some (.cells v _ g c _ _)=>(match alive H.gw g c,Nat.beq v.n l.length with
  | true,true=>AV.beqL (v.list 0 v.n) l
  | _,_=>false)
 | _=>false
def zp5:Option AV→Option AV→Bool
 | none,none=>true
 | some a,some b=>AV.beq a b
 | _,_=>false
def znk:List (AV×Option AV)→List (AV×Option AV)→Bool
 | [], [] => true
 | a::l,b::m=>(match AV.beq a.1 b.1,zp5 a.2 b.2 with
  | true,true=>znk l m
  | _,_=>false)
 | _,_=>false
def zoy (H:Heap) (n:Nat) (l:List (AV×Option AV)):Bool:=
 match H.m.get n with
 | some (.mapx _ log)=>znk log l
 | _=>false
def zkX (H:Heap) (n:Nat):Nat:=
 match H.m.get n with
 | some (.cells _ _ g _ _ _)=>g
 | _=>0
def zsB (H:Heap) (g:Nat):List (Nat×List AV)→Bool
 | [] => false
 | p::l=>match Nat.beq (zkX H p.1) g with|true=>true|false=>zsB H g l
def zb5 (H:Heap):List (Nat×List AV)→Bool
 | [] => true
 | p::l=>match zj8 H p.1 p.2,zsB H (zkX H p.1) l with|true,false=>zb5 H l|_,_=>false
theorem zjs {H:Heap} {g:Nat}: ∀ {l:List (Nat×List AV)},zsB H g l=false→ ∀ {r:Nat×List AV},r∈l→zkX H r.1≠g
 | [], _,_,h=>by cases h
 | x::l,ha,r,h=>by
  unfold zsB at ha
  split at ha
  ·cases ha
  rename_i h1
  rcases List.mem_cons.1 h with rfl|h
  ·intro e
   rw [e] at h1
   simp [Nat.beq_refl] at h1
  ·exact zjs ha h
theorem ze4 {H:Heap}: ∀ {l:List (Nat×List AV)},zb5 H l=true→ ∀ {r r':Nat×List AV},r∈l→r'∈l→r.1≠r'.1→zkX H r.1≠zkX H r'.1
 | [], _,_,_,h,_,_=>by cases h
 | x::l,ha,r,r',h,h',hne=>by
  unfold zb5 at ha
  split at ha
  case h_2=>cases ha
  rename_i h1 h2
  rcases List.mem_cons.1 h with h3|h3
  ·rcases List.mem_cons.1 h' with h4|h4
   ·exact absurd (by rw [h3,h4]) hne
   ·rw [h3];exact fun e=>zjs h2 h4 e.symm
  ·rcases List.mem_cons.1 h' with h4|h4
   ·rw [h4];exact zjs h2 h3
   ·exact ze4 ha h3 h4 hne
def zeH (H:Heap):List (Nat×List (AV×Option AV))→Bool
 | [] => true
 | p::l=>match zoy H p.1 p.2 with|true=>zeH H l|false=>false
def zvo (H:Heap) (n:Nat):Bool:=
 match H.m.get n with
 | some (.cells _ _ g _ _ true)=>Nat.beq g n
 | _=>false
def zhb (H:Heap):List Nat→Bool
 | [] => true
 | n::l=>match zvo H n with|true=>zhb H l|false=>false
theorem zha {H:Heap}: ∀ {l:List Nat},zhb H l=true→ ∀ {n:Nat},n∈l→ ∃v e c sh,H.m.get n=some (.cells v e n c sh true)
 | [], _,_,h=>by cases h
 | x::l,ha,n,h=>by
  unfold zhb at ha
  split at ha
  case h_2=>cases ha
  rename_i h1
  rcases List.mem_cons.1 h with rfl|h
  ·unfold zvo at h1
   split at h1
   ·rename_i hm
    have h1:=zam h1
    subst h1
    exact ⟨_,_,_,_,hm⟩
   ·cases h1
  ·exact zha ha h
def Leaf.fits (l:Leaf) (v:AV) (H:Heap):Bool:=
 match AV.beq v l.v,zb5 H l.rows,zeH H l.maps,Nat.beq H.gs l.gs with
 | true,true,true,true=>zhb H l.own
 | _,_,_,_=>false
def zb8:List Leaf→Nat→AV→Heap→Ob
  | [], _, _, _ => .bad 95 ""
  | l::r,i,v,H=>match l.fits v H with
    | true => zdA (Nat.add 1000000 i) fun n => .ite (.var n) .ok (.bad 96 "")
    | false=>zb8 r (Nat.succ i) v H
def zqq:SB→Option Nat
 | .var n=>(match Nat.ble 1000000 n with|true=>some (Nat.sub n 1000000)|false=>none)
 | _=>none
def zuk:BinOp→Option BinOp
 | .eql=>some .neq| .neq=>some .eql| .lss=>some .geq| .geq=>some .lss| .leq=>some .gtr| .gtr=>some .leq
 | _=>none
def zo8:BinOp→BinOp
 | .lss=> .gtr| .gtr=> .lss| .leq=> .geq| .geq=> .leq
 | o=>o
def zqr:BinOp→Bool
 | .eql| .neq| .lss| .leq| .gtr| .geq=>true
 | _=>false
def zrt (pre:List (SB×Bool)) (o:BinOp) (a b:SE):Option Bool:=
 match zeT (.cmp o a b) pre with
 | some c=>some c
 | none=>match zuk o with
  | some o'=>(match zeT (.cmp o' a b) pre with|some true=>some false|some false=>some true|none=>none)
  | none=>none
def zgk (pre:List (SB×Bool)):SB→Option Bool
 | .lit b=>some b
 | .not a=>(match zeT (.not a) pre with
  | some b=>some b
  | none=>match zgk pre a with|some true=>some false|some false=>some true|none=>none)
 | .and a b=>(match zeT (.and a b) pre with
  | some c=>some c
  | none=>match zgk pre a with
   | some false=>some false
   | some true=>zgk pre b
   | none=>match zgk pre b with|some false=>some false|_=>none)
 | .cmp o a b=>(match zrt pre o a b with
  | some c=>some c
  | none=>match zqr o with
   | true=>zrt pre (zo8 o) b a
   | false=>none)
 | c=>zeT c pre
def zhR (pre:List (SB×Bool)):SB→SB
 | .lit b=> .lit b
 | .not a=>(match zgk pre (.not a) with
  | some b=> .lit b
  | none=>mkNot (zhR pre a))
 | .and a b=>(match zgk pre (.and a b) with
  | some c=> .lit c
  | none=>mkAnd (zhR pre a) (zhR pre b))
 | c=>(match zgk pre c with
  | some b=> .lit b
  | none=>c)
def tell (pre:List (SB×Bool)):SB→Bool→List (SB×Bool)
 | .not a,b=>tell pre a (match b with|true=>false|false=>true)
 | .and a b,true=>tell (tell pre a true) b true
 | c,b=>pre++ [(c,b)]
mutual
def Ob.paths (pre:List (SB×Bool)):Ob→Option (List (List (SB×Bool)×Nat))
 | .ok=>none
 | .bad _ _=>none
 | .all l=>Ob.pathsL pre l
 | .ite c t e=>match zqq c with
  | some i=>(match t,e with
   | .ok,.bad _ _=>some [(pre,i)]
   | _,_=>none)
  | none=>match c.small with
   | false=>none
   | true=>match zhR pre c with
    | .lit true=>Ob.paths pre t
    | .lit false=>Ob.paths pre e
    | c=>match zgk pre c with
     | some true=>Ob.paths pre t
     | some false=>Ob.paths pre e
     | none=>match Ob.paths (tell pre c true) t,Ob.paths (tell pre c false) e with
      | some a,some b=>some (a++b)
      | _,_=>none
def Ob.pathsL (pre:List (SB×Bool)):List Ob→Option (List (List (SB×Bool)×Nat))
 | [] => some []
 | o::l=>match Ob.paths pre o,Ob.pathsL pre l with
  | some a,some b=>some (a++b)
  | _,_=>none
end
theorem zow {n:Nat} (h:Nat.ble 1000000 n=true):1000000+Nat.sub n 1000000=n∧ ¬n<1000000:=by
 have h:=Nat.le_of_ble_eq_true h
 have e:Nat.sub n 1000000=n-1000000:=rfl
 rw [e]
 omega
theorem zqp {c:SB} {i:Nat} (h:zqq c=some i): ∃n,c= .var n∧1000000+i=n∧ ¬n<1000000:=by
 unfold zqq at h
 split at h
 case h_2=>cases h
 rename_i n
 split at h
 case h_2=>cases h
 rename_i hn
 have h:=Option.some.inj h
 obtain ⟨h1,h2⟩:=zow hn
 exact ⟨n,rfl,by rw [←h];exact h1,h2⟩
theorem zkz {ρ:Val} {o o':BinOp} {a b:SE} (h:zuk o=some o'):SB.den ρ (.cmp o a b)= !(SB.den ρ (.cmp o' a b)):=by
 cases o<;>simp only [zuk] at h<;>cases h<;>simp only [SB.den,zew]
 ·cases hh:(a.den ρ==b.den ρ)<;>simp_all [bne]
 ·cases hh:(a.den ρ==b.den ρ)<;>simp_all [bne]
 all_goals
  rw [←decide_not]
  congr 1
  exact propext (by omega)
theorem zod {ρ:Val} {o:BinOp} {a b:SE} (h:zqr o=true):SB.den ρ (.cmp (zo8 o) b a)=SB.den ρ (.cmp o a b):=by
 have he:(b.den ρ==a.den ρ)=(a.den ρ==b.den ρ):=by
  rw [Bool.eq_iff_iff,beq_iff_eq,beq_iff_eq]
  exact ⟨Eq.symm,Eq.symm⟩
 cases o<;>simp only [zqr] at h<;>first|cases h|skip
 all_goals simp only [zo8,SB.den,zew]
 ·exact he
 ·unfold bne;rw [he]
theorem zjT {ρ:Val} {pre:List (SB×Bool)} (ht:Told ρ pre) {o:BinOp} {x y:SE} {b':Bool} (h:zrt pre o x y=some b'):SB.den ρ (.cmp o x y)=b':=by
 unfold zrt at h
 split at h
 ·rename_i hb;cases h;exact zcC ht hb
 ·split at h
  ·rename_i o' ho
   split at h
   ·rename_i hb;cases h;rw [zkz ho,zcC ht hb];rfl
   ·rename_i hb;cases h;rw [zkz ho,zcC ht hb];rfl
   ·cases h
  ·cases h
theorem za5 {ρ:Val} {pre:List (SB×Bool)} (ht:Told ρ pre): ∀ {c:SB} {b:Bool},zgk pre c=some b→c.den ρ=b
 | .lit b,b',h=>by cases h;rfl
 | .var n,b',h=>zcC ht h
 | .beq x y,b',h=>zcC ht h
 | .not a,b',h=>by
  unfold zgk at h
  split at h
  ·rename_i hb;cases h;exact zcC ht hb
  ·split at h
   ·rename_i ha;cases h;show (!(a.den ρ))=false;rw [za5 ht ha];rfl
   ·rename_i ha;cases h;show (!(a.den ρ))=true;rw [za5 ht ha];rfl
   ·cases h
 | .and x y,b',h=>by
  unfold zgk at h
  split at h
  ·rename_i hb;cases h;exact zcC ht hb
  ·split at h
   ·rename_i ha;cases h;show (x.den ρ&&y.den ρ)=false;rw [za5 ht ha];rfl
   ·rename_i ha;show (x.den ρ&&y.den ρ)=b';rw [za5 ht ha,za5 ht h];rfl
   ·split at h
    ·rename_i ha;cases h;show (x.den ρ&&y.den ρ)=false;rw [za5 ht ha];simp
    ·cases h
 | .cmp o x y,b',h=>by
  unfold zgk at h
  split at h
  ·rename_i hb;cases h;exact zjT ht hb
  ·split at h
   ·rename_i ho;rw [←zod ho];exact zjT ht h
   ·cases h
theorem zdG {ρ:Val} {l:List (SB×Bool)} {c:SB} {b:Bool} (h:Told ρ l) (hc:c.den ρ=b):Told ρ (l++ [(c,b)]):=fun x hx=>by
 rcases List.mem_append.1 hx with hx|hx
 ·exact h x hx
 ·rw [List.mem_singleton] at hx;subst hx;exact hc
theorem zeV {ρ:Val} {pre:List (SB×Bool)} (ht:Told ρ pre): ∀c:SB,(zhR pre c).den ρ=c.den ρ
 | .lit b=>rfl
 | .not a=>by
  unfold zhR
  split
  ·rename_i h;exact (za5 ht h).symm
  ·rw [zbi,zeV ht a];rfl
 | .and a b=>by
  unfold zhR
  split
  ·rename_i h;exact (za5 ht h).symm
  ·rw [zbY,zeV ht a,zeV ht b];rfl
 | .var n=>by
  unfold zhR
  split
  ·rename_i h;exact (za5 ht h).symm
  ·rfl
 | .cmp o a b=>by
  unfold zhR
  split
  ·rename_i h;exact (za5 ht h).symm
  ·rfl
 | .beq a b=>by
  unfold zhR
  split
  ·rename_i h;exact (za5 ht h).symm
  ·rfl
theorem zdH {ρ:Val}: ∀(c:SB) (pre:List (SB×Bool)) (b:Bool),Told ρ pre→c.den ρ=b→Told ρ (tell pre c b)
 | .not a,pre,b,ht,h=>by
  unfold tell
  refine zdH a pre _ ht ?_
  have h:(!(a.den ρ))=b:=h
  cases b<;>cases ha:a.den ρ<;>simp_all
 | .and a b,pre,true,ht,h=>by
  unfold tell
  have h:(a.den ρ&&b.den ρ)=true:=h
  rw [Bool.and_eq_true] at h
  exact zdH b _ _ (zdH a pre _ ht h.1) h.2
 | .and a b,pre,false,ht,h=>zdG ht h
 | .lit _,pre,b,ht,h=>by unfold tell;exact zdG ht h
 | .var _,pre,b,ht,h=>by unfold tell;exact zdG ht h
 | .cmp _ _ _,pre,b,ht,h=>by unfold tell;exact zdG ht h
 | .beq _ _,pre,b,ht,h=>by unfold tell;exact zdG ht h
mutual
theorem paths_den {ρ:Val} {m:Nat→Bool} {ps:List (List (SB×Bool)×Nat)} (hm: ∀p∈ps,Told ρ p.1→m (1000000+p.2)=true):
  ∀ {o:Ob} {pre:List (SB×Bool)} {qs:List (List (SB×Bool)×Nat)},o.paths pre=some qs→(∀q∈qs,q∈ps)→Told ρ pre→o.den (ρ.mark m)
 | .ok,pre,qs,h,_,_=>by unfold Ob.paths at h;cases h
 | .bad _ _,pre,qs,h,_,_=>by unfold Ob.paths at h;cases h
 | .all l,pre,qs,h,hq,ht=>by
  unfold Ob.paths at h
  exact pathsL_den (l:=l) hm h hq ht
 | .ite c t e,pre,qs,h,hq,ht=>by
  unfold Ob.paths at h
  split at h
  ·rename_i i hi
   split at h
   ·cases h
    obtain ⟨n,rfl,e1,e2⟩:=zqp hi
    have:=hm (pre,i) (hq _ (by simp)) ht
    rw [e1] at this
    have hd:SB.den (ρ.mark m) (.var n)=true:=by
     show (if n<1000000 then ρ.b n else m n)=true
     rw [if_neg e2];exact this
    exact ⟨fun _=>trivial,fun hf=>by rw [hd] at hf;cases hf⟩
   ·cases h
  ·split at h
   ·cases h
   ·rename_i hs
    have hd:=SB.den_mark ρ m c hs
    have hsi:=zeV ht c
    split at h
    ·rename_i hl
     rw [hl] at hsi
     have hc:c.den ρ=true:=hsi.symm
     exact ⟨fun _=>paths_den hm h hq ht,fun hf=>(by rw [hd,hc] at hf;cases hf)⟩
    ·rename_i hl
     rw [hl] at hsi
     have hc:c.den ρ=false:=hsi.symm
     exact ⟨fun hf=>(by rw [hd,hc] at hf;cases hf),fun _=>paths_den hm h hq ht⟩
    ·split at h
     ·rename_i hta
      have hc:=za5 ht hta
      rw [hsi] at hc
      exact ⟨fun _=>paths_den hm h hq ht,fun hf=>(by rw [hd,hc] at hf;cases hf)⟩
     ·rename_i hta
      have hc:=za5 ht hta
      rw [hsi] at hc
      exact ⟨fun hf=>(by rw [hd,hc] at hf;cases hf),fun _=>paths_den hm h hq ht⟩
     ·split at h
      ·rename_i a b h1 h2
       cases h
       exact ⟨fun hc=>paths_den hm h1 (fun q hq'=>hq q (by simp [hq'])) (zdH _ _ _ ht (by rw [hsi,←hd];exact hc)),fun hc=>paths_den hm h2 (fun q hq'=>hq q (by simp [hq'])) (zdH _ _ _ ht (by rw [hsi,←hd];exact hc))⟩
      ·cases h
theorem pathsL_den {ρ:Val} {m:Nat→Bool} {ps:List (List (SB×Bool)×Nat)} (hm: ∀p∈ps,Told ρ p.1→m (1000000+p.2)=true):
  ∀ {l:List Ob} {pre:List (SB×Bool)} {qs:List (List (SB×Bool)×Nat)},Ob.pathsL pre l=some qs→(∀q∈qs,q∈ps)→Told ρ pre→Ob.denL (ρ.mark m) l
 | [], _,_,_,_,_=>trivial
 | o::l,pre,qs,h,hq,ht=>by
  unfold Ob.pathsL at h
  split at h
  ·rename_i a b h1 h2
   cases h
   exact ⟨paths_den hm h1 (fun q hq'=>hq q (by simp [hq'])) ht,pathsL_den hm h2 (fun q hq'=>hq q (by simp [hq'])) ht⟩
  ·cases h
end
theorem ziq {ρ:Val} {v:AV} {H:Heap}: ∀ {ls:List Leaf} {i:Nat},Ob.den ρ (zb8 ls i v H)→ ∃k l,ls[k]? =some l∧l.fits v H=true∧ρ.b (1000000+(i+k))=true
 | [], i,h=>h.elim
 | l::r,i,h=>by
  unfold zb8 at h
  split at h
  ·rename_i hf
   rw [zbM] at h
   refine ⟨0,l,rfl,hf,?_⟩
   cases hb:ρ.b (1000000+(i+0)) with
   | true=>rfl
   | false=>exact (h.2 hb).elim
  ·obtain ⟨k,l',h1,h2,h3⟩:=ziq h
   refine ⟨k+1,l',h1,h2,?_⟩
   rw [show i+(k+1)=Nat.succ i+k by omega]
   exact h3
theorem zsg {P:Program} (hmo:P.follows .mixedOrders=true) {orc:FuncId→List AV→Heap→Option (List (AV×Heap))} {x:Cx} {ρ:Val} {w:World} {n:Nat} {f:FuncId} {args:List AV} {vals:List Value} {H:Heap} {j:J} {ls:List Leaf} {asm:List (SB×Bool)} {ps:List (List (SB×Bool)×Nat)}
  (hor: ∀m,zlw P (ρ.mark m) x orc) (hi: ∀m,Inv (ρ.mark m) x j H w) (ha: ∀m,RL (ρ.mark m) j args vals) (ht:Told ρ asm)
  (h:(ev P orc n (.call f args H (zb8 ls 0))).paths asm=some ps):
  Calls P f vals.toArray w fun e w'=> ∃p∈ps,Told ρ p.1∧ ∃l,ls[p.2]? =some l∧ ∃m u v j' H',e= .returned u∧R (ρ.mark m) j' v u∧Inv (ρ.mark m) x j' H' w'∧St j H j' H'∧l.fits v H'=true:=by
 classical
 let m:Nat→Bool:=fun k=>decide (∃p∈ps,1000000+p.2=k∧Told ρ p.1)
 have hm: ∀p∈ps,Told ρ p.1→m (1000000+p.2)=true:=fun p hp ht=>by
  show decide _=true
  exact decide_eq_true ⟨p,hp,rfl,ht⟩
 have hd:=paths_den hm h (fun q hq=>hq) ht
 have hg:=zjw (w0:=x) (hor m) (fun n rec hg=>zkn hmo hg) n
 refine Calls.mono ((hg.call f args H (zb8 ls 0) hd).2 j w vals (hi m) (ha m)) fun e w' he=> ?_
 obtain ⟨u,rfl,v,H',j',h1,h2,h3,h4⟩:=he
 obtain ⟨k,l,h5,h6,h7⟩:=ziq h4
 have h7:(if 1000000+(0+k)<1000000 then ρ.b (1000000+(0+k)) else m (1000000+(0+k)))=true:=h7
 rw [if_neg (by omega)] at h7
 obtain ⟨p,hp,hk,hto⟩:=of_decide_eq_true h7
 have:p.2=k:=by omega
 subst this
 exact ⟨p,hp,hto,l,h5,m,u,v,j',H',rfl,h1,h2,h3,h6⟩
theorem zvy {l:Leaf} {v:AV} {H:Heap} (h:l.fits v H=true):v=l.v∧zb5 H l.rows=true∧zeH H l.maps=true∧H.gs=l.gs∧zhb H l.own=true:=by
 unfold Leaf.fits at h
 split at h
 ·rename_i h1 h2 h3 h4
  exact ⟨AV.beq_eq h1,h2,h3,zam h4,h⟩
 ·cases h
theorem zd7 {H:Heap} {n:Nat} {l:List AV} (h:zj8 H n l=true): ∃v e g c s o,H.m.get n=some (.cells v e g c s o)∧alive H.gw g c=true∧v.n=l.length∧ ∀i (hi:i<l.length),v.get i=l[i]:=by
 unfold zj8 at h
 split at h
 case h_2=>cases h
 rename_i v e g c s o hm
 split at h
 case h_2=>cases h
 rename_i ha hn
 have hn:=zam hn
 have hb:=AV.beqL_eq h
 refine ⟨v,e,g,c,s,o,hm,ha,hn,fun i hi=> ?_⟩
 have h1:=Vec.getElem_list v.n v 0 i (by omega)
 rw [hb,List.getElem?_eq_getElem hi] at h1
 rw [Option.some.inj h1,Nat.zero_add]
theorem Inv.rowOut {ρ:Val} {x:Cx} {j:J} {H:Heap} {w:World} (hi:Inv ρ x j H w) {n:Nat} {L:Loc} {l:List AV} (hj:j n=some L) (hr:zj8 H n l=true):
  ∃ vals arr e fr,w.heap[L.blk]? =some (.cells arr e fr)∧RL ρ j l vals∧(∀(i:Nat) (y:Value),vals[i]? =some y→arr[L.off+i]? =some y)∧L.q=none∧(x.own L.blk→fr=(0,0)):=by
 obtain ⟨v,e,gr,c,s,o,hm,ha,hn,hg⟩:=zd7 hr
 have hrow:H.row n=some v:=by unfold Heap.row;rw [hm];simp only [ha]
 obtain ⟨arr,e',fr,h1,h2,h3⟩:=hi.row hj hrow
 have hq:=hi.qrow hj hm
 refine ⟨(List.range l.length).map fun i=>arr.getD (L.off+i) undef,arr,e',fr,h1,RL.of_get (by simp) fun i a hia=> ?_,fun i y hy=> ?_,hq,fun ho=>hi.fz n L hj hq ho _ _ _ h1⟩
 ·have hlt:i<l.length:=by
   rcases Nat.lt_or_ge i l.length with h'|h'
   ·exact h'
   ·rw [List.getElem?_eq_none h'] at hia;cases hia
  obtain ⟨y,h4,h5⟩:=h3 i (by omega)
  refine ⟨y,by simp [hlt,h4],?_⟩
  rw [hg i hlt] at h5
  rw [List.getElem?_eq_getElem hlt] at hia
  cases hia
  exact h5
 ·have hlt:i<l.length:=by
   rcases Nat.lt_or_ge i l.length with h'|h'
   ·exact h'
   ·rw [List.getElem?_eq_none (by simpa using h')] at hy;cases hy
  obtain ⟨z,h4,_⟩:=h3 i (by omega)
  simp [hlt,h4] at hy
  rw [h4,hy]
theorem Inv.rowsApart {ρ:Val} {x:Cx} {j:J} {H:Heap} {w:World} (hi:Inv ρ x j H w) {n m:Nat} {L M:Loc} {l k:List AV} (hne:n≠m) (hgr:zkX H n≠zkX H m) (hn:j n=some L) (hm:j m=some M) (hl:zj8 H n l=true) (hk:zj8 H m k=true) (hb:L.blk=M.blk): ¬x.own L.blk:=by
 obtain ⟨v,e,g0,c,s,o,h1,_⟩:=zd7 hl
 obtain ⟨v',e',g0',c',s',o',h2,_⟩:=zd7 hk
 unfold zkX at hgr
 rw [h1,h2] at hgr
 obtain ⟨_,_,_,_,_,_,_,_,_,_,_,_,h3,h4,h5,h6⟩:=hi.sep n m L M hne hn hm (hi.qrow hn h1) (hi.qrow hm h2) hb
 rw [h1] at h3;cases h3
 rw [h2] at h4;cases h4
 cases o with
 | true=>exact absurd (h6 rfl).1 hgr
 | false=>
  obtain ⟨ob,g1,g2⟩:=hi.obj n L hn
  rw [h1] at g1;cases g1
  have:=g2.2.1
  rwa [if_neg (by decide)] at this
theorem Inv.rowMapApart {ρ:Val} {x:Cx} {j:J} {H:Heap} {w:World} (hi:Inv ρ x j H w) {n m:Nat} {L M:Loc} {l:List AV} {k:List (AV×Option AV)} (hn:j n=some L) (hm:j m=some M) (hl:zj8 H n l=true) (hk:zoy H m k=true):L.blk≠M.blk:=fun hb=>by
 obtain ⟨v,e,g0,c,s,o,h1,_⟩:=zd7 hl
 unfold zoy at hk
 split at hk
 case h_2=>cases hk
 rename_i kn log h2
 have hne:n≠m:=fun e=>by subst e;rw [h1] at h2;cases h2
 obtain ⟨_,_,_,_,_,_,_,_,_,_,_,_,h3,h4,h5,h6⟩:=hi.sep n m L M hne hn hm (hi.qrow hn h1) (hi.q hm h2 (by intro e;cases e)) hb
 rw [h2] at h4;cases h4
theorem zp4 {a b:Option AV} (h:zp5 a b=true):a=b:=by
 cases a<;>cases b<;>simp only [zp5] at h<;>first|rfl|rw [AV.beq_eq h]|cases h
theorem zkH: ∀ {a b:List (AV×Option AV)},znk a b=true→a=b
 | [], [], _=>rfl
 | [], _::_,h=>by cases h
 | _::_,[],h=>by cases h
 | x::a,y::b,h=>by
  unfold znk at h
  split at h
  ·rename_i h1 h2
   rw [zkH h,Prod.ext (AV.beq_eq h1) (zp4 h2)]
  ·cases h
theorem Inv.mapOut {ρ:Val} {x:Cx} {j:J} {H:Heap} {w:World} (hi:Inv ρ x j H w) {n:Nat} {L:Loc} {l:List (AV×Option AV)} (hj:j n=some L) (hr:zoy H n l=true):
  ∃ arr clock arr0 clock0 m1,w.heap[L.blk]? =some (.map arr clock)∧x.w.heap[L.blk]? =some (.map arr0 clock0)∧(zex arr∧Born arr clock)∧RX ρ j l m1∧ ∀k,zbm arr k=mlog (zbm arr0) m1 k:=by
 unfold zoy at hr
 split at hr
 case h_2=>cases hr
 rename_i kn log hm
 rw [←zkH hr]
 obtain ⟨ob,h1,h2⟩:=hi.obj n L hj
 rw [hm] at h1;cases h1
 obtain ⟨_,_,_,arr,clock,arr0,clock0,m0,m1,h3,h4,h5,_,h7,_,h9⟩:=h2
 exact ⟨arr,clock,arr0,clock0,m1,h3,h4,⟨h5.1,h5.2.1⟩,h7,h9⟩
inductive Sh where
 | own (row:List AV)
 | ro (row:List AV)
 | mapx (kn:List (AV×Option AV))
def Sh.obj (s:Sh) (n:Nat):Obj:=
 match s with
 | .own row=> .cells (Vec.ofList row) 0 n none false true
 | .ro row=> .cells (Vec.ofList row) 0 n none false false
 | .mapx kn=> .mapx kn []
def Sh.isRo:Sh→Bool
 | .ro _=>true
 | _=>false
def ziw:List Sh→Nat→T Obj→T Obj
 | [], _,t=>t
 | s::l,n,t=>ziw l (Nat.succ n) (t.set n (s.obj n))
def zba (k:Nat) (l:List Sh):Heap:=⟨ziw l 1 (T.set .leaf 0 (.gs k)),Nat.succ l.length,.leaf⟩
def jOf (l:List (Nat×Nat)):J:=fun n=>match n with|0=>none|k+1=>(l[k]?).map fun b=>⟨b.1,b.2,0,none⟩
theorem ziv: ∀(l:List Sh) (n:Nat) (t:T Obj) (i:Nat),(ziw l n t).get i=if n≤i∧i<n+l.length then (l[i-n]?).map (·.obj i) else t.get i
 | [], n,t,i=>by
  unfold ziw
  rw [if_neg (by simp)]
 | s::l,n,t,i=>by
  unfold ziw
  rw [ziv l,T.get_set]
  by_cases h1:n+1≤i∧i<n+1+l.length
  ·rw [if_pos h1,if_pos (by simp only [List.length_cons];omega),show i-n=(i-(n+1))+1 by omega,List.getElem?_cons_succ]
  ·rw [if_neg h1]
   by_cases h2:i=n
   ·subst h2
    rw [if_pos rfl,if_pos (by simp only [List.length_cons];omega),Nat.sub_self]
    rfl
   ·rw [if_neg h2,if_neg (by simp only [List.length_cons];omega)]
def ShOk (ρ:Val) (j:J) (x:Cx) (b:Nat×Nat):Sh→Prop
 | .own row=>x.K b.1∧b.2=0∧ ∃(vals:List Value) (arr:Array Value) (e:TypeId),x.w.heap[b.1]? =some (.cells arr e (0,0))∧RL ρ j row vals∧ ∀(i:Nat) (y:Value),vals[i]? =some y→arr[i]? =some y
 | .ro row=> ¬x.K b.1∧ ∃(vals:List Value) (arr:Array Value) (e:TypeId) (fr:Nat×Nat),x.w.heap[b.1]? =some (.cells arr e fr)∧RL ρ j row vals∧b.2+row.length≤arr.size∧ ∀(i:Nat) (y:Value),vals[i]? =some y→arr[b.2+i]? =some y
 | .mapx kn=>x.K b.1∧b.2=0∧ ∃arr clock m0,x.w.heap[b.1]? =some (.map arr clock)∧(zex arr∧Born arr clock)∧RX ρ j kn m0∧ ∀k o,(k,o)∈m0→zbm arr k=o
def ShsOk (ρ:Val) (j:J) (x:Cx):List (Nat×Nat)→List Sh→Prop
 | [], [] => True
 | b::bl,s::l=>ShOk ρ j x b s∧ShsOk ρ j x bl l
 | _,_=>False
def apart:List (Nat×Nat)→List Sh→Prop
 | b::bl,s::l=>(s.isRo=false→ ∀(i:Nat) (b':Nat×Nat) (s':Sh),bl[i]? =some b'→l[i]? =some s'→s'.isRo=false→b.1≠b'.1)∧apart bl l
 | _,_=>True
theorem ShsOk.get {ρ:Val} {j:J} {x:Cx}: ∀ {bl:List (Nat×Nat)} {l:List Sh},ShsOk ρ j x bl l→bl.length=l.length∧ ∀(i:Nat) (b:Nat×Nat) (s:Sh),bl[i]? =some b→l[i]? =some s→ShOk ρ j x b s
 | [], [], _=>⟨rfl,fun i b s h=>by cases h⟩
 | [], _::_,h=>h.elim
 | _::_,[],h=>h.elim
 | b::bl,s::l,h=>by
  obtain ⟨h1,h2⟩:=ShsOk.get h.2
  refine ⟨by simp [h1],fun i b' s' e1 e2=> ?_⟩
  cases i with
  | zero=>cases e1;cases e2;exact h.1
  | succ i=>exact h2 i b' s' (by simpa using e1) (by simpa using e2)
theorem apart.get: ∀ {bl:List (Nat×Nat)} {l:List Sh},apart bl l→ ∀(i i':Nat) (b b':Nat×Nat) (s s':Sh),i<i'→bl[i]? =some b→l[i]? =some s→bl[i']? =some b'→l[i']? =some s'→s.isRo=false→s'.isRo=false→b.1≠b'.1
 | [], l,_,i,i',b,b',s,s',_,h,_,_,_,_,_=>by cases h
 | b0::bl,[],_,i,i',b,b',s,s',_,_,h,_,_,_,_=>by cases h
 | b0::bl,s0::l,h,0,i'+1,b,b',s,s',_,h1,h2,h3,h4,h5,h6=>by
  cases h1;cases h2
  exact h.1 h5 i' b' s' (by simpa using h3) (by simpa using h4) h6
 | b0::bl,s0::l,h,i+1,i'+1,b,b',s,s',hlt,h1,h2,h3,h4,h5,h6=>
  apart.get h.2 i i' b b' s s' (by omega) (by simpa using h1) (by simpa using h2) (by simpa using h3) (by simpa using h4) h5 h6
theorem zcx {bl:List (Nat×Nat)} {n:Nat} {L:Loc} (h:jOf bl n=some L): ∃k b,n=k+1∧bl[k]? =some b∧L=⟨b.1,b.2,0,none⟩:=by
 cases n with
 | zero=>cases h
 | succ k=>
  have h:(bl[k]?).map (fun b=>(⟨b.1,b.2,0,none⟩:Loc))=some L:=h
  rw [Option.map_eq_some_iff] at h
  obtain ⟨b,h1,h2⟩:=h
  exact ⟨k,b,rfl,h1,h2.symm⟩
theorem zkU {ρ:Val} {x:Cx} {k:Nat} {bl:List (Nat×Nat)} {l:List Sh} (hK: ∀b,x.K b→b<x.w.heap.size) (ho:ShsOk ρ (jOf bl) x bl l) (ha:apart bl l) (hG:x.G k (jOf bl) x.w):Inv ρ x (jOf bl) (zba k l) x.w:=by
 obtain ⟨hlen,hok⟩:=ho.get
 have hget: ∀i,(zba k l).m.get i=if 1≤i∧i<1+l.length then (l[i-1]?).map (·.obj i) else if i=0 then some (.gs k) else none:=fun i=>by
  show (ziw l 1 (T.set .leaf 0 (.gs k))).get i=_
  rw [ziv,T.get_set]
  rfl
 have hat: ∀(q:Nat) (b:Nat×Nat),bl[q]? =some b→ ∃s,l[q]? =some s∧(zba k l).m.get (q+1)=some (s.obj (q+1)):=fun q b hb=>by
  have hq:q<l.length:=by
   rw [←hlen]
   exact (List.getElem?_eq_some_iff.1 hb).1
  refine ⟨l[q],List.getElem?_eq_getElem hq,?_⟩
  rw [hget,if_pos (by omega),Nat.add_sub_cancel,List.getElem?_eq_getElem hq]
  rfl
 have hblk: ∀(q:Nat) (b:Nat×Nat) (s:Sh),bl[q]? =some b→l[q]? =some s→b.1<x.w.heap.size:=fun q b s hb hs=>by
  have:=hok q b s hb hs
  cases s with
  | own row=>obtain ⟨_,_,_,_,_,h,_⟩:=this;exact (Array.getElem?_eq_some_iff.1 h).1
  | ro row=>obtain ⟨_,_,_,_,_,h,_⟩:=this;exact (Array.getElem?_eq_some_iff.1 h).1
  | mapx kn=>obtain ⟨_,_,_,_,_,h,_⟩:=this;exact (Array.getElem?_eq_some_iff.1 h).1
 have hobj: ∀(q:Nat) (b:Nat×Nat) (s:Sh),bl[q]? =some b→l[q]? =some s→ObjR ρ (jOf bl) x x.w .leaf ⟨b.1,b.2,0,none⟩ (s.obj (q+1)):=fun q b s hb hs=>by
  have:=hok q b s hb hs
  cases s with
  | own row=>
   obtain ⟨h1,h2,vals,arr,e,h3,h4,h5⟩:=this
   refine ⟨rfl,by rw [if_pos rfl];exact .inr h1,fun _=>⟨arr,e,(0,0),h3,?_,⟨?_,fun hh=>by cases hh⟩,fun i hi=> ?_⟩⟩
   ·show b.2+(Vec.ofList row).n≤arr.size
    rw [Vec.n_ofList,h2,Nat.zero_add]
    have hl:=h4.length
    rcases Nat.eq_zero_or_pos row.length with h0|h0
    ·omega
    ·have h6:=h5 (row.length-1) _ (List.getElem?_eq_getElem (by omega))
     have:=(Array.getElem?_eq_some_iff.1 h6).1
     omega
   ·show b.2+0*0≤arr.size
    omega
   ·rw [Vec.n_ofList] at hi
    rw [Vec.get_ofList row i hi]
    obtain ⟨y,h6,h7⟩:=h4.get i _ (List.getElem?_eq_getElem hi)
    exact ⟨y,by show arr[b.2+i]? =_;rw [h2,Nat.zero_add];exact h5 i y h6,h7⟩
  | ro row=>
   obtain ⟨h1,vals,arr,e,fr,h3,h4,h6,h5⟩:=this
   refine ⟨rfl,?_,fun _=>⟨arr,e,fr,h3,?_,⟨?_,fun hh=>by cases hh⟩,fun i hi=> ?_⟩⟩
   ·rw [if_neg (by decide)]
    have:=(Array.getElem?_eq_some_iff.1 h3).1
    rintro (h|h)
    ·have:x.w.heap.size≤b.1:=h
     omega
    ·exact h1 h
   ·show b.2+(Vec.ofList row).n≤arr.size
    rw [Vec.n_ofList];exact h6
   ·show b.2+0*0≤arr.size
    omega
   ·rw [Vec.n_ofList] at hi
    rw [Vec.get_ofList row i hi]
    obtain ⟨y,h7,h8⟩:=h4.get i _ (List.getElem?_eq_getElem hi)
    exact ⟨y,h5 i y h7,h8⟩
  | mapx kn=>
   obtain ⟨h1,h2,arr,clock,m0,h3,h4,h5,h6⟩:=this
   obtain ⟨e1,e2⟩:=zfz h5
   exact ⟨rfl,.inr h1,h2,arr,clock,arr,clock,m0,[],h3,h3,⟨h4.1,h4.2,e2 _⟩,by rw [e1];exact h5,rfl,h6,fun _=>rfl⟩
 refine ⟨Fr.refl x,fun n L h=> ?_,fun n L h _=> ?_,fun n o h=> ?_,fun n L h=> ?_,fun n m Ln Lm hne h1 h2 _ _ hb=> ?_,fun n v e g t sh ow h=> ?_,fun g y h=>(by cases h),fun n L v e g c sh h1 h2=> ?_,fun n L h _ how c e fr hc=> ?_,fun n L v e c sh h1 h2=> ?_,rfl,Nat.succ_pos _,fun o h=> ?_,?_⟩
 ·obtain ⟨q,b,rfl,hb,rfl⟩:=zcx h
  show q+1<l.length+1
  have:=(List.getElem?_eq_some_iff.1 hb).1
  omega
 ·obtain ⟨q,b,rfl,hb,rfl⟩:=zcx h
  obtain ⟨s,hs,_⟩:=hat q b hb
  exact hblk q b s hb hs
 ·show n<l.length+1
  rw [hget] at h
  split at h
  ·omega
  ·split at h
   ·omega
   ·cases h
 ·obtain ⟨q,b,rfl,hb,rfl⟩:=zcx h
  obtain ⟨s,hs,h1⟩:=hat q b hb
  exact ⟨_,h1,hobj q b s hb hs⟩
 ·obtain ⟨q,b,rfl,hq,rfl⟩:=zcx h1
  obtain ⟨q',b',rfl,hq',rfl⟩:=zcx h2
  obtain ⟨s,hs,g1⟩:=hat q b hq
  obtain ⟨s',hs',g2⟩:=hat q' b' hq'
  have hb:b.1=b'.1:=hb
  have k1:=hok q b s hq hs
  have k2:=hok q' b' s' hq' hs'
  have hro: ∀ {s:Sh} {b:Nat×Nat},ShOk ρ (jOf bl) x b s→s.isRo=false→x.K b.1:=fun {s b} h h'=>by
   cases s with
   | own=>exact h.1
   | ro=>cases h'
   | mapx=>exact h.1
  cases hr:s.isRo with
  | false=>
   cases hr':s'.isRo with
   | false=>
    rcases Nat.lt_or_gt_of_ne (show q≠q' from fun e=>hne (by rw [e])) with hlt|hlt
    ·exact absurd hb (ha.get q q' b b' s s' hlt hq hs hq' hs' hr hr')
    ·exact absurd hb.symm (ha.get q' q b' b s' s hlt hq' hs' hq hs hr' hr)
   | true=>
    have:=hro k1 hr
    rw [hb] at this
    cases s' with
    | own=>cases hr'
    | ro=>exact absurd this k2.1
    | mapx=>cases hr'
  | true=>
   cases s with
   | own=>cases hr
   | mapx=>cases hr
   | ro row=>
    cases s' with
    | ro row'=>exact ⟨_,_,_,_,_,_,_,_,_,_,_,_,g1,g2,rfl,fun h=>by cases h⟩
    | own=>exact absurd (hb▸k2.1) k1.1
    | mapx=>exact absurd (hb▸k2.1) k1.1
 ·rw [hget] at h
  split at h
  ·rw [Option.map_eq_some_iff] at h
   obtain ⟨s,_,h⟩:=h
   cases s<;>cases h
  ·split at h<;>cases h
 ·obtain ⟨q,b,rfl,hb,rfl⟩:=zcx h1
  obtain ⟨s,hs,g1⟩:=hat q b hb
  rw [g1] at h2
  cases s<;>cases h2
  exact ⟨_,h1⟩
 ·obtain ⟨q,b,rfl,hb,rfl⟩:=zcx h
  obtain ⟨s,hs,_⟩:=hat q b hb
  have hlt:=hblk q b s hb hs
  have hKb:x.K b.1:=by
   rcases how with h|h
   ·have:x.w.heap.size≤b.1:=h
    omega
   ·exact h
  have k1:=hok q b s hb hs
  cases s with
  | own row=>obtain ⟨_,_,_,_,_,h3,_⟩:=k1;rw [h3] at hc;cases hc;rfl
  | ro row=>exact absurd hKb k1.1
  | mapx kn=>obtain ⟨_,_,_,_,_,h3,_⟩:=k1;rw [h3] at hc;cases hc
 ·obtain ⟨q,b,rfl,hb,rfl⟩:=zcx h1
  obtain ⟨s,hs,g1⟩:=hat q b hb
  rw [g1] at h2
  cases s<;>cases h2
  exact (hok q b _ hb hs).2.1
 ·rw [hget,if_neg (by omega),if_pos rfl] at h
  cases h
  exact ⟨k,rfl⟩
 ·have:(zba k l).gs=k:=by
   unfold Heap.gs
   rw [hget,if_neg (by omega),if_pos rfl]
  rw [this]
  exact hG
structure Mv (S:Nat→Prop) (w w':World):Prop where
 os:w'.os=w.os
 tape:w'.tape=w.tape
 output:w'.output=w.output
 size:w.heap.size≤w'.heap.size
 block: ∀k,k<w.heap.size→ ¬S k→w'.heap[k]? =w.heap[k]?
theorem Mv.refl (S:Nat→Prop) (w:World):Mv S w w:=⟨rfl,rfl,rfl,Nat.le_refl _,fun _ _ _=>rfl⟩
theorem Mv.trans {S:Nat→Prop} {a b c:World} (h:Mv S a b) (k:Mv S b c):Mv S a c:=
 ⟨k.os.trans h.os,k.tape.trans h.tape,k.output.trans h.output,Nat.le_trans h.size k.size,fun j hj h1=>(k.block j (Nat.lt_of_lt_of_le hj h.size) h1).trans (h.block j hj h1)⟩
theorem Mv.mono {S S':Nat→Prop} {a b:World} (h:Mv S a b) (hs: ∀k,S k→S' k):Mv S' a b:=⟨h.os,h.tape,h.output,h.size,fun j hj h1=>h.block j hj (fun h2=>h1 (hs j h2))⟩
theorem Mv.of_below {S:Nat→Prop} {w w':World} (h:Below w.heap.size w w'):Mv S w w':=⟨h.os,h.tape,h.output,h.size,fun k hk _=>h.block k hk⟩
structure Ent where
 f:FuncId
 args:List AV
 gs:Nat
 base:Nat
 nopq:Nat
 res:AV
 gs':Nat
def zgo:Nat→Heap→Heap
 | 0,H=>H
 | n+1,H=>zgo n (H.alloc .opq)
def zvb (k:Nat) (H:Heap):Heap:=
 match H with
 | ⟨m,nx,gw⟩=>match m.set 0 (.gs k) with
  | .leaf=>⟨.leaf,nx,gw⟩
  | .node a b c=>⟨.node a b c,nx,gw⟩
def Ent.heap (e:Ent) (H:Heap):Heap:=
 match Nat.beq e.gs e.gs' with
 | true=>zgo e.nopq H
 | false=>zvb e.gs' (zgo e.nopq H)
def Ent.fits (e:Ent) (f:FuncId) (args:List AV) (H:Heap):Bool:=
 match Nat.beq f e.f with
 | false=>false
 | true=>match AV.beqL args e.args,Nat.beq H.gs e.gs with
  | true,true=>(match e.nopq with
   | 0=>true
   | _+1=>Nat.beq H.nx e.base)
  | _,_=>false
def zbf:List Ent→FuncId→List AV→Heap→Option (List (AV×Heap))
 | [], _,_,_=>none
 | e::l,f,args,H=>match e.fits f args H with
  | true=>some [(e.res,e.heap H)]
  | false=>zbf l f args H
def jq (j:J) (n:Nat) (qs:List Value):J:=fun k=>if n≤k∧k<n+qs.length then some ⟨0,0,0,some (qs.getD (k-n) undef)⟩ else j k
def zuZ (P:Program) (ρ:Val) (x:Cx) (e:Ent):Prop:=
 Enters P e.f∧ ∀(j:J) (H:Heap) (w:World) (vals:List Value),Inv ρ x j H w→H.gs=e.gs→(e.nopq≠0→H.nx=e.base)→RL ρ j e.args vals→
  Calls P e.f vals.toArray w fun en w'=> ∃u qs,en= .returned u∧qs.length=e.nopq∧R ρ (jq j H.nx qs) e.res u∧x.G e.gs' (jq j H.nx qs) w'∧Mv (fun b=> ¬Mine j b∧x.own b) w w'
theorem znb: ∀(n:Nat) (H:Heap),(zgo n H).nx=H.nx+n∧(zgo n H).gw=H.gw∧ ∀k,(zgo n H).m.get k=if H.nx≤k∧k<H.nx+n then some .opq else H.m.get k
 | 0,H=>⟨rfl,rfl,fun k=>by rw [if_neg (by omega)];rfl⟩
 | n+1,H=>by
  obtain ⟨h1,h2,h3⟩:=znb n (H.alloc .opq)
  rw [Heap.alloc_eq] at h1 h2 h3
  have h1:(zgo n ⟨H.m.set H.nx .opq,H.nx+1,H.gw⟩).nx=H.nx+1+n:=h1
  refine ⟨?_,?_,fun k=> ?_⟩
  ·show (zgo n (H.alloc .opq)).nx=_
   rw [Heap.alloc_eq,h1];omega
  ·show (zgo n (H.alloc .opq)).gw=_
   rw [Heap.alloc_eq];exact h2
  ·show (zgo n (H.alloc .opq)).m.get k=_
   rw [Heap.alloc_eq,h3]
   show (if H.nx+1≤k∧k<H.nx+1+n then some Obj.opq else (H.m.set H.nx .opq).get k)=_
   rw [T.get_set]
   by_cases h4:H.nx+1≤k∧k<H.nx+1+n
   ·rw [if_pos h4,if_pos (by omega)]
   ·rw [if_neg h4]
    by_cases h5:k=H.nx
    ·rw [if_pos h5,if_pos (by omega)]
    ·rw [if_neg h5,if_neg (by omega)]
theorem zrB (k:Nat) (H:Heap):zvb k H=⟨H.m.set 0 (.gs k),H.nx,H.gw⟩:=by
 obtain ⟨m,nx,gw⟩:=H
 show (match m.set 0 (.gs k) with| .leaf=>(⟨.leaf,nx,gw⟩:Heap)| .node a b c=>⟨.node a b c,nx,gw⟩)=_
 cases m.set 0 (.gs k)<;>rfl
theorem Ent.heap_eq (e:Ent) (H:Heap) (hn:0<H.nx) (hg:H.gs=e.gs):(e.heap H).nx=H.nx+e.nopq∧(e.heap H).gw=H.gw∧(e.heap H).gs=e.gs'∧(∀k,0<k→(e.heap H).m.get k=if H.nx≤k∧k<H.nx+e.nopq then some .opq else H.m.get k)∧
  ((e.heap H).m.get 0=H.m.get 0∨(e.heap H).m.get 0=some (.gs e.gs')):=by
 obtain ⟨h1,h2,h3⟩:=znb e.nopq H
 unfold Ent.heap
 split
 ·rename_i hb
  have hb:=zam hb
  refine ⟨h1,h2,?_,fun k _=>h3 k,.inl (by rw [h3,if_neg (by omega)])⟩
  unfold Heap.gs
  rw [h3,if_neg (by omega)]
  rw [←hb,←hg]
  rfl
 ·rw [zrB]
  refine ⟨h1,h2,?_,fun k hk=> ?_,.inr (by show ((zgo e.nopq H).m.set 0 _).get 0=_;exact T.get_set_same _ _ _)⟩
  ·unfold Heap.gs
   rw [T.get_set_same]
  ·show ((zgo e.nopq H).m.set 0 _).get k=_
   rw [T.get_set_ne _ _ (by omega),h3]
section
variable {P:Program} {ρ:Val} {x:Cx} {j:J} {H:Heap} {w w':World}
theorem zu6 (h:Inv ρ x j H w) (qs:List Value):Sub j (jq j H.nx qs):=fun n L e=>by
 unfold jq
 rw [if_neg (by have:=h.dom n L e;omega)]
 exact e
theorem zdo (qs:List Value) {n:Nat} {L:Loc} (h:jq j H.nx qs n=some L):(j n=some L)∨(H.nx≤n∧n<H.nx+qs.length∧L.q≠none):=by
 unfold jq at h
 split at h
 ·rename_i hc
  cases h
  exact .inr ⟨hc.1,hc.2,by simp⟩
 ·exact .inl h
theorem Inv.ent (h:Inv ρ x j H w) {e:Ent} {qs:List Value} (hg:H.gs=e.gs) (hl:qs.length=e.nopq) (hG:x.G e.gs' (jq j H.nx qs) w') (hm:Mv (fun b=> ¬Mine j b∧x.own b) w w'):
  Inv ρ x (jq j H.nx qs) (e.heap H) w'∧St j H (jq j H.nx qs) (e.heap H):=by
 obtain ⟨e1,e2,e3,e4,e5⟩:=e.heap_eq H h.nx0 hg
 have hsub:=zu6 h qs
 have hold: ∀n L,j n=some L→(e.heap H).m.get n=H.m.get n:=fun n L hn=>by
  rw [e4 n (by have:=h.ne0 hn;omega),if_neg (by have:=h.dom n L hn;omega)]
 have hkeep: ∀n L,j n=some L→L.q=none→w'.heap[L.blk]? =w.heap[L.blk]? :=fun n L hn hq=>hm.block _ (h.blk n L hn hq) (fun hh=>hh.1 ⟨n,L,hn,hq,rfl⟩)
 refine ⟨⟨h.fr.then hm.os hm.output hm.tape hm.size (fun i hi ho=>hm.block i hi (fun hh=>ho hh.2)),fun n L hn=> ?_,fun n L hn hq=> ?_,fun n o hn=> ?_,fun n L hn=> ?_,fun n m Ln Lm hne h1 h2 q1 q2 hb=> ?_,fun n v es g t sh ow hn=> ?_,fun g y hy=> ?_,fun n L v es g c sh h1 h2=> ?_,fun n L hn hq ho c t fr hc=> ?_,fun n L v es c sh h1 h2=> ?_,?_,?_,fun o ho=> ?_,?_⟩,
  hsub,fun n L h1 h2=> ?_,fun n hp h1 h2=>⟨?_,by rw [e2]⟩,by rw [e1];omega⟩
 ·rw [e1]
  rcases zdo qs hn with hn|⟨_,h2,_⟩
  ·have:=h.dom n L hn;omega
  ·omega
 ·rcases zdo qs hn with hn|⟨_,_,h3⟩
  ·exact Nat.lt_of_lt_of_le (h.blk n L hn hq) hm.size
  ·exact absurd hq h3
 ·rw [e1]
  rcases Nat.eq_zero_or_pos n with h0|h0
  ·have:=h.nx0;omega
  ·rw [e4 n h0] at hn
   split at hn
   ·omega
   ·have:=h.used n o hn;omega
 ·rcases zdo qs hn with hn|⟨h1,h2,h3⟩
  ·obtain ⟨o,h4,h5⟩:=h.obj n L hn
   refine ⟨o,by rw [hold n L hn];exact h4,?_⟩
   rw [e2]
   exact h5.grow hsub (fun hq=>hkeep n L hn hq)
  ·refine ⟨.opq,?_,h3⟩
   rw [e4 n (by have:=h.nx0;omega),if_pos ⟨h1,by omega⟩]
 ·rcases zdo qs h1 with h1|⟨_,_,h3⟩
  ·rcases zdo qs h2 with h2|⟨_,_,h3⟩
   ·obtain ⟨vn,en,gn,cn,sn,on,vm,em,gm,cm,sm,om,g1,g2,g3⟩:=h.sep n m Ln Lm hne h1 h2 q1 q2 hb
    exact ⟨vn,en,gn,cn,sn,on,vm,em,gm,cm,sm,om,by rw [hold n Ln h1];exact g1,by rw [hold m Lm h2];exact g2,by rw [e2];exact g3⟩
   ·exact absurd q2 h3
  ·exact absurd q1 h3
 ·rw [e1]
  rcases Nat.eq_zero_or_pos n with h0|h0
  ·subst h0
   rcases e5 with e5|e5
   ·rw [e5] at hn;obtain ⟨kk,hk⟩:=h.z0 _ hn;cases hk
   ·rw [e5] at hn;cases hn
  ·rw [e4 n h0] at hn
   split at hn
   ·cases hn
   ·have:=h.tim n v es g t sh ow hn;omega
 ·rw [e2] at hy;rw [e1];have:=h.gwt g y hy;omega
 ·rcases zdo qs h1 with h1|⟨h3,h4,_⟩
  ·rw [hold n L h1] at h2
   obtain ⟨Lg,hLg⟩:=h.grp n L v es g c sh h1 h2
   exact ⟨Lg,hsub _ _ hLg⟩
  ·rw [e4 n (by have:=h.nx0;omega),if_pos ⟨h3,by omega⟩] at h2
   cases h2
 ·rcases zdo qs hn with hn|⟨_,_,h3⟩
  ·rw [hkeep n L hn hq] at hc
   exact h.fz n L hn hq ho c t fr hc
  ·exact absurd hq h3
 ·rcases zdo qs h1 with h1|⟨h3,h4,_⟩
  ·rw [hold n L h1] at h2
   exact h.off0 n L v es c sh h1 h2
  ·rw [e4 n (by have:=h.nx0;omega),if_pos ⟨h3,by omega⟩] at h2
   cases h2
 ·unfold jq
  rw [if_neg (by have:=h.nx0;omega)]
  exact h.n0
 ·rw [e1];have:=h.nx0;omega
 ·rcases e5 with e5|e5
  ·rw [e5] at ho;exact h.z0 o ho
  ·rw [e5] at ho;cases ho;exact ⟨_,rfl⟩
 ·rw [e3];exact hG
 ·rcases zdo qs h1 with h1|⟨h3,_,_⟩
  ·rw [h1] at h2;cases h2
  ·exact h3
 ·rw [e4 n hp,if_neg (by omega)]
theorem zk5 {l:List Ent} (h: ∀e∈l,zuZ P ρ x e):zlw P ρ x (zbf l):=by
 intro f args H r hr
 induction l with
 | nil=>cases hr
 | cons e l ih=>
  unfold zbf at hr
  split at hr
  ·rename_i hf
   cases hr
   obtain ⟨h1,h2⟩:=h e (by simp)
   unfold Ent.fits at hf
   split at hf
   ·cases hf
   rename_i hff
   have hff:=zam hff
   subst hff
   split at hf
   case h_2=>cases hf
   rename_i ha hgs
   have ha:=AV.beqL_eq ha
   have hgs:=zam hgs
   subst ha
   refine ⟨h1,fun k hk j w vals hi hv=> ?_⟩
   have hk:Ob.den ρ (k e.res (e.heap H)):=hk
   refine Calls.mono (h2 j H w vals hi hgs (fun hn=> ?_) hv) fun en w' he=> ?_
   ·split at hf
    ·rename_i h0;exact absurd h0 hn
    ·exact zam hf
   ·obtain ⟨u,qs,rfl,g1,g2,g3,g4⟩:=he
    obtain ⟨g5,g6⟩:=hi.ent hgs g1 g3 g4
    exact ⟨u,rfl,e.res,e.heap H,_,g2,g5,g6,hk⟩
  ·exact ih (fun e' he'=>h e' (by simp [he'])) hr
end
structure Gho where
 fact:Nat→(Nat→Option Value)→(Nat→Prop)→World→Prop
 loc: ∀k q q' F w w',fact k q F w→(∀n v,q n=some v→q' n=some v)→(∀b,F b→w'.heap[b]? =w.heap[b]?)→w.heap.size≤w'.heap.size→fact k q' F w'
def opqs (j:J) (n:Nat):Option Value:=(j n).bind (·.q)
def Gho.G (g:Gho) (k:Nat) (j:J) (w:World):Prop:= ∃F:Nat→Prop,(∀b,F b→b<w.heap.size∧ ¬Mine j b)∧g.fact k (opqs j) F w
theorem zse {j j':J} (h:Sub j j') {n:Nat} {v:Value} (hv:opqs j n=some v):opqs j' n=some v:=by
 unfold opqs at hv ⊢
 rw [Option.bind_eq_some_iff] at hv
 obtain ⟨L,h1,h2⟩:=hv
 rw [h n L h1]
 exact h2
def cxOf (w:World) (K:Nat→Prop) (g:Gho):Cx:=⟨w,K,g.G,fun k j j' w w' hG hs hle hb hn=>by
 obtain ⟨F,h1,h2⟩:=hG
 refine ⟨F,fun b hF=>⟨Nat.lt_of_lt_of_le (h1 b hF).1 hle,fun hm=> ?_⟩,g.loc _ _ _ _ _ _ h2 (fun n v hv=>zse hs hv) (fun b hF=>hb b (h1 b hF).1 (h1 b hF).2) hle⟩
 rcases hn b hm with hm|hm
 ·exact (h1 b hF).2 hm
 ·have:=(h1 b hF).1;omega⟩
def Gho.none:Gho:=⟨fun _ _ _ _=>True,fun _ _ _ _ _ _ _ _ _ _=>trivial⟩
theorem zl1 {j:J} {n:Nat} {qs:List Value} {b:Nat} (hj: ∀k,n≤k→j k=none) (h:Mine (jq j n qs) b):Mine j b:=by
 obtain ⟨k,L,h1,h2,h3⟩:=h
 unfold jq at h1
 split at h1
 ·cases h1;cases h2
 ·exact ⟨k,L,h1,h2,h3⟩
theorem zsG {P:Program} {ρ:Val} {w0:World} {K:Nat→Prop} {g:Gho} {e:Ent} (he:Enters P e.f)
    (h: ∀(j:J) (w:World) (vals:List Value) (F:Nat→Prop) (n:Nat),RL ρ j e.args vals→(∀k,n≤k→j k=none)→(e.nopq≠0→n=e.base)→(∀b,F b→b<w.heap.size)→w0.heap.size≤w.heap.size→g.fact e.gs (opqs j) F w→(∀i,i<w0.heap.size→ ¬K i→w.heap[i]? =w0.heap[i]?)→
      Calls P e.f vals.toArray w fun en w'=> ∃u qs F',en= .returned u∧qs.length=e.nopq∧R ρ (jq j n qs) e.res u∧g.fact e.gs' (opqs (jq j n qs)) F' w'∧(∀b,F' b→b<w'.heap.size∧(F b∨w.heap.size≤b))∧Mv (fun b=>F b∧(w0.heap.size≤b∨K b)) w w'):
    zuZ P ρ (cxOf w0 K g) e:=by
  refine ⟨he,fun j H w vals hi hgs hb hv=> ?_⟩
  have hG:=hi.gho
  rw [hgs] at hG
  obtain ⟨F,h1,h2⟩:=hG
  have hnone: ∀k,H.nx≤k→j k= .none:=fun k hk=>by
    cases hjk:j k with
    | none=>rfl
    | some L=>have:=hi.dom k L hjk;omega
  refine Calls.mono (h j w vals F H.nx hv hnone hb (fun b hF=>(h1 b hF).1) hi.fr.size h2 hi.fr.old) fun en w' he'=> ?_
  obtain ⟨u,qs,F',rfl,g1,g2,g3,g4,g5⟩:=he'
  refine ⟨u,qs,rfl,g1,g2,⟨F',fun b hF'=>⟨(g4 b hF').1,fun hm=> ?_⟩,g3⟩,g5.mono fun b hb=>⟨(h1 b hb.1).2,hb.2⟩⟩
  have hm:=zl1 hnone hm
  rcases (g4 b hF').2 with hF|hF
  · exact (h1 b hF).2 hm
  · obtain ⟨k,L,k1,k2,k3⟩:=hm
    have:=hi.blk k L k1 k2
    omega
end Go.Dw
namespace Go.Dw
open Go.RowKit
def zuq:Loc:=⟨0,0,0,none⟩
def lcOf (j:J) (n:Nat):Loc:=(j n).getD zuq
mutual
def AV.exact:AV→Bool
 | .emp| .slu _| .sla=>false
 | .sl _ _ _ (.upto _)=>true
 | .func _ a b=>match AV.exactL a with|true=>AV.exactL b|false=>false
 | .iface _ v=>AV.exact v
 | .agg l=>AV.exactL l
 | .tup l=>AV.exactL l
 | _=>true
def AV.exactL:List AV→Bool
 | [] => true
 | a::l=>match AV.exact a with|true=>AV.exactL l|false=>false
end
mutual
def AV.val (ρ:Val) (lc:Nat→Loc):AV→Value
 | .bool b=> .bool (b.den ρ)
 | .int k n=> .int k (n.den ρ)
 | .str s=> .string ⟨(s.map UInt8.ofNat).toArray⟩
 | .nilp=> .pointer none
 | .ptr n o=> .pointer (some ⟨(lc n).blk,(lc n).off+o,none⟩)
 | .nils=> .slice none 0 0
 | .sl n o len cap=> .slice (some ⟨(lc n).blk,(lc n).off+o,none⟩) len (zjH (lc n) cap)
 | .emp| .slu _| .sla=>undef
 | .nilm=> .map none
 | .map n=> .map (some (lc n).blk)
 | .func f first cap=> .func (.func f) (AV.valL ρ lc first).toArray (AV.valL ρ lc cap).toArray
 | .nilf=> .nilFunc
 | .nili=> .nilIface
 | .iface t x=> .iface t (AV.val ρ lc x)
 | .agg l=> .agg (AV.valL ρ lc l).toArray
 | .tup l=> .tuple (AV.valL ρ lc l).toArray
 | .cst i _=>ρ.v i
 | .opq n _=>(lc n).q.getD undef
 | .nun _ _=>undef
 | .junk=>undef
 | .sx i _ _ _=>ρ.v i
def AV.valL (ρ:Val) (lc:Nat→Loc):List AV→List Value
 | [] => []
 | a::l=>AV.val ρ lc a::AV.valL ρ lc l
end
theorem zaA {j:J} {n:Nat} {L:Loc} (h:j n=some L):lcOf j n=L:=by unfold lcOf;rw [h];rfl
mutual
theorem R_val {ρ:Val} {j:J}: ∀ {a:AV} {v:Value},a.exact=true→R ρ j a v→v=a.val ρ (lcOf j)
 | .bool _,_,_,r=>r
 | .int _ _,_,_,r=>r
 | .str _,_,_,r=>r.2
 | .nilp,_,_,r=>r
 | .ptr _ _,_,_,r=>by obtain ⟨L,e,rfl⟩:=r;unfold AV.val;rw [zaA e]
 | .nils,_,_,r=>r
 | .sl _ _ _ _,_,_,r=>by obtain ⟨L,e,_,rfl⟩:=r;unfold AV.val;rw [zaA e]
 | .emp,_,h,_=>by cases h
 | .slu _,_,h,_=>by cases h
 | .sla,_,h,_=>by cases h
 | .nilm,_,_,r=>r
 | .map _,_,_,r=>by obtain ⟨L,e,rfl⟩:=r;unfold AV.val;rw [zaA e]
 | .func f a b,_,h,r=>by
  obtain ⟨l,m,rfl,h1,h2⟩:=r
  unfold AV.exact at h
  split at h
  ·rename_i ha;unfold AV.val;rw [RL_val ha h1,RL_val h h2]
  ·cases h
 | .nilf,_,_,r=>r
 | .nili,_,_,r=>r
 | .iface t x,_,h,r=>by obtain ⟨y,rfl,h1⟩:=r;unfold AV.exact at h;unfold AV.val;rw [R_val h h1]
 | .agg l,_,h,r=>by obtain ⟨m,rfl,h1⟩:=r;unfold AV.exact at h;unfold AV.val;rw [RL_val h h1]
 | .tup l,_,h,r=>by obtain ⟨m,rfl,h1⟩:=r;unfold AV.exact at h;unfold AV.val;rw [RL_val h h1]
 | .cst _ _,_,_,r=>r.1
 | .opq _ _,_,_,r=>by obtain ⟨⟨L,e,h1⟩,_⟩:=r;unfold AV.val;rw [zaA e,h1];rfl
 | .nun _ _,_,_,r=>r.1
 | .junk,_,_,r=>r.elim
 | .sx _ _ _ _,_,_,r=>r.1
theorem RL_val {ρ:Val} {j:J}: ∀ {l:List AV} {m:List Value},AV.exactL l=true→RL ρ j l m→m=AV.valL ρ (lcOf j) l
 | [], _,_,r=>r
 | a::l,_,h,r=>by
  obtain ⟨v,m,rfl,h1,h2⟩:=r
  unfold AV.exactL at h
  split at h
  ·rename_i ha;unfold AV.valL;rw [R_val ha h1,RL_val h h2]
  ·cases h
end
mutual
def AV.small:AV→Bool
 | .bool b=>b.small
 | .func _ a b=>match AV.smallL a with|true=>AV.smallL b|false=>false
 | .iface _ v=>AV.small v
 | .agg l=>AV.smallL l
 | .tup l=>AV.smallL l
 | .nun c _=>c.small
 | _=>true
def AV.smallL:List AV→Bool
 | [] => true
 | a::l=>match AV.small a with|true=>AV.smallL l|false=>false
end
theorem zn1 {ρ:Val} {j:J} (m:Nat→Bool) {sz:Nat} {b:Option Addr} {len:Nat}: ∀ {l:List (SE×Nat)},(SXs (ρ.mark m) j sz b len l↔SXs ρ j sz b len l)
 | [] => Iff.rfl
 | p::l=>by unfold SXs;rw [zn1 m (l:=l),SE.den_mark]
mutual
theorem R_mark {ρ:Val} {j:J} (m:Nat→Bool): ∀ {a:AV} {v:Value},a.small=true→(R (ρ.mark m) j a v↔R ρ j a v)
 | .bool b,v,h=>by show v=_↔v=_;rw [SB.den_mark ρ m b h]
 | .int k n,v,_=>by show v=_↔v=_;rw [SE.den_mark]
 | .str _,_,_=>Iff.rfl
 | .nilp,_,_=>Iff.rfl
 | .ptr _ _,_,_=>Iff.rfl
 | .nils,_,_=>Iff.rfl
 | .sl _ _ _ _,_,_=>Iff.rfl
 | .emp,_,_=>Iff.rfl
 | .slu n,_,_=>by simp only [R,SE.den_mark]
 | .sla,_,_=>Iff.rfl
 | .nilm,_,_=>Iff.rfl
 | .map _,_,_=>Iff.rfl
 | .func f a b,v,h=>by
  unfold AV.small at h
  split at h
  ·rename_i ha
   constructor
   ·rintro ⟨l,k,rfl,h1,h2⟩;exact ⟨l,k,rfl,(RL_mark m ha).1 h1,(RL_mark m h).1 h2⟩
   ·rintro ⟨l,k,rfl,h1,h2⟩;exact ⟨l,k,rfl,(RL_mark m ha).2 h1,(RL_mark m h).2 h2⟩
  ·cases h
 | .nilf,_,_=>Iff.rfl
 | .nili,_,_=>Iff.rfl
 | .iface t x,v,h=>by
  unfold AV.small at h
  constructor
  ·rintro ⟨y,rfl,h1⟩;exact ⟨y,rfl,(R_mark m h).1 h1⟩
  ·rintro ⟨y,rfl,h1⟩;exact ⟨y,rfl,(R_mark m h).2 h1⟩
 | .agg l,v,h=>by
  unfold AV.small at h
  constructor
  ·rintro ⟨y,rfl,h1⟩;exact ⟨y,rfl,(RL_mark m h).1 h1⟩
  ·rintro ⟨y,rfl,h1⟩;exact ⟨y,rfl,(RL_mark m h).2 h1⟩
 | .tup l,v,h=>by
  unfold AV.small at h
  constructor
  ·rintro ⟨y,rfl,h1⟩;exact ⟨y,rfl,(RL_mark m h).1 h1⟩
  ·rintro ⟨y,rfl,h1⟩;exact ⟨y,rfl,(RL_mark m h).2 h1⟩
 | .cst i l,v,_=>by
  show (v=ρ.v i∧_∧_)↔(v=ρ.v i∧_∧_)
  simp only [SE.den_mark]
 | .opq _ _,_,_=>by simp only [R,SE.den_mark]
 | .junk,_,_=>Iff.rfl
 | .sx i n sz l,v,_=>by
  show (v=ρ.v i∧_)↔(v=ρ.v i∧_)
  simp only [SE.den_mark,zn1]
 | .nun c w,v,h=>by show (v=undef∧_=_)↔(v=undef∧_=_);rw [SB.den_mark ρ m c h]
theorem RL_mark {ρ:Val} {j:J} (m:Nat→Bool): ∀ {l:List AV} {v:List Value},AV.smallL l=true→(RL (ρ.mark m) j l v↔RL ρ j l v)
 | [], _,_=>Iff.rfl
 | a::l,v,h=>by
  unfold AV.smallL at h
  split at h
  ·rename_i ha
   constructor
   ·rintro ⟨y,k,rfl,h1,h2⟩;exact ⟨y,k,rfl,(R_mark m ha).1 h1,(RL_mark m h).1 h2⟩
   ·rintro ⟨y,k,rfl,h1,h2⟩;exact ⟨y,k,rfl,(R_mark m ha).2 h1,(RL_mark m h).2 h2⟩
  ·cases h
end
def zvr:Option AV→Bool
 | none=>true
 | some a=>a.small
def zfe:List (AV×Option AV)→Bool
 | [] => true
 | e::l=>match e.1.small,zvr e.2 with|true,true=>zfe l|_,_=>false
theorem zjO {ρ:Val} {j:J} (m:Nat→Bool): ∀ {l:List (AV×Option AV)} {v:List (Int×Option Value)},zfe l=true→(RX (ρ.mark m) j l v↔RX ρ j l v)
 | [], _,_=>Iff.rfl
 | e::l,v,h=>by
  unfold zfe at h
  split at h
  ·rename_i h1 h2
   have ho: ∀o,RO (ρ.mark m) j e.2 o↔RO ρ j e.2 o:=fun o=>by
    cases he:e.2 with
    | none=>exact Iff.rfl
    | some a=>
     rw [he] at h2
     constructor
     ·rintro ⟨y,rfl,hy⟩;exact ⟨y,rfl,(R_mark m h2).1 hy⟩
     ·rintro ⟨y,rfl,hy⟩;exact ⟨y,rfl,(R_mark m h2).2 hy⟩
   constructor
   ·rintro ⟨x,o,k,rfl,g1,g2,g3⟩;exact ⟨x,o,k,rfl,(R_mark m h1).1 g1,(ho o).1 g2,(zjO m h).1 g3⟩
   ·rintro ⟨x,o,k,rfl,g1,g2,g3⟩;exact ⟨x,o,k,rfl,(R_mark m h1).2 g1,(ho o).2 g2,(zjO m h).2 g3⟩
  ·cases h
def Sh.small:Sh→Bool
 | .own row=>AV.smallL row
 | .ro row=>AV.smallL row
 | .mapx kn=>zfe kn
def zaJ:List Sh→Bool
 | [] => true
 | s::l=>match s.small with|true=>zaJ l|false=>false
theorem zfS {ρ:Val} {j:J} {x:Cx} (m:Nat→Bool): ∀ {bl:List (Nat×Nat)} {l:List Sh},zaJ l=true→ShsOk ρ j x bl l→ShsOk (ρ.mark m) j x bl l
 | [], [], _,_=>trivial
 | [], _::_,_,h=>h.elim
 | _::_,[],_,h=>h.elim
 | b::bl,s::l,hs,h=>by
  unfold zaJ at hs
  split at hs
  ·rename_i h0
   refine ⟨?_,zfS m hs h.2⟩
   have h1:=h.1
   cases s with
   | own row=>obtain ⟨a1,a2,vals,arr,e,a3,a4,a5⟩:=h1;exact ⟨a1,a2,vals,arr,e,a3,(RL_mark m h0).2 a4,a5⟩
   | ro row=>obtain ⟨a1,vals,arr,e,fr,a3,a4,a5,a6⟩:=h1;exact ⟨a1,vals,arr,e,fr,a3,(RL_mark m h0).2 a4,a5,a6⟩
   | mapx kn=>obtain ⟨a1,a2,arr,clock,m0,a3,a4,a5,a6⟩:=h1;exact ⟨a1,a2,arr,clock,m0,a3,a4,(zjO m h0).2 a5,a6⟩
  ·cases hs
theorem zlz {ρ:Val} (m:Nat→Bool) {a:AV} {v:Value} {j:J} (hs:a.small=true) (hx:a.exact=true) (h:R (ρ.mark m) j a v):v=a.val ρ (lcOf j):=R_val hx ((R_mark m hs).1 h)
def zrm (P:Program) (ρ:Val) (w0:World) (K:Nat→Prop) (g:Gho) (e:Ent):Prop:=
 Enters P e.f∧ ∀(j:J) (w:World) (vals:List Value) (F:Nat→Prop) (n:Nat),RL ρ j e.args vals→(∀k,n≤k→j k=none)→(e.nopq≠0→n=e.base)→(∀b,F b→b<w.heap.size)→w0.heap.size≤w.heap.size→g.fact e.gs (opqs j) F w→(∀i,i<w0.heap.size→ ¬K i→w.heap[i]? =w0.heap[i]?)→
   Calls P e.f vals.toArray w fun en w'=> ∃u qs F',en= .returned u∧qs.length=e.nopq∧R ρ (jq j n qs) e.res u∧g.fact e.gs' (opqs (jq j n qs)) F' w'∧(∀b,F' b→b<w'.heap.size∧(F b∨w.heap.size≤b))∧Mv (fun b=>F b∧(w0.heap.size≤b∨K b)) w w'
def znB (P:Program) (ρ:Val) (w0:World) (K:Nat→Prop) (g:Gho):List Ent→Prop
 | [] => True
 | e::l=>zrm P ρ w0 K g e∧znB P ρ w0 K g l
def zay:List Ent→Bool
 | [] => true
 | e::l=>match AV.smallL e.args,e.res.small with|true,true=>zay l|_,_=>false
theorem zeN {P:Program} {ρ:Val} {w0:World} {K:Nat→Prop} {g:Gho} (m:Nat→Bool): ∀ {l:List Ent},zay l=true→znB P ρ w0 K g l→ ∀e∈l,zuZ P (ρ.mark m) (cxOf w0 K g) e
 | [], _,_,e,h=>by cases h
 | e0::l,hs,ho,e,h=>by
  unfold zay at hs
  split at hs
  case h_2=>cases hs
  rename_i h1 h2
  rcases List.mem_cons.1 h with rfl|h
  ·refine zsG ho.1.1 fun j w vals F n hv hn hb hF hsz hf hold=> ?_
   refine Calls.mono (ho.1.2 j w vals F n ((RL_mark m h1).1 hv) hn hb hF hsz hf hold) fun en w' he=> ?_
   obtain ⟨u,qs,F',e1,e2,e3,e4⟩:=he
   exact ⟨u,qs,F',e1,e2,(R_mark m h2).2 e3,e4⟩
  ·exact zeN m hs ho.2 e h
def Row (w:World) (L:Loc) (vals:List Value):Prop:= ∃arr e fr,w.heap[L.blk]? =some (.cells arr e fr)∧ ∀(i:Nat) (y:Value),vals[i]? =some y→arr[L.off+i]? =some y
def Own (w:World) (b:Nat) (vals:List Value):Prop:= ∃(arr:Array Value) (e:TypeId),w.heap[b]? =some (.cells arr e (0,0))∧ ∀(i:Nat) (y:Value),vals[i]? =some y→arr[i]? =some y
def zcU:List (Nat×List AV)→Bool
 | [] => true
 | r::l=>match AV.exactL r.2,AV.smallL r.2 with|true,true=>zcU l|_,_=>false
def zgG:List (AV×Option AV)→Bool
 | [] => true
 | e::l=>match e.1.exact,(match e.2 with|none=>true|some a=>a.exact) with|true,true=>zgG l|_,_=>false
def zcX:List (Nat×List (AV×Option AV))→Bool
 | [] => true
 | r::l=>match zgG r.2,zfe r.2 with|true,true=>zcX l|_,_=>false
def zaC:List Leaf→Bool
 | [] => true
 | l::r=>match l.v.exact,l.v.small,zcU l.rows,zcX l.maps with|true,true,true,true=>zaC r|_,_,_,_=>false
def intOf:Value→Int
 | .int _ n=>n
 | _=>0
def znj (ρ:Val) (lc:Nat→Loc):List (AV×Option AV)→List (Int×Option Value)
 | [] => []
 | e::l=>(intOf (e.1.val ρ lc),e.2.map (AV.val ρ lc))::znj ρ lc l
theorem zts {ρ:Val} {j:J}: ∀ {l:List (AV×Option AV)} {m:List (Int×Option Value)},zgG l=true→RX ρ j l m→m=znj ρ (lcOf j) l
 | [], _,_,r=>r
 | e::l,_,h,r=>by
  obtain ⟨x,o,k,rfl,g1,g2,g3⟩:=r
  unfold zgG at h
  split at h
  case h_2=>cases h
  rename_i h1 h2
  unfold znj
  rw [zts h g3,←R_val h1 g1]
  cases he:e.2 with
  | none=>rw [he] at g2;have g2:o=none:=g2;rw [g2];rfl
  | some a=>
   rw [he] at g2 h2
   obtain ⟨v,rfl,g4⟩:=g2
   rw [R_val h2 g4];rfl
def zrh (ρ:Val) (j:J) (K:Nat→Prop) (w0 w:World):List (Nat×List AV)→Prop
 | [] => True
 | r::l=>(∀L,j r.1=some L→Row w L (AV.valL ρ (lcOf j) r.2)∧((w0.heap.size≤L.blk∨K L.blk)→L.off=0→Own w L.blk (AV.valL ρ (lcOf j) r.2)))∧zrh ρ j K w0 w l
def zrk (ρ:Val) (j:J) (w0 w:World):List (Nat×List (AV×Option AV))→Prop
 | [] => True
 | r::l=>(∀L,j r.1=some L→ ∃arr clock arr0 clock0,w.heap[L.blk]? =some (.map arr clock)∧w0.heap[L.blk]? =some (.map arr0 clock0)∧(zex arr∧Born arr clock)∧ ∀k,zbm arr k=mlog (zbm arr0) (znj ρ (lcOf j) r.2) k)∧zrk ρ j w0 w l
theorem zcK: ∀ {ls:List Leaf} {i:Nat} {l:Leaf},zaC ls=true→ls[i]? =some l→l.v.exact=true∧l.v.small=true∧zcU l.rows=true∧zcX l.maps=true
 | [], _,_,_,h=>by cases h
 | x::r,i,l,hx,h=>by
  unfold zaC at hx
  split at hx
  case h_2=>cases hx
  rename_i h1 h2 h3 h4
  cases i with
  | zero=>cases h;exact ⟨h1,h2,h3,h4⟩
  | succ i=>exact zcK hx (by simpa using h)
theorem zj6 {ρ:Val} {m:Nat→Bool} {j:J} {x:Cx} {K:Nat→Prop} {H:Heap} {w:World} (hxw: ∀b,x.own b↔(x.w.heap.size≤b∨K b)) (hi:Inv (ρ.mark m) x j H w): ∀ {rows:List (Nat×List AV)},zcU rows=true→zb5 H rows=true→zrh ρ j K x.w w rows
 | [], _,_=>trivial
 | r::l,hx,ha=>by
  unfold zcU at hx
  split at hx
  case h_2=>cases hx
  rename_i h1 h2
  unfold zb5 at ha
  split at ha
  case h_2=>cases ha
  rename_i h3 _
  refine ⟨fun L hL=> ?_,zj6 hxw hi hx ha⟩
  obtain ⟨vals,arr,e,fr,g1,g2,g3,_,g5⟩:=hi.rowOut hL h3
  have hv:=RL_val h1 ((RL_mark m h2).1 g2)
  rw [hv] at g3
  refine ⟨⟨arr,e,fr,g1,g3⟩,fun ho h0=> ?_⟩
  have:=g5 ((hxw _).2 ho)
  subst this
  exact ⟨arr,e,g1,fun i y hy=>by have:=g3 i y hy;rwa [h0,Nat.zero_add] at this⟩
theorem zkE {ρ:Val} {m:Nat→Bool} {j:J} {x:Cx} {H:Heap} {w:World} (hi:Inv (ρ.mark m) x j H w): ∀ {maps:List (Nat×List (AV×Option AV))},zcX maps=true→zeH H maps=true→zrk ρ j x.w w maps
 | [], _,_=>trivial
 | r::l,hx,ha=>by
  unfold zcX at hx
  split at hx
  case h_2=>cases hx
  rename_i h1 h2
  unfold zeH at ha
  split at ha
  case h_2=>cases ha
  rename_i h3
  refine ⟨fun L hL=> ?_,zkE hi hx ha⟩
  obtain ⟨arr,clock,arr0,clock0,m1,g1,g2,g3,g4,g5⟩:=hi.mapOut hL h3
  have hv:=zts h1 ((zjO m h2).1 g4)
  rw [hv] at g5
  exact ⟨arr,clock,arr0,clock0,g1,g2,g3,g5⟩
mutual
def AV.names:AV→List Nat
 | .ptr n _=> [n]
 | .sl n _ _ _=> [n]
 | .map n=> [n]
 | .opq n _=> [n]
 | .func _ a b=>AV.namesL a++AV.namesL b
 | .iface _ v=>AV.names v
 | .agg l=>AV.namesL l
 | .tup l=>AV.namesL l
 | _=> []
def AV.namesL:List AV→List Nat
 | [] => []
 | a::l=>AV.names a++AV.namesL l
end
mutual
theorem names_some {ρ:Val} {j:J}: ∀ {a:AV} {v:Value},R ρ j a v→ ∀n∈a.names,j n=some (lcOf j n)
 | .bool _,_,_,n,h=>by cases h
 | .int _ _,_,_,n,h=>by cases h
 | .str _,_,_,n,h=>by cases h
 | .nilp,_,_,n,h=>by cases h
 | .ptr m o,_,r,n,h=>by
  obtain ⟨L,e,_⟩:=r
  have h:n∈ [m]:=h
  rw [List.mem_singleton] at h;subst h;rw [zaA e];exact e
 | .nils,_,_,n,h=>by cases h
 | .sl m _ _ _,_,r,n,h=>by
  obtain ⟨L,e,_⟩:=r
  have h:n∈ [m]:=h
  rw [List.mem_singleton] at h;subst h;rw [zaA e];exact e
 | .emp,_,_,n,h=>by cases h
 | .slu _,_,_,n,h=>by cases h
 | .sla,_,_,n,h=>by cases h
 | .nilm,_,_,n,h=>by cases h
 | .map m,_,r,n,h=>by
  obtain ⟨L,e,_⟩:=r
  have h:n∈ [m]:=h
  rw [List.mem_singleton] at h;subst h;rw [zaA e];exact e
 | .func f a b,_,r,n,h=>by
  obtain ⟨l,m,_,h1,h2⟩:=r
  have h:n∈AV.namesL a++AV.namesL b:=h
  rcases List.mem_append.1 h with h|h
  ·exact namesL_some h1 n h
  ·exact namesL_some h2 n h
 | .nilf,_,_,n,h=>by cases h
 | .nili,_,_,n,h=>by cases h
 | .iface t x,_,r,n,h=>by obtain ⟨y,_,h1⟩:=r;exact names_some h1 n h
 | .agg l,_,r,n,h=>by obtain ⟨y,_,h1⟩:=r;exact namesL_some h1 n h
 | .tup l,_,r,n,h=>by obtain ⟨y,_,h1⟩:=r;exact namesL_some h1 n h
 | .cst _ _,_,_,n,h=>by cases h
 | .opq m _,_,r,n,h=>by
  obtain ⟨⟨L,e,_⟩,_⟩:=r
  have h:n∈ [m]:=h
  rw [List.mem_singleton] at h;subst h;rw [zaA e];exact e
 | .nun _ _,_,_,n,h=>by cases h
 | .junk,_,_,n,h=>by cases h
 | .sx _ _ _ _,_,_,n,h=>by cases h
theorem namesL_some {ρ:Val} {j:J}: ∀ {l:List AV} {m:List Value},RL ρ j l m→ ∀n∈AV.namesL l,j n=some (lcOf j n)
 | [], _,_,n,h=>by cases h
 | a::l,_,r,n,h=>by
  obtain ⟨v,m,_,h1,h2⟩:=r
  have h:n∈AV.names a++AV.namesL l:=h
  rcases List.mem_append.1 h with h|h
  ·exact names_some h1 n h
  ·exact namesL_some h2 n h
end
def zjM (j:J):List (Nat×List AV)→Prop
 | [] => True
 | r::l=>(∀L,j r.1=some L→ ∀n∈AV.namesL r.2,j n=some (lcOf j n))∧zjM j l
theorem zg2 {ρ:Val} {j:J} {x:Cx} {H:Heap} {w:World} (hi:Inv ρ x j H w): ∀ {rows:List (Nat×List AV)},zb5 H rows=true→zjM j rows
 | [], _=>trivial
 | r::l,ha=>by
  unfold zb5 at ha
  split at ha
  case h_2=>cases ha
  rename_i h3 _
  refine ⟨fun L hL=> ?_,zg2 hi ha⟩
  obtain ⟨vals,arr,e,fr,g1,g2,_⟩:=hi.rowOut hL h3
  exact namesL_some g2
theorem zbO {H:Heap}: ∀ {l:List (Nat×List AV)},zb5 H l=true→ ∀ {r:Nat×List AV},r∈l→zj8 H r.1 r.2=true
 | [], _,_,h=>by cases h
 | x::l,ha,r,h=>by
  unfold zb5 at ha
  split at ha
  case h_2=>cases ha
  rename_i h1 _
  rcases List.mem_cons.1 h with rfl|h
  ·exact h1
  ·exact zbO ha h
theorem zhh {H:Heap}: ∀ {l:List (Nat×List (AV×Option AV))},zeH H l=true→ ∀ {r:Nat×List (AV×Option AV)},r∈l→zoy H r.1 r.2=true
 | [], _,_,h=>by cases h
 | x::l,ha,r,h=>by
  unfold zeH at ha
  split at ha
  case h_2=>cases ha
  rename_i h1
  rcases List.mem_cons.1 h with rfl|h
  ·exact h1
  ·exact zhh ha h
structure zoX (ρ:Val) (w0:World) (K:Nat→Prop) (g:Gho) (bl:List (Nat×Nat)) (l:Leaf) (e:Ending) (w':World) (j:J):Prop where
 ret:e= .returned (l.v.val ρ (lcOf j))
 sub:Sub (jOf bl) j
 rows:zrh ρ j K w0 w' l.rows
 maps:zrk ρ j w0 w' l.maps
 names: ∀n∈l.v.names,j n=some (lcOf j n)
 rnames:zjM j l.rows
 apart: ∀r∈l.rows,∀r'∈l.rows,r.1≠r'.1→ ∀L L',j r.1=some L→j r'.1=some L'→L.blk=L'.blk→ ¬(w0.heap.size≤L.blk∨K L.blk)
 mapart: ∀r∈l.rows,∀r'∈l.maps,∀L L',j r.1=some L→j r'.1=some L'→L.blk≠L'.blk
 mine: ∀r∈l.rows,∀L,j r.1=some L→Mine j L.blk
 fresh: ∀n∈l.own,∀L,j n=some L→(w0.heap.size≤L.blk∨K L.blk)∧L.off=0
 gho:g.G l.gs j w'
 mv:Mv K w0 w'
def zjA (n:Nat):List (List (SB×Bool)×Nat)→List (List (SB×Bool)×Nat)
 | [] => []
 | p::l=>(p.1.drop n,p.2)::zjA n l
def Ob.ways (asm:List (SB×Bool)) (o:Ob):Option (List (List (SB×Bool)×Nat)):=
 match o.paths asm with
 | some l=>some (zjA asm.length l)
 | none=>none
theorem zeO {n:Nat}: ∀ {l:List (List (SB×Bool)×Nat)} {p:List (SB×Bool)×Nat},p∈l→(p.1.drop n,p.2)∈zjA n l
 | [], _,h=>by cases h
 | q::l,p,h=>by
  unfold zjA
  rcases List.mem_cons.1 h with rfl|h
  ·exact List.mem_cons_self ..
  ·exact List.mem_cons_of_mem _ (zeO h)
theorem znF {ρ:Val} {w:World} {K:Nat→Prop} {g:Gho} {bl:List (Nat×Nat)} {l:Leaf} {m:Nat→Bool} {H H':Heap} {j':J} {u:Value} {v:AV} {w':World}
  (x1:l.v.exact=true) (x2:l.v.small=true) (x3:zcU l.rows=true) (x4:zcX l.maps=true)
  (h1:R (ρ.mark m) j' v u) (h2:Inv (ρ.mark m) (cxOf w K g) j' H' w') (h3:St (jOf bl) H j' H') (h4:l.fits v H'=true):zoX ρ w K g bl l (.returned u) w' j':=by
 obtain ⟨k1,k2,k3,k4,k5⟩:=zvy h4
 subst k1
 refine ⟨by rw [zlz m x2 x1 h1],h3.sub,zj6 (x:=cxOf w K g) (fun b=>Iff.rfl) h2 x3 k2,zkE h2 x4 k3,names_some h1,zg2 h2 k2,fun r hr r' hr' hne L L' hL hL' hb=>h2.rowsApart hne (ze4 k2 hr hr' hne) hL hL' (zbO k2 hr) (zbO k2 hr') hb,
  fun r hr r' hr' L L' hL hL'=>h2.rowMapApart hL hL' (zbO k2 hr) (zhh k3 hr'),fun r hr L hL=> ?_,fun n hn L hL=> ?_,?_,h2.fr.os,h2.fr.tape,h2.fr.out,h2.fr.size,h2.fr.old⟩
 ·obtain ⟨_,_,_,_,_,_,h5,_⟩:=zd7 (zbO k2 hr)
  exact ⟨r.1,L,hL,h2.qrow hL h5,rfl⟩
 ·obtain ⟨v,e,c,sh,h5⟩:=zha k5 hn
  refine ⟨?_,h2.off0 n L v e c sh hL h5⟩
  obtain ⟨o,h6,h7⟩:=h2.obj n L hL
  rw [h5] at h6;cases h6
  have h8:=h7.2.1
  rw [if_pos rfl] at h8
  exact h8
 ·rw [←k4];exact h2.gho
theorem zbJ {P:Program} {ρ:Val} {w:World} {K:Nat→Prop} {g:Gho} {bl:List (Nat×Nat)} {shs:List Sh} {gs:Nat} {ents:List Ent} {n:Nat} {f:FuncId} {args:List AV} {vals:List Value} {ls:List Leaf} {asm:List (SB×Bool)} {ps:List (List (SB×Bool)×Nat)}
  (hmo:P.follows .mixedOrders=true)
  (h:(ev P (zbf ents) n (.call f args (zba gs shs) (zb8 ls 0))).ways asm=some ps)
  (hs:(zaJ shs&&zay ents&&AV.smallL args&&zaC ls)=true)
  (hK: ∀b,K b→b<w.heap.size) (ho:ShsOk ρ (jOf bl) (cxOf w K g) bl shs) (hap:apart bl shs) (hG:g.G gs (jOf bl) w) (he:znB P ρ w K g ents) (ha:RL ρ (jOf bl) args vals) (ht:Told ρ asm):
  Calls P f vals.toArray w fun e w'=> ∃p∈ps,Told ρ p.1∧ ∃l,ls[p.2]? =some l∧ ∃j,zoX ρ w K g bl l e w' j:=by
 simp only [Bool.and_eq_true] at hs
 obtain ⟨⟨⟨s1,s2⟩,s3⟩,s4⟩:=hs
 unfold Ob.ways at h
 cases hps:(ev P (zbf ents) n (.call f args (zba gs shs) (zb8 ls 0))).paths asm with
 | none=>rw [hps] at h;cases h
 | some ps0=>
 rw [hps] at h
 cases h
 have h:=hps
 refine Calls.mono (zsg (x:=cxOf w K g) hmo (fun m=>zk5 (zeN m s2 he)) (fun m=>zkU hK (zfS m s1 ho) hap hG) (fun m=>(RL_mark m s3).2 ha) ht h) fun e w' hh=> ?_
 obtain ⟨p,hp,hto,l,hl,m,u,v,j',H',rfl,h1,h2,h3,h4⟩:=hh
 obtain ⟨x1,x2,x3,x4⟩:=zcK s4 hl
 exact ⟨(p.1.drop asm.length,p.2),zeO hp,fun c hc=>hto c (List.mem_of_mem_drop hc),l,hl,j',znF x1 x2 x3 x4 h1 h2 h3 h4⟩
end Go.Dw
namespace Go.Dw
open Go.RowKit
def u16v (i:Nat):SE:= .flds [⟨i,0,65535,0,16,0⟩] 0
def u32v (i:Nat):SE:= .flds [⟨i,0,4294967295,0,32,0⟩] 0
def u64v (i:Nat):SE:= .flds [⟨i,0,18446744073709551615,0,64,0⟩] 0
def szv (i:Nat):SE:= .flds [⟨i,1,32768,0,16,0⟩] 0
def lnv (i:Nat):SE:= .flds [⟨i,0,4611686018427387903,0,62,0⟩] 0
theorem zhH {ρ:Val} {i lo hi n:Nat} (h0:(lo:Int)≤ρ.i i) (h1:ρ.i i≤(hi:Int)) (h2:hi<2^n):SE.den ρ (.flds [⟨i,lo,hi,0,n,0⟩] 0)=ρ.i i:=by
 obtain ⟨x,hx⟩:=Int.eq_ofNat_of_zero_le (Int.le_trans (Int.natCast_nonneg lo) h0)
 simp only [SE.den,zab,Fld.den,hx,Int.toNat_natCast,Nat.shiftRight_zero,Nat.shiftLeft_zero,Nat.or_zero]
 rw [hx] at h0 h1
 have e:max lo (min x hi)=x:=by omega
 rw [e,Nat.mod_eq_of_lt (by omega)]
 rfl
theorem zms {ρ:Val} {i:Nat} (h0:0≤ρ.i i) (h1:ρ.i i<65536):(u16v i).den ρ=ρ.i i:=zhH (by omega) (by omega) (by decide)
theorem zhI {ρ:Val} {i:Nat} (h0:0≤ρ.i i) (h1:ρ.i i<4294967296):(u32v i).den ρ=ρ.i i:=zhH (by omega) (by omega) (by decide)
theorem zbr {ρ:Val} {i:Nat} (h0:0≤ρ.i i) (h1:ρ.i i<18446744073709551616):(u64v i).den ρ=ρ.i i:=zhH (by omega) (by omega) (by decide)
theorem zmr {ρ:Val} {i:Nat} (h0:1≤ρ.i i) (h1:ρ.i i≤32768):(szv i).den ρ=ρ.i i:=zhH (by omega) (by omega) (by decide)
theorem zdw {ρ:Val} {i:Nat} (h0:0≤ρ.i i) (h1:ρ.i i<4611686018427387904):(lnv i).den ρ=ρ.i i:=zhH (by omega) (by omega) (by decide)
theorem zal {ρ:Val} {n:Int}:SE.den ρ (.lit n)=n:=rfl
theorem den_add {ρ:Val} {k:IntKind} {a b:SE}:SE.den ρ (.bin .add k a b)=k.wrap (a.den ρ+b.den ρ):=rfl
theorem za2 {ρ:Val} {k:IntKind} {a b:SE}:SE.den ρ (.bin .sub k a b)=k.wrap (a.den ρ-b.den ρ):=rfl
theorem den_mul {ρ:Val} {k:IntKind} {a b:SE}:SE.den ρ (.bin .mul k a b)=k.wrap (a.den ρ*b.den ρ):=rfl
theorem znK {ρ:Val} {k:IntKind} {a:SE}:SE.den ρ (.wrap k a)=k.wrap (a.den ρ):=rfl
theorem zvC {ρ:Val} {b:Bool}:SB.den ρ (.lit b)=b:=rfl
theorem zdB {ρ:Val} {i:Nat}:SB.den ρ (.var i)=ρ.b i:=rfl
theorem zqP {ρ:Val} {b:SB}:SB.den ρ (.not b)= !(b.den ρ):=rfl
theorem ztn {ρ:Val} {a b:SE}:SB.den ρ (.cmp .eql a b)=(a.den ρ==b.den ρ):=rfl
theorem zgf {ρ:Val} {a b:SE}:SB.den ρ (.cmp .neq a b)=(a.den ρ !=b.den ρ):=rfl
theorem zbE {ρ:Val} {a b:SE}:SB.den ρ (.cmp .lss a b)=decide (a.den ρ<b.den ρ):=rfl
theorem ziD {ρ:Val} {a b:SE}:SB.den ρ (.cmp .leq a b)=decide (a.den ρ≤b.den ρ):=rfl
theorem zeB {ρ:Val} {a b:SE}:SB.den ρ (.cmp .gtr a b)=decide (a.den ρ>b.den ρ):=rfl
theorem znM {ρ:Val} {a b:SE}:SB.den ρ (.cmp .geq a b)=decide (a.den ρ≥b.den ρ):=rfl
theorem zaN {k:Int} (h:0≤k) (h':k<18446744073709551616):IntKind.wrap .u64 k=k:=by unfold IntKind.wrap;simp [IntKind.signed,IntKind.bits];omega
theorem zs3 {k:Int} (h:0≤k) (h':k<4294967296):IntKind.wrap .u32 k=k:=by unfold IntKind.wrap;simp [IntKind.signed,IntKind.bits];omega
theorem zdF {k:Int} (h:0≤k) (h':k<65536):IntKind.wrap .u16 k=k:=by unfold IntKind.wrap;simp [IntKind.signed,IntKind.bits];omega
theorem zjR (k:Int):IntKind.wrap .u16 k=k%65536:=by unfold IntKind.wrap;simp [IntKind.signed,IntKind.bits]
theorem zjQ (k:Int):IntKind.wrap .u64 k=k%18446744073709551616:=by unfold IntKind.wrap;simp [IntKind.signed,IntKind.bits]
theorem zaT {k:Int} (h: -9223372036854775808≤k) (h':k<9223372036854775808):IntKind.wrap .i64 k=k:=by
 simp only [IntKind.wrap,IntKind.bits,IntKind.signed]
 simp
 omega
theorem zav {ρ:Val} {j:J} {a:AV} {l:List AV} {v:Value} {m:List Value} (h:R ρ j a v) (h':RL ρ j l m):RL ρ j (a::l) (v::m):=⟨v,m,rfl,h,h'⟩
theorem zaG {ρ:Val} {j:J} {k:IntKind} {n:SE} {x:Int} (h:n.den ρ=x):R ρ j (.int k n) (.int k x):=by show Value.int k x= .int k (n.den ρ);rw [h]
theorem zcA {ρ:Val} {j:J} {b:SB} {x:Bool} (h:b.den ρ=x):R ρ j (.bool b) (.bool x):=by show Value.bool x= .bool (b.den ρ);rw [h]
theorem zjN {ρ:Val} {j:J} {n o:Nat} {L:Loc} (h:j n=some L):R ρ j (.ptr n o) (.pointer (some ⟨L.blk,L.off+o,none⟩)):=⟨L,h,rfl⟩
theorem zlv {ρ:Val} {j:J} {a:List AV} {l:List Value} (h:RL ρ j a l):R ρ j (.agg a) (.agg l.toArray):=⟨l,rfl,h⟩
theorem zvX {ρ:Val} {j:J} {a:List AV} {l:List Value} (h:RL ρ j a l):R ρ j (.tup a) (.tuple l.toArray):=⟨l,rfl,h⟩
theorem zaL {ρ:Val} {w0:World} {K:Nat→Prop} {g:Gho} {bl:List (Nat×Nat)} {l:Leaf} {e:Ending} {w':World} {j:J} (h:zoX ρ w0 K g bl l e w' j) (hK: ∀b,¬K b):Below w0.heap.size w0 w':=
 ⟨h.mv.os,h.mv.tape,h.mv.output,h.mv.size,fun k hk=>h.mv.block k hk (hK k)⟩
theorem zbR {w:World} {b:Nat} {vals:List Value} (h:Own w b vals) {i:Nat} {v:Value} (hv:vals[i]? =some v):w.cell? ⟨b,i,none⟩=some v:=by
 obtain ⟨arr,e,h1,h2⟩:=h
 simp [World.cell?,h1,h2 i v hv]
theorem zkw {w:World} {b:Nat} {vals:List Value} (h:Own w b vals):b<w.heap.size:=by
 obtain ⟨arr,e,h1,_⟩:=h
 exact (Array.getElem?_eq_some_iff.1 h1).1
theorem Own.kept {w w':World} {b:Nat} {vals:List Value} (h:Own w b vals) (e:w'.heap[b]? =w.heap[b]?):Own w' b vals:=by
 obtain ⟨arr,t,h1,h2⟩:=h
 exact ⟨arr,t,e.trans h1,h2⟩
theorem za4 {k:Nat} {j:J} {w:World}:Gho.none.G k j w:=⟨fun _=>False,fun _ h=>h.elim,trivial⟩
end Go.Dw
namespace Go.Dw
theorem zaw {ρ:Val}:Told ρ []↔True:=⟨fun _=>trivial,fun _ c h=>by cases h⟩
theorem zad {ρ:Val} {c:SB} {b:Bool} {l:List (SB×Bool)}:Told ρ ((c,b)::l)↔c.den ρ=b∧Told ρ l:=
 ⟨fun h=>⟨h (c,b) (by simp),fun x hx=>h x (by simp [hx])⟩,fun h x hx=>by
  rcases List.mem_cons.1 hx with rfl|hx
  ·exact h.1
  ·exact h.2 x hx⟩
def vof (is:List Int) (bs:List Bool) (vs:List Value):Val:=⟨fun i=>is.getD i 0,fun i=>bs.getD i false,fun i=>vs.getD i (.bool false)⟩
end Go.Dw
namespace Go.Dw
end Go.Dw
namespace Go.Dw
open Go.RowKit
def zqM (P:Program) (f:FuncId):Bool:=
  match P.funcs[f]? with
  | some fn => (match fn.body with | some _ => decide (fn.name ≠ "runtime.NumGoroutine") | none => false)
  | none=>false
theorem enters_of {P:Program} {f:FuncId} (h:zqM P f=true):Enters P f:=by
 unfold zqM at h
 split at h
 case h_2=>cases h
 rename_i fn hf
 split at h
 case h_2=>cases h
 rename_i c hc
 exact ⟨fn,c,hf,hc,of_decide_eq_true h⟩
theorem zjz {ρ:Val} {w0:World} {K:Nat→Prop} {g:Gho} {bl:List (Nat×Nat)} {l0:Leaf} {e:Ending} {w':World} {pre:List (SB×Bool)}
  (h: ∃p∈ [(pre,0)],Told ρ p.1∧ ∃l,[l0][p.2]? =some l∧ ∃j,zoX ρ w0 K g bl l e w' j):Told ρ pre∧ ∃j,zoX ρ w0 K g bl l0 e w' j:=by
 obtain ⟨p,hp,ht,l,hl,j,he⟩:=h
 rw [List.mem_singleton] at hp
 subst hp
 cases hl
 exact ⟨ht,j,he⟩
end Go.Dw
namespace Go.Proofs
open Go.Dw Go.RowKit
structure Tryz.Rg where
 n:Int
 d:Int
 v:Int
 c:Int
theorem Tryz.mixed:prog.follows .mixedOrders=true:=by kernel_rfl
section
variable {r:Tryz.Rg} {is:List Int} {bs:List Bool} {vs:List Value}
end
theorem Tryz.zei {ρ:Val} {i n:Nat} (h0:0≤ρ.i i) (h1:ρ.i i<18446744073709551616):SE.den ρ (.flds [⟨i,0,18446744073709551615,0,n,0⟩] 0)=ρ.i i%2^n:=by
 obtain ⟨x,hx⟩:=Int.eq_ofNat_of_zero_le h0
 simp only [SE.den,zab,Fld.den,hx,Int.toNat_natCast,Nat.shiftRight_zero,Nat.shiftLeft_zero,Nat.or_zero]
 rw [hx] at h1
 have e:max 0 (min x 18446744073709551615)=x:=by omega
 rw [e]
 rfl
end Go.Proofs
namespace Go.Proofs
open Go.Dw Go.RowKit
structure Tryz.Sg where
 at1:Int
 len:Int
 wr:Bool
deriving DecidableEq
def Tryz.Sg.cells (x:Sg):List Value:= [.int .u64 x.at1,.int .u32 x.len,.bool x.wr]
def Tryz.zan (l:List Sg):List Value:=l.flatMap Sg.cells
def Tryz.Sg.ok (x:Sg):Prop:=0≤x.at1∧x.at1<18446744073709551616∧0≤x.len∧x.len<4294967296
theorem Tryz.zde (x:Sg) (r:List Sg):zan (x::r)= .int .u64 x.at1:: .int .u32 x.len:: .bool x.wr::zan r:=rfl
theorem Tryz.zbI (l:List Sg):(zan l).length=3*l.length:=by
 induction l with
 | nil=>rfl
 | cons x r ih=>
  rw [zde]
  simp only [List.length_cons,ih]
  omega
theorem Tryz.zdJ (l:List Sg) (i:Nat) (hi:i<l.length):(zan l)[3*i]? =some (.int .u64 l[i].at1)∧(zan l)[3*i+1]? =some (.int .u32 l[i].len)∧(zan l)[3*i+2]? =some (.bool l[i].wr):=by
 induction l generalizing i with
 | nil=>simp at hi
 | cons x r ih=>
  cases i with
  | zero=>exact ⟨rfl,rfl,rfl⟩
  | succ i=>
   have h:=ih i (by simpa using hi)
   rw [zde,show 3*(i+1)=3*i+1+1+1 by omega,show 3*i+1+1+1+1=(3*i+1)+1+1+1 by omega,show 3*i+1+1+1+2=(3*i+2)+1+1+1 by omega]
   simp only [List.getElem?_cons_succ,List.getElem_cons_succ]
   exact h
theorem Tryz.zfZ (l:List Sg): ∀v∈zan l,v.oneCell'=true:=fun v hv=>by
 simp only [zan,List.mem_flatMap,Sg.cells,List.mem_cons,List.not_mem_nil,or_false] at hv
 obtain ⟨x,_,rfl|rfl|rfl⟩:=hv<;>rfl
theorem Tryz.zcS {w:World} {R o:Nat} {l:List Sg} (h:w.rangeAt R o (zan l)) (k:Nat) (hk:k<l.length):w.rangeAt R (o+3*k) l[k].cells:=fun j v hv=>by
 obtain ⟨h0,h1,h2⟩:=zdJ l k hk
 match j,hv with
 | 0,hv=>cases hv;exact h _ _ h0
 | 1,hv=>cases hv;have:=h _ _ h1;rwa [←Nat.add_assoc] at this
 | 2,hv=>cases hv;have:=h _ _ h2;rwa [←Nat.add_assoc] at this
 | j+3,hv=>cases hv
def Tryz.SegV (A:Nat→Prop) (w:World) (v:Value) (l:List Sg):Prop:=
 ∃ (sa:Option Addr) (c:Nat),v= .slice sa l.length c∧(∀x∈l,x.ok)∧(l= []∨ ∃R o,sa=some ⟨R,o,none⟩∧ ¬A R∧w.rangeAt R o (zan l))
theorem Tryz.zgZ {w:World} {R o:Nat} {l:List Sg} (h:w.rangeAt R o (zan l)) (h0:l≠ []):R<w.heap.size:=by
 have h1:0<(zan l).length:=by
  rw [zbI]
  have:=List.length_pos_iff.2 h0
  omega
 exact World.block_lt_of_cell? w ⟨R,o+0,none⟩ (h 0 _ (List.getElem?_eq_getElem h1))
theorem Tryz.SegV.kept {A:Nat→Prop} {w w':World} {v:Value} {l:List Sg} (h:SegV A w v l) (hk: ∀k,k<w.heap.size→ ¬A k→w'.heap[k]? =w.heap[k]?):SegV A w' v l:=by
 obtain ⟨sa,c,rfl,hl,hr⟩:=h
 refine ⟨sa,c,rfl,hl,?_⟩
 rcases hr with h0|⟨R,o,rfl,hn,hr⟩
 ·exact Or.inl h0
 ·by_cases h0:l= []
  ·exact Or.inl h0
  ·exact Or.inr ⟨R,o,rfl,hn,zag hr (hk R (zgZ hr h0) hn)⟩
theorem Tryz.SegV.below {A:Nat→Prop} {w w':World} {v:Value} {l:List Sg} (h:SegV A w v l) (hb:Below w.heap.size w w'):SegV A w' v l:=h.kept (fun k hk _=>hb.block k hk)
structure Tryz.SS where
 ev:Bool
 tb:Bool
 pk:Bool
 nx:Int
 us:Int
 tk:List (Int×List Sg)
 ph:Nat
 op:Int
 nn:Bool
 hd:Int
 sg:List Sg
 wr:Int
 it:Bool
 dn:Bool
 br:Bool
end Go.Proofs
namespace Go.Dw
open Go.RowKit
structure LEnd where
 test:SB
 ex:Ex
 slots:List (Nat×AV)
 gs:Nat
structure LEnt where
 p:List Nat
 n:Nat
 gs:Nat
 slots:List (Nat×AV)
 keep:List Nat
 rows:List (Nat×List AV)
 base:Nat
 nopq:Nat
 ends:List LEnd
def getE (env:T AV) (t:Nat):AV:=
 match env.get t with
 | some v=>v
 | none=>zbp
def zdn:Nat→T AV→T AV
 | 0,t=>t
 | n+1,t=>zdn n (t.set n .junk)
def zme (env:T AV):List Nat→T AV→T AV
 | [], t=>t
 | i::l,t=>zme env l (t.set i (getE env i))
def setE:List (Nat×AV)→T AV→T AV
 | [], t=>t
 | p::l,t=>setE l (t.set p.1 p.2)
def zm9:List Nat→List Nat→Bool
 | [], [] => true
 | a::l,b::m=>match Nat.beq a b with|true=>zm9 l m|false=>false
 | _,_=>false
def zp8:AV→Bool
 | .junk=>false
 | _=>true
def zgz (N:Nat) (env:T AV):List (Nat×AV)→Bool
 | [] => true
 | p::l=>match Nat.blt p.1 N,AV.beq (getE env p.1) p.2,zp8 p.2 with|true,true,true=>zgz N env l|_,_,_=>false
def zbq (N:Nat):List (Nat×AV)→Bool
 | [] => true
 | p::l=>match Nat.blt p.1 N with|true=>zbq N l|false=>false
def znh (N:Nat):List Nat→Bool
 | [] => true
 | p::l=>match Nat.blt p N with|true=>znh N l|false=>false
def znE (N:Nat):List LEnd→Bool
 | [] => true
 | e::l=>match zbq N e.slots with|true=>znE N l|false=>false
def LEnt.fits (e:LEnt) (p:List Nat) (N:Nat) (env:T AV) (H:Heap):Bool:=
 match zm9 p e.p,Nat.beq N e.n with
 | false,_=>false
 | true,false=>false
 | true,true=>match zgz N env e.slots,znh N e.keep,znE N e.ends,Nat.beq H.gs e.gs with
  | true,true,true,true=>(match env.get zaS,Nat.ble N zaS,zb5 H e.rows with
   | none,true,true=>(match e.nopq with
    | 0=>true
    | _+1=>Nat.beq H.nx e.base)
   | _,_,_=>false)
  | _,_,_,_=>false
def LEnt.ent (e:LEnt) (d:LEnd):Ent:=⟨0,[],e.gs,e.base,e.nopq,zbp,d.gs⟩
def LEnt.env (e:LEnt) (d:LEnd) (N:Nat) (env:T AV):T AV:=setE d.slots (zme env e.keep (zdn N .leaf))
def LEnt.ans (e:LEnt) (N:Nat) (env:T AV) (H:Heap):List LEnd→LAns
 | [] => []
 | d::l=>(d.test,d.ex,e.env d N env,(e.ent d).heap H)::e.ans N env H l
def zqk:List LEnt→LOrc
 | [], _,_,_,_=>none
 | e::l,p,N,env,H=>match e.fits p N env H with
  | true=>some (e.ans N env H e.ends)
  | false=>zqk l p N env H
def zb6 (l:List LEnt):LOrc:=fun p N env H=>
 match p with
 | 2::_=>none
 | p=>zqk l p N env H
def zpU (ρ:Val) (l:List LEnd):Option LEnd:=zi3 ρ (l.map fun d=>(d.test,d))
def zvY (P:Program) (ρ:Val) (w0:World) (K:Nat→Prop) (g:Gho) (e:LEnt):Prop:=
 ∀ c,zbb P e.p=c→ ∀(j:J) (a:Act) (w:World) (F:Nat→Prop) (n:Nat),a.tmps.size=e.n→a.defers= []→(∀s∈e.slots,s.1<e.n∧R ρ j s.2 (a.tmps.getD s.1 undef))→(∀r∈e.rows,∀L,j r.1=some L→ ¬F L.blk∧ ∃vals,RL ρ j r.2 vals∧Row w L vals)→
  (∀ k,n≤k→j k=none)→(e.nopq≠0→n=e.base)→(∀b,F b→b<w.heap.size)→w0.heap.size≤w.heap.size→g.fact e.gs (opqs j) F w→(∀i,i<w0.heap.size→ ¬K i→w.heap[i]? =w0.heap[i]?)→
  c.wp P (fun ex a' w'=> ∃d qs F',zpU ρ e.ends=some d∧ex=exOf d.ex∧a'.tmps.size=e.n∧a'.defers= []∧(∀t∈e.keep,a'.tmps.getD t undef=a.tmps.getD t undef)∧qs.length=e.nopq∧
   (∀ s∈d.slots,R ρ (jq j n qs) s.2 (a'.tmps.getD s.1 undef))∧g.fact d.gs (opqs (jq j n qs)) F' w'∧(∀b,F' b→b<w'.heap.size∧(F b∨w.heap.size≤b))∧Mv (fun b=>F b∧(w0.heap.size≤b∨K b)) w w') a w
def zqg (P:Program) (ρ:Val) (w0:World) (K:Nat→Prop) (g:Gho):List LEnt→Prop
 | [] => True
 | e::l=>zvY P ρ w0 K g e∧zqg P ρ w0 K g l
def zaK:List (Nat×AV)→Bool
 | [] => true
 | s::l=>match s.2.small with|true=>zaK l|false=>false
def zc7:List LEnd→Bool
 | [] => true
 | d::l=>match d.test.small,zaK d.slots with|true,true=>zc7 l|_,_=>false
def ze3:List (Nat×List AV)→Bool
 | [] => true
 | r::l=>match AV.smallL r.2 with|true=>ze3 l|false=>false
theorem ze2: ∀ {l:List (Nat×List AV)},ze3 l=true→ ∀s∈l,AV.smallL s.2=true
 | [], _,s,h=>by cases h
 | p::l,hl,s,h=>by
  unfold ze3 at hl
  split at hl
  ·rename_i hb
   rcases List.mem_cons.1 h with rfl|h
   ·exact hb
   ·exact ze2 hl s h
  ·cases hl
def zaV:List LEnt→Bool
 | [] => true
 | e::l=>match zaK e.slots,zc7 e.ends,ze3 e.rows with|true,true,true=>zaV l|_,_,_=>false
theorem zb1: ∀(n:Nat) (t0:T AV) (t:Nat),zau (zdn n t0) t=if t<n then .junk else zau t0 t
 | 0,t0,t=>by rw [if_neg (by omega)];rfl
 | n+1,t0,t=>by
  unfold zdn
  rw [zb1 n,zaW]
  by_cases h:t<n
  ·rw [if_pos h,if_pos (by omega)]
  ·rw [if_neg h]
   by_cases h2:t=n
   ·rw [if_pos h2,if_pos (by omega)]
   ·rw [if_neg h2,if_neg (by omega)]
theorem zmk (env:T AV) (t:Nat):getE env t=zau env t:=rfl
theorem zd0 {env:T AV}: ∀(l:List Nat) (t0:T AV) (t:Nat),(t∈l∧zau (zme env l t0) t=zau env t)∨zau (zme env l t0) t=zau t0 t
 | [], t0,t=> .inr rfl
 | i::l,t0,t=>by
  unfold zme
  rcases zd0 (env:=env) l (t0.set i (getE env i)) t with ⟨h1,h2⟩|h
  ·exact .inl ⟨List.mem_cons_of_mem _ h1,h2⟩
  ·rw [h,zaW]
   by_cases hi:t=i
   ·rw [if_pos hi,zmk,hi];exact .inl ⟨List.mem_cons_self ..,rfl⟩
   ·rw [if_neg hi];exact .inr rfl
theorem zcn: ∀(l:List (Nat×AV)) (t0:T AV) (t:Nat),(∃v,(t,v)∈l∧zau (setE l t0) t=v)∨zau (setE l t0) t=zau t0 t
 | [], t0,t=> .inr rfl
 | p::l,t0,t=>by
  unfold setE
  rcases zcn l (t0.set p.1 p.2) t with ⟨v,h1,h2⟩|h
  ·exact .inl ⟨v,List.mem_cons_of_mem _ h1,h2⟩
  ·rw [h,zaW]
   by_cases hi:t=p.1
   ·rw [if_pos hi];exact .inl ⟨p.2,by rw [hi];exact List.mem_cons_self ..,rfl⟩
   ·rw [if_neg hi];exact .inr rfl
theorem zeE {N:Nat}: ∀ {l:List (Nat×AV)},zbq N l=true→ ∀s∈l,s.1<N
 | [], _,s,h=>by cases h
 | p::l,hl,s,h=>by
  unfold zbq at hl
  split at hl
  ·rename_i hb
   rcases List.mem_cons.1 h with rfl|h
   ·rwa [Nat.blt_eq] at hb
   ·exact zeE hl s h
  ·cases hl
theorem zip {N:Nat}: ∀ {l:List Nat},znh N l=true→ ∀s∈l,s<N
 | [], _,s,h=>by cases h
 | p::l,hl,s,h=>by
  unfold znh at hl
  split at hl
  ·rename_i hb
   rcases List.mem_cons.1 h with rfl|h
   ·rwa [Nat.blt_eq] at hb
   ·exact zip hl s h
  ·cases hl
theorem ziB {N:Nat}: ∀ {l:List LEnd},znE N l=true→ ∀d∈l,zbq N d.slots=true
 | [], _,s,h=>by cases h
 | p::l,hl,s,h=>by
  unfold znE at hl
  split at hl
  ·rename_i hb
   rcases List.mem_cons.1 h with rfl|h
   ·exact hb
   ·exact ziB hl s h
  ·cases hl
theorem zfX {N:Nat} {env:T AV}: ∀ {l:List (Nat×AV)},zgz N env l=true→ ∀s∈l,s.1<N∧zau env s.1=s.2∧s.2≠ .junk
 | [], _,s,h=>by cases h
 | p::l,hl,s,h=>by
  unfold zgz at hl
  split at hl
  ·rename_i hb hv hj
   rcases List.mem_cons.1 h with rfl|h
   ·exact ⟨by rwa [Nat.blt_eq] at hb,by rw [←zmk];exact AV.beq_eq hv,fun e=>by rw [e] at hj;cases hj⟩
   ·exact zfX hl s h
  ·cases hl
theorem zkv: ∀ {l m:List Nat},zm9 l m=true→l=m
 | [], [], _=>rfl
 | a::l,b::m,h=>by
  unfold zm9 at h
  split at h
  ·rename_i hb;rw [zam hb,zkv h]
  ·cases h
 | [], _::_,h=>by cases h
 | _::_,[],h=>by cases h
theorem zbU: ∀ {l:List (Nat×AV)},zaK l=true→ ∀s∈l,s.2.small=true
 | [], _,s,h=>by cases h
 | p::l,hl,s,h=>by
  unfold zaK at hl
  split at hl
  ·rename_i hb
   rcases List.mem_cons.1 h with rfl|h
   ·exact hb
   ·exact zbU hl s h
  ·cases hl
theorem zdu: ∀ {l:List LEnd},zc7 l=true→ ∀d∈l,d.test.small=true∧zaK d.slots=true
 | [], _,s,h=>by cases h
 | p::l,hl,s,h=>by
  unfold zc7 at hl
  split at hl
  ·rename_i hb hc
   rcases List.mem_cons.1 h with rfl|h
   ·exact ⟨hb,hc⟩
   ·exact zdu hl s h
  ·cases hl
theorem zij {ρ:Val} {α:Type} (e:SB×α) (l:List (SB×α)):zi3 ρ (e::l)=if e.1.den ρ=true then some e.2 else zi3 ρ l:=by
 obtain ⟨b,x⟩:=e
 show (match b with| .lit true=>some x|b=>if b.den ρ=true then some x else zi3 ρ l)=_
 split
 ·rfl
 ·rfl
theorem zik {ρ:Val} (e:LEnd) (l:List LEnd):zpU ρ (e::l)=if e.test.den ρ=true then some e else zpU ρ l:=zij _ _
theorem zkp {ρ:Val}: ∀ {l:List LEnd} {d:LEnd},zpU ρ l=some d→d∈l
 | [], d,h=>by cases h
 | e::l,d,h=>by
  rw [zik] at h
  split at h
  ·cases h;exact List.mem_cons_self ..
  ·exact List.mem_cons_of_mem _ (zkp h)
theorem zkq {ρ:Val} {m:Nat→Bool} {e:LEnt} {N:Nat} {env:T AV} {H:Heap}: ∀ {l:List LEnd} {d:LEnd},zc7 l=true→zpU ρ l=some d→zi3 (ρ.mark m) (e.ans N env H l)=some (d.ex,e.env d N env,(e.ent d).heap H)
 | [], d,_,h=>by cases h
 | e0::l,d,hs,h=>by
  have hs0:=(zdu hs e0 (List.mem_cons_self ..)).1
  unfold zc7 at hs
  split at hs
  case h_2=>cases hs
  rw [zik] at h
  unfold LEnt.ans
  rw [zij]
  simp only [SB.den_mark ρ m _ hs0]
  split at h
  ·rename_i ht
   cases h
   rw [if_pos ht]
  ·rename_i ht
   rw [if_neg ht]
   exact zkq hs h
theorem zoB {P:Program} {ρ:Val} {w0:World} {K:Nat→Prop} {g:Gho} (m:Nat→Bool) {l:List LEnt} (hs:zaV l=true) (h:zqg P ρ w0 K g l):zn4 P (ρ.mark m) (cxOf w0 K g) (zb6 l):=by
 refine ⟨fun _ _ _ _=>rfl,fun p N env H r c hc hr j a w hi he=> ?_⟩
 unfold zb6 at hr
 split at hr
 ·cases hr
 induction l with
 | nil=>cases hr
 | cons e l ih=>
  unfold zaV at hs
  split at hs
  case h_2=>cases hs
  rename_i h1 h2 h3
  unfold zqk at hr
  split at hr
  case h_2=>exact ih hs h.2 hr
  rename_i hf
  cases hr
  unfold LEnt.fits at hf
  split at hf
  ·cases hf
  ·cases hf
  rename_i hp hN
  have hp:=zkv hp
  have hN:=zam hN
  subst hp hN
  split at hf
  case h_2=>cases hf
  rename_i f1 f2 f3 f4
  split at hf
  case h_2=>cases hf
  rename_i f5 f6 f7
  have f4:=zam f4
  have f6:=Nat.le_of_ble_eq_true f6
  have hdf:a.defers= []:=he.dfr.none (by unfold zau;rw [f5])
  have hG:=hi.gho
  rw [f4] at hG
  obtain ⟨F,g1,g2⟩:=hG
  have hnone: ∀k,H.nx≤k→j k= .none:=fun k hk=>by
   cases hjk:j k with
   | none=>rfl
   | some L=>have:=hi.dom k L hjk;omega
  have hbase:e.nopq≠0→H.nx=e.base:=fun hn=>by
   split at hf
   ·rename_i h0;exact absurd h0 hn
   ·exact zam hf
  have hss:=zbU h1
  have hsl: ∀s∈e.slots,s.1<e.n∧R ρ j s.2 (a.tmps.getD s.1 undef):=fun s hs'=>by
   obtain ⟨q1,q2,q3⟩:=zfX f1 s hs'
   refine ⟨q1,?_⟩
   have:=he.get s.1 (by omega)
   rw [q2] at this
   exact (R_mark m (hss s hs')).1 (this.resolve_left q3)
  have hrw: ∀r∈e.rows,∀L,j r.1=some L→ ¬F L.blk∧ ∃vals,RL ρ j r.2 vals∧Row w L vals:=fun r hr L hL=>by
   have hri:=zbO f7 hr
   obtain ⟨vals,arr,e',fr,q1,q2,q3,_⟩:=hi.rowOut hL hri
   refine ⟨fun hF=> ?_,vals,(RL_mark m (ze2 h3 r hr)).1 q2,arr,e',fr,q1,q3⟩
   obtain ⟨_,_,_,_,_,_,h5,_⟩:=zd7 hri
   exact (g1 _ hF).2 ⟨r.1,L,hL,hi.qrow hL h5,rfl⟩
  refine wp_mono (h.1 c hc j a w F H.nx he.size hdf hsl hrw hnone hbase (fun b hF=>(g1 b hF).1) hi.fr.size g2 hi.fr.old) fun ex a' w' hh=> ?_
  obtain ⟨d,qs,F',e1,e2,e3,e4,e5,e6,e7,e8,e9,e10⟩:=hh
  have hd:=zkp e1
  have hns:(cxOf w0 K g).G (e.ent d).gs' (jq j H.nx qs) w':=⟨F',fun b hF'=>⟨(e9 b hF').1,fun hm=>by
   have hm:=zl1 hnone hm
   rcases (e9 b hF').2 with hF|hF
   ·exact (g1 b hF).2 hm
   ·obtain ⟨k,L,k1,k2,k3⟩:=hm
    have:=hi.blk k L k1 k2
    omega⟩,e8⟩
  obtain ⟨i1,i2⟩:=Inv.ent (e:=e.ent d) hi f4 e6 hns (e10.mono fun b hb=>⟨(g1 b hb.1).2,hb.2⟩)
  refine ⟨d.ex,e.env d e.n env,(e.ent d).heap H,jq j H.nx qs,zkq h2 e1,e2,⟨e3,f6,fun t ht=> ?_,?_⟩,i1,i2⟩
  ·unfold LEnt.env
   have hds:=(zdu h2 d hd).2
   rcases zcn d.slots (zme env e.keep (zdn e.n .leaf)) t with ⟨v,q1,q2⟩|q
   ·rw [q2]
    exact .inr ((R_mark m (zbU hds _ q1)).2 (e7 _ q1))
   ·rw [q]
    rcases zd0 (env:=env) e.keep (zdn e.n .leaf) t with ⟨q1,q2⟩|q
    ·rw [q2,e5 t q1]
     exact (he.get t ht).imp_right (·.mono i2.sub)
    ·rw [q,zb1]
     by_cases hN:t<e.n
     ·rw [if_pos hN];exact .inl rfl
     ·rw [if_neg hN,Array.getD_eq_getD_getElem?,Array.getElem?_eq_none (by omega)]
      exact .inr zcp
  ·rw [e4]
   show DR (ρ.mark m) _ (zau (e.env d e.n env) zaS) []
   have:zau (e.env d e.n env) zaS=zbp:=by
    unfold LEnt.env
    rcases zcn d.slots (zme env e.keep (zdn e.n .leaf)) zaS with ⟨v,q1,_⟩|q
    ·have:=zeE (ziB f3 d hd) _ q1
     simp only at this
     omega
    ·rw [q]
     rcases zd0 (env:=env) e.keep (zdn e.n .leaf) zaS with ⟨q1,_⟩|q
     ·have:=zip f2 _ q1
      omega
     ·rw [q,zb1,if_neg (by omega)];rfl
   rw [this]
   rfl
structure AEnt where
 t:TypeId
 s:AV
 n:Nat
 xs:List AV
 gs:Nat
 base:Nat
 nopq:Nat
 res:AV
 gs':Nat
def AEnt.ent (e:AEnt):Ent:=⟨0,[],e.gs,e.base,e.nopq,e.res,e.gs'⟩
def AEnt.fits (e:AEnt) (t:TypeId) (s:AV) (n:Nat) (xs:List AV) (H:Heap):Bool:=
 match Nat.beq t e.t,AV.beq s e.s,Nat.beq n e.n,Nat.beq H.gs e.gs with
 | true,true,true,true=>(match AV.beqL xs e.xs with
  | true=>(match e.nopq with
   | 0=>true
   | _+1=>Nat.beq H.nx e.base)
  | false=>false)
 | _,_,_,_=>false
def zbS:List AEnt→AOrc
 | [], _,_,_,_,_=>none
 | e::l,t,s,n,xs,H=>match e.fits t s n xs H with
  | true=>some (e.res,e.ent.heap H)
  | false=>zbS l t s n xs H
def zvZ (P:Program) (ρ:Val) (w0:World) (K:Nat→Prop) (g:Gho) (e:AEnt):Prop:=
 ∀ (j:J) (w:World) (F:Nat→Prop) (n:Nat) (us:Value) (bb o cap:Nat) (vals:List Value) (ty:TypeId),R ρ j e.s us→zro w bb o vals→RL ρ j e.xs vals→(∀k,n≤k→j k=none)→(e.nopq≠0→n=e.base)→(∀b,F b→b<w.heap.size)→w0.heap.size≤w.heap.size→g.fact e.gs (opqs j) F w→
  ∃ u w' qs F',(Builtin.append_ #[e.t,e.t] ty #[us,.slice (some ⟨bb,o,none⟩) e.n cap]).run P w= .ok u w'∧qs.length=e.nopq∧R ρ (jq j n qs) e.res u∧g.fact e.gs' (opqs (jq j n qs)) F' w'∧(∀b,F' b→b<w'.heap.size∧(F b∨w.heap.size≤b))∧Mv (fun b=>F b∧(w0.heap.size≤b∨K b)) w w'
def zre (P:Program) (ρ:Val) (w0:World) (K:Nat→Prop) (g:Gho):List AEnt→Prop
 | [] => True
 | e::l=>zvZ P ρ w0 K g e∧zre P ρ w0 K g l
def zaX:List AEnt→Bool
 | [] => true
 | e::l=>match e.s.small,AV.smallL e.xs,e.res.small with|true,true,true=>zaX l|_,_,_=>false
theorem zoV {P:Program} {ρ:Val} {w0:World} {K:Nat→Prop} {g:Gho} (m:Nat→Bool) {l:List AEnt} (hs:zaX l=true) (h:zre P ρ w0 K g l):zrp P (ρ.mark m) (cxOf w0 K g) (zbS l):=by
 intro t s n xs H r hr k hk j w us bb o cap vals ty hi hus hv hxs
 induction l with
 | nil=>cases hr
 | cons e l ih=>
  unfold zaX at hs
  split at hs
  case h_2=>cases hs
  rename_i h1 h2 h3
  unfold zbS at hr
  split at hr
  case h_2=>exact ih hs h.2 hr
  rename_i hf
  cases hr
  unfold AEnt.fits at hf
  split at hf
  case h_2=>cases hf
  rename_i f1 f2 f3 f4
  split at hf
  case h_2=>cases hf
  rename_i f5
  have f1:=zam f1
  have f2:=AV.beq_eq f2
  have f3:=zam f3
  have f4:=zam f4
  have f5:=AV.beqL_eq f5
  subst f1 f2 f3 f5
  have hG:=hi.gho
  rw [f4] at hG
  obtain ⟨F,g1,g2⟩:=hG
  have hnone: ∀k,H.nx≤k→j k= .none:=fun k hk=>by
   cases hjk:j k with
   | none=>rfl
   | some L=>have:=hi.dom k L hjk;omega
  have hbase:e.nopq≠0→H.nx=e.base:=fun hn=>by
   split at hf
   ·rename_i h0;exact absurd h0 hn
   ·exact zam hf
  obtain ⟨u,w',qs,F',e1,e2,e3,e4,e5,e6⟩:=h.1 j w F H.nx us bb o cap vals ty ((R_mark m h1).1 hus) hv ((RL_mark m h2).1 hxs) hnone hbase (fun b hF=>(g1 b hF).1) hi.fr.size g2
  have hns:(cxOf w0 K g).G e.ent.gs' (jq j H.nx qs) w':=⟨F',fun b hF'=>⟨(e5 b hF').1,fun hm=>by
   have hm:=zl1 hnone hm
   rcases (e5 b hF').2 with hF|hF
   ·exact (g1 b hF).2 hm
   ·obtain ⟨k,L,k1,k2,k3⟩:=hm
    have:=hi.blk k L k1 k2
    omega⟩,e4⟩
  obtain ⟨i1,i2⟩:=Inv.ent (e:=e.ent) hi f4 e2 hns (e6.mono fun b hb=>⟨(g1 b hb.1).2,hb.2⟩)
  exact ⟨u,w',e1,e.res,e.ent.heap H,jq j H.nx qs,(R_mark m h3).2 e3,i1,i2,hk⟩
structure zft where
 ex:Ex
 slots:List Nat
 dfr:Option AV
 leaf:Leaf
def exEq:Ex→Ex→Bool
 | .normal,.normal=>true
 | .ret,.ret=>true
 | .exit a,.exit b=>Nat.beq a b
 | _,_=>false
def zqD (env:T AV):List Nat→List AV
 | [] => []
 | t::l=>getE env t::zqD env l
def zix (env:T AV):List Nat→Bool
 | [] => true
 | t::l=>match Nat.blt t zaS,zp8 (getE env t) with|true,true=>zix env l|_,_=>false
def znJ (env:T AV) (d:Option AV):Bool:=
 match env.get zaS,d with
 | none,none=>true
 | some v,some u=>AV.beq v u
 | _,_=>false
def DRo (ρ:Val) (j:J):Option AV→List Deferred→Prop
 | none,ds=>ds= []
 | some v,ds=>DR ρ j v ds
def zbw:Option AV→Bool
 | none=>true
 | some v=>v.small
def zbA:List zft→Nat→KC
  | [], _, _, _, _ => .bad 95 ""
  | l::r,i,ex,env,H=>match exEq ex l.ex,znJ env l.dfr,zix env l.slots with
    | true,true,true=>(match l.leaf.fits (.tup (zqD env l.slots)) H with
      | true => zdA (1000000 + i) fun n => .ite (.var n) .ok (.bad 96 "")
      | false=>zbA r (Nat.succ i) ex env H)
    | _,_,_=>zbA r (Nat.succ i) ex env H
def envS (N:Nat) (slots:List (Nat×AV)) (d:Option AV):T AV:=
 match d with
 | none=>setE slots (zdn N .leaf)
 | some v=>(setE slots (zdn N .leaf)).set zaS v
def zaI:List zft→Bool
 | [] => true
 | l::r=>match zaC [l.leaf],zbw l.dfr with|true,true=>zaI r|_,_=>false
theorem zd4: ∀ {ls:List zft} {i:Nat} {l:zft},zaI ls=true→ls[i]? =some l→zaC [l.leaf]=true∧zbw l.dfr=true
 | [], _,_,_,h=>by cases h
 | x::r,i,l,hx,h=>by
  unfold zaI at hx
  split at hx
  case h_2=>cases hx
  rename_i h1 h2
  cases i with
  | zero=>cases h;exact ⟨h1,h2⟩
  | succ i=>exact zd4 hx (by simpa using h)
theorem zuz {a b:Ex} (h:exEq a b=true):a=b:=by
 cases a<;>cases b<;>simp only [exEq] at h<;>first|rfl|cases h|rw [zam h]
theorem zhJ {ρ:Val} {ex:Ex} {env:T AV} {H:Heap}: ∀ {ls:List zft} {i:Nat},Ob.den ρ (zbA ls i ex env H)→ ∃k l,ls[k]? =some l∧ex=l.ex∧znJ env l.dfr=true∧zix env l.slots=true∧l.leaf.fits (.tup (zqD env l.slots)) H=true∧ρ.b (1000000+(i+k))=true
 | [], i,h=>h.elim
 | l::r,i,h=>by
  unfold zbA at h
  have later:Ob.den ρ (zbA r (Nat.succ i) ex env H)→ ∃k l',(l::r)[k]? =some l'∧ex=l'.ex∧znJ env l'.dfr=true∧zix env l'.slots=true∧l'.leaf.fits (.tup (zqD env l'.slots)) H=true∧ρ.b (1000000+(i+k))=true:=fun h=>by
   obtain ⟨k,l',h1,h2,h3,h4,h5,h6⟩:=zhJ h
   exact ⟨k+1,l',h1,h2,h3,h4,h5,by rw [show i+(k+1)=Nat.succ i+k by omega];exact h6⟩
  split at h
  ·rename_i e1 e2 e3
   split at h
   ·rename_i hf
    rw [zbM] at h
    refine ⟨0,l,rfl,zuz e1,e2,e3,hf,?_⟩
    cases hb:ρ.b (1000000+(i+0)) with
    | true=>rfl
    | false=>exact (h.2 hb).elim
   ·exact later h
  ·exact later h
theorem zqC {ρ:Val} {j:J} {N:Nat} {env:T AV} {a:Act} (he:ER ρ j N env a): ∀ {l:List Nat},zix env l=true→RL ρ j (zqD env l) (l.map fun t=>a.tmps.getD t undef)
 | [], _=>RL.nil
 | t::l,h=>by
  unfold zix at h
  split at h
  case h_2=>cases h
  rename_i h1 h2
  rw [Nat.blt_eq] at h1
  exact zav ((he.get t (by omega)).resolve_left fun e=>by rw [zmk,e] at h2;cases h2) (zqC he h)
theorem zk4 {N:Nat} {slots:List (Nat×AV)} (hle:N≤zaS) (hlt:zbq N slots=true):zau (setE slots (zdn N .leaf)) zaS=zbp:=by
 rcases zcn slots (zdn N .leaf) zaS with ⟨v,q1,_⟩|q
 ·have:=zeE hlt _ q1
  simp only at this
  omega
 ·rw [q,zb1,if_neg (by omega)];rfl
theorem zuE {ρ:Val} {j:J} {N:Nat} {slots:List (Nat×AV)} {d:Option AV} {a:Act} (hN:a.tmps.size=N) (hd:DRo ρ j d a.defers) (hle:N≤zaS) (hlt:zbq N slots=true) (ha: ∀s∈slots,R ρ j s.2 (a.tmps.getD s.1 undef)):ER ρ j N (envS N slots d) a:=by
 have get: ∀t,t≠zaS→zau (setE slots (zdn N .leaf)) t= .junk∨R ρ j (zau (setE slots (zdn N .leaf)) t) (a.tmps.getD t undef):=fun t ht=>by
  rcases zcn slots (zdn N .leaf) t with ⟨v,q1,q2⟩|q
  ·rw [q2];exact .inr (ha _ q1)
  ·rw [q,zb1]
   by_cases h:t<N
   ·rw [if_pos h];exact .inl rfl
   ·rw [if_neg h,Array.getD_eq_getD_getElem?,Array.getElem?_eq_none (by omega)]
    exact .inr zcp
 cases d with
 | none=>
  have hd:a.defers= []:=hd
  refine ⟨hN,hle,get,?_⟩
  show DR ρ j (zau (setE slots (zdn N .leaf)) zaS) _
  rw [hd,zk4 hle hlt]
  rfl
 | some v=>
  refine ⟨hN,hle,fun t ht=> ?_,?_⟩
  ·show zau ((setE slots (zdn N .leaf)).set zaS v) t= .junk∨R ρ j (zau ((setE slots (zdn N .leaf)).set zaS v) t) _
   rw [zaW,if_neg ht]
   exact get t ht
  ·show DR ρ j (zau ((setE slots (zdn N .leaf)).set zaS v) zaS) _
   rw [zaW,if_pos rfl]
   exact hd
theorem zmC {ρ:Val} {j:J} (m:Nat→Bool): ∀ {ds:List Deferred} {v:AV},v.small=true→(DR (ρ.mark m) j v ds↔DR ρ j v ds)
 | [], _,_=>Iff.rfl
 | _::ds,v,hs=>by
  constructor
  ·rintro ⟨g,args,rest,cap,rfl,e2,e3,e4⟩
   unfold AV.small AV.smallL at hs
   split at hs
   case h_2=>cases hs
   rename_i h1
   unfold AV.small at h1
   split at h1
   case h_2=>cases h1
   unfold AV.smallL at hs
   split at hs
   case h_2=>cases hs
   rename_i h2
   exact ⟨g,args,rest,cap,rfl,e2,(RL_mark m h1).1 e3,(zmC m h2).1 e4⟩
  ·rintro ⟨g,args,rest,cap,rfl,e2,e3,e4⟩
   unfold AV.small AV.smallL at hs
   split at hs
   case h_2=>cases hs
   rename_i h1
   unfold AV.small at h1
   split at h1
   case h_2=>cases h1
   unfold AV.smallL at hs
   split at hs
   case h_2=>cases hs
   rename_i h2
   exact ⟨g,args,rest,cap,rfl,e2,(RL_mark m h1).2 e3,(zmC m h2).2 e4⟩
theorem zn6 {ρ:Val} {j:J} (m:Nat→Bool) {ds:List Deferred} {v:Option AV} (hs:zbw v=true):DRo (ρ.mark m) j v ds↔DRo ρ j v ds:=by
 cases v with
 | none=>exact Iff.rfl
 | some v=>exact zmC m hs
theorem zbX {P:Program} {ρ:Val} {w:World} {K:Nat→Prop} {g:Gho} {bl:List (Nat×Nat)} {shs:List Sh} {gs:Nat} {ents:List Ent} {lents:List LEnt} {aents:List AEnt} {n:Nat} {p:List Nat} {N:Nat} {slots:List (Nat×AV)} {dfr:Option AV} {ls:List zft} {asm:List (SB×Bool)} {ps:List (List (SB×Bool)×Nat)}
  (hmo:P.follows .mixedOrders=true)
  (h:(evL P (zbf ents) (zb6 lents) (zbS aents) n (.code (zbb P p) p N (envS N slots dfr) (zba gs shs) (zbA ls 0))).ways asm=some ps)
  (hs:(zaJ shs&&zay ents&&zaV lents&&zaX aents&&zaK slots&&zaI ls&&zbq N slots&&Nat.ble N zaS&&zbw dfr)=true)
  (hK: ∀b,K b→b<w.heap.size) (ho:ShsOk ρ (jOf bl) (cxOf w K g) bl shs) (hap:apart bl shs) (hG:g.G gs (jOf bl) w) (he:znB P ρ w K g ents) (hl:zqg P ρ w K g lents) (haa:zre P ρ w K g aents)
  {a:Act} (hN:a.tmps.size=N) (hd:DRo ρ (jOf bl) dfr a.defers) (ha: ∀s∈slots,R ρ (jOf bl) s.2 (a.tmps.getD s.1 undef)) (ht:Told ρ asm):
  (zbb P p).wp P (fun ex a' w'=> ∃q∈ps,Told ρ q.1∧ ∃l,ls[q.2]? =some l∧ex=exOf l.ex∧a'.tmps.size=N∧ ∃j,DRo ρ j l.dfr a'.defers∧zoX ρ w K g bl l.leaf (.returned (.tuple (l.slots.map fun t=>a'.tmps.getD t undef).toArray)) w' j) a w:=by
 simp only [Bool.and_eq_true] at hs
 obtain ⟨⟨⟨⟨⟨⟨⟨⟨s1,s2⟩,s5⟩,s9⟩,s3⟩,s4⟩,s6⟩,s7⟩,s8⟩:=hs
 have s7:=Nat.le_of_ble_eq_true s7
 unfold Ob.ways at h
 cases hps:(evL P (zbf ents) (zb6 lents) (zbS aents) n (.code (zbb P p) p N (envS N slots dfr) (zba gs shs) (zbA ls 0))).paths asm with
 | none=>rw [hps] at h;cases h
 | some ps0=>
 rw [hps] at h
 cases h
 have h:=hps
 classical
 let m:Nat→Bool:=fun k=>decide (∃p∈ps0,1000000+p.2=k∧Told ρ p.1)
 have hm: ∀p∈ps0,Told ρ p.1→m (1000000+p.2)=true:=fun p hp ht=>by
  show decide _=true
  exact decide_eq_true ⟨p,hp,rfl,ht⟩
 have hdn:=paths_den hm h (fun q hq=>hq) ht
 have hg:=zjx (w0:=cxOf w K g) (zk5 (zeN m s2 he)) (zoB m s5 hl) (zoV m s9 haa) (fun n rec hg=>zkn hmo hg) n
 refine wp_mono (hg.code _ _ _ _ _ _ rfl hdn (jOf bl) a w (zkU hK (zfS m s1 ho) hap hG) (zuE hN ((zn6 m s8).2 hd) s7 s6 fun s hs=>(R_mark m (zbU s3 s hs)).2 (ha s hs))) fun ex a' w' hh=> ?_
 obtain ⟨x,env',H',j',rfl,h1,h2,h3,h4⟩:=hh
 obtain ⟨k,l,h5,h6,h7,h8,h9,h10⟩:=zhJ h4
 have h10:(if 1000000+(0+k)<1000000 then ρ.b (1000000+(0+k)) else m (1000000+(0+k)))=true:=h10
 rw [if_neg (by omega)] at h10
 obtain ⟨q,hq,hk,hto⟩:=of_decide_eq_true h10
 have:q.2=k:=by omega
 subst this
 obtain ⟨y1,y2⟩:=zd4 s4 h5
 obtain ⟨x1,x2,x3,x4⟩:=zcK (i:=0) y1 rfl
 refine ⟨(q.1.drop asm.length,q.2),zeO hq,fun c hc=>hto c (List.mem_of_mem_drop hc),l,h5,by rw [h6],h1.size,j',(zn6 m y2).1 ?_,znF x1 x2 x3 x4 (zvX (zqC h1 h8)) h2 h3 h9⟩
 have hdf:=h1.dfr
 unfold znJ at h7
 unfold zau at hdf
 split at h7
 ·rename_i e1 e2
  rw [e1] at hdf
  rw [e2]
  exact hdf.none rfl
 ·rename_i v u e1 e2
  rw [e1] at hdf
  rw [e2,←AV.beq_eq h7]
  exact hdf
 ·cases h7
theorem zhi {P:Program} {c:Code} {Q:Exit→Act→World→Prop} {α:Type} (I:α→Act→World→Prop) (μ:α→Nat)
  (h: ∀x a w,I x a w→c.wp P (fun ex a' w'=>match ex with| .normal=> ∃x',μ x'<μ x∧I x' a' w'|ex=>Q ex a' w') a w) (x:α) (a:Act) (w:World) (hI:I x a w):(Code.loop c).wp P Q a w:=by
 have key: ∀n x a w,μ x<n→I x a w→Code.rounds P c Q n a w:=by
  intro n
  induction n with
  | zero=>intro x a w hn;omega
  | succ n ih=>
   intro x a w hn hI
   refine wp_mono (h x a w hI) fun ex a' w' hh=> ?_
   cases ex with
   | normal=>
    obtain ⟨x',h1,h2⟩:=hh
    exact ih x' a' w' (by omega) h2
   | _=>exact hh
 exact wp_loop_rounds (μ x+1) (key (μ x+1) x a w (Nat.lt_succ_self _) hI)
end Go.Dw
namespace Go.Proofs
open Go.Dw Go.RowKit
def Tryz.ckL (l:List (SE×Nat)):AV:= .sx 0 (lnv 0) 3 l
def Tryz.ckD:AV:= .tup [.func 150 [] [.ptr 1 0,.ptr 2 0],.tup []]
def Tryz.zfO (k:SE) (l:List (SE×Nat)):List (Nat×AV):= [(0,ckL l),(2,.ptr 1 0),(3,.ptr 2 0),(10,ckL l),(11,.int .i64 (lnv 0)),(12,.int .i64 k)]
def Tryz.zsS (e:SE) (r:List Sh):List Sh:= .own [.int .i64 e]:: .own [.int .u64 (u64v 2)]::r
def Tryz.ckEl (a n b:Nat):Sh:= .ro [.int .u64 (u64v a),.int .u32 (u32v n),.bool (.var b)]
end Go.Proofs
namespace Go.Proofs
open Go.Dw
def Tryz.zlg:List Ent:= []
def Tryz.znX:List Sh:=zsS (.lit 0) [ckEl 3 4 0]
def Tryz.zes:List (Nat×AV):=zfO (.lit 0) [(.lit 0,3)]
def Tryz.ziJ:List LEnt:= []
def Tryz.ziK:List AEnt:= []
def Tryz.znY:Option AV:=some ckD
def Tryz.zsQ:List (SB×Bool):= []
def Tryz.zq1:List zft:= [
 ⟨.ret,[2],(some (.tup [.func 150 [] [.ptr 1 0,.ptr 2 0],.tup []])),⟨.tup [.ptr 1 0],[(1,[.int .i64 (.lit 2)]),(2,[.int .u64 (u64v 2)])],[],0,[1,2]⟩⟩,
 ⟨.normal,[0,2,3,10,11,12],(some (.tup [.func 150 [] [.ptr 1 0,.ptr 2 0],.tup []])),⟨.tup [.sx 0 ((lnv 0)) 3 [((.lit 0),3)],.ptr 1 0,.ptr 2 0,.sx 0 ((lnv 0)) 3 [((.lit 0),3)],.int .i64 (lnv 0),.int .i64 (.lit 1)],[(1,[.int .i64 (.lit 0)]),(2,[.int .u64 (.bin .add .u64 (u64v 2) (u32v 4))])],[],0,[1,2]⟩⟩,
 ⟨(.exit 0),[2],(some (.tup [.func 150 [] [.ptr 1 0,.ptr 2 0],.tup []])),⟨.tup [.ptr 1 0],[(1,[.int .i64 (.lit 0)]),(2,[.int .u64 (u64v 2)])],[],0,[1,2]⟩⟩]
def Tryz.zq0:List (List (SB×Bool)×Nat):= [
 ([((.cmp .lss (.lit 0) (lnv 0)),true),((.cmp .lss (u32v 4) (.lit 1)),true)],0),
 ([((.cmp .lss (.lit 0) (lnv 0)),true),((.cmp .lss (u32v 4) (.lit 1)),false),((.cmp .gtr (.bin .sub .u64 (u32v 4) (.lit 1)) (.bin .sub .u64 (.lit 18446744073709551615) (u64v 3))),true)],0),
 ([((.cmp .lss (.lit 0) (lnv 0)),true),((.cmp .lss (u32v 4) (.lit 1)),false),((.cmp .gtr (.bin .sub .u64 (u32v 4) (.lit 1)) (.bin .sub .u64 (.lit 18446744073709551615) (u64v 3))),false)],1),
 ([((.cmp .lss (.lit 0) (lnv 0)),false)],2)]
theorem Tryz.zsP:(evL prog (zbf zlg) (zb6 ziJ) (zbS ziK) 100000 (.code (zbb prog [0,0,1,0,1,1,1,1,106]) [0,0,1,0,1,1,1,1,106] 53 (envS 53 zes znY) (zba 0 znX) (zbA zq1 0))).ways zsQ=some zq0:=by kernel_rfl
theorem Tryz.zuT:(zaJ znX&&zay zlg&&zaV ziJ&&zaX ziK&&zaK zes&&zaI zq1&&zbq 53 zes&&Nat.ble 53 zaS&&zbw znY)=true:=by kernel_rfl
def Tryz.zlf:List Ent:= []
def Tryz.znV:List Sh:=zsS (.lit 0) [ckEl 3 4 0,ckEl 5 6 1]
def Tryz.zer:List (Nat×AV):=zfO (lnv 1) [(lnv 1,3),(.bin .sub .i64 (lnv 1) (.lit 1),4)]
def Tryz.ziH:List LEnt:= []
def Tryz.ziI:List AEnt:= []
def Tryz.znW:Option AV:=some ckD
def Tryz.zsO:List (SB×Bool):= [(.cmp .lss (lnv 1) (lnv 0),true),(.cmp .gtr (lnv 1) (.lit 0),true)]
def Tryz.zqZ:List zft:= [
 ⟨.ret,[2],(some (.tup [.func 150 [] [.ptr 1 0,.ptr 2 0],.tup []])),⟨.tup [.ptr 1 0],[(1,[.int .i64 (.lit 2)]),(2,[.int .u64 (u64v 2)])],[],0,[1,2]⟩⟩,
 ⟨.normal,[0,2,3,10,11,12],(some (.tup [.func 150 [] [.ptr 1 0,.ptr 2 0],.tup []])),⟨.tup [.sx 0 ((lnv 0)) 3 [((lnv 1),3),((.bin .sub .i64 (lnv 1) (.lit 1)),4)],.ptr 1 0,.ptr 2 0,.sx 0 ((lnv 0)) 3 [((lnv 1),3),((.bin .sub .i64 (lnv 1) (.lit 1)),4)],.int .i64 (lnv 0),.int .i64 (.bin .add .i64 (lnv 1) (.lit 1))],[(1,[.int .i64 (.lit 0)]),(2,[.int .u64 (.bin .add .u64 (u64v 2) (u32v 4))])],[],0,[1,2]⟩⟩]
def Tryz.zqY:List (List (SB×Bool)×Nat):= [
 ([((.cmp .lss (u32v 4) (.lit 1)),true)],0),
 ([((.cmp .lss (u32v 4) (.lit 1)),false),((.cmp .gtr (.bin .sub .u64 (u32v 4) (.lit 1)) (.bin .sub .u64 (.lit 18446744073709551615) (u64v 3))),true)],0),
 ([((.cmp .lss (u32v 4) (.lit 1)),false),((.cmp .gtr (.bin .sub .u64 (u32v 4) (.lit 1)) (.bin .sub .u64 (.lit 18446744073709551615) (u64v 3))),false),(.var 1,true),(.var 0,false)],0),
 ([((.cmp .lss (u32v 4) (.lit 1)),false),((.cmp .gtr (.bin .sub .u64 (u32v 4) (.lit 1)) (.bin .sub .u64 (.lit 18446744073709551615) (u64v 3))),false),(.var 1,true),(.var 0,true)],1),
 ([((.cmp .lss (u32v 4) (.lit 1)),false),((.cmp .gtr (.bin .sub .u64 (u32v 4) (.lit 1)) (.bin .sub .u64 (.lit 18446744073709551615) (u64v 3))),false),(.var 1,false)],1)]
theorem Tryz.zsN:(evL prog (zbf zlf) (zb6 ziH) (zbS ziI) 100000 (.code (zbb prog [0,0,1,0,1,1,1,1,106]) [0,0,1,0,1,1,1,1,106] 53 (envS 53 zer znW) (zba 0 znV) (zbA zqZ 0))).ways zsO=some zqY:=by kernel_rfl
theorem Tryz.zuS:(zaJ znV&&zay zlf&&zaV ziH&&zaX ziI&&zaK zer&&zaI zqZ&&zbq 53 zer&&Nat.ble 53 zaS&&zbw znW)=true:=by kernel_rfl
def Tryz.zle:List Ent:= []
def Tryz.znT:List Sh:=zsS (.lit 0) []
def Tryz.zeq:List (Nat×AV):=zfO (lnv 1) []
def Tryz.ziF:List LEnt:= []
def Tryz.ziG:List AEnt:= []
def Tryz.znU:Option AV:=some ckD
def Tryz.zsM:List (SB×Bool):= [(.cmp .lss (lnv 1) (lnv 0),false)]
def Tryz.zqX:List zft:= [
 ⟨(.exit 0),[2],(some (.tup [.func 150 [] [.ptr 1 0,.ptr 2 0],.tup []])),⟨.tup [.ptr 1 0],[(1,[.int .i64 (.lit 0)]),(2,[.int .u64 (u64v 2)])],[],0,[1,2]⟩⟩]
def Tryz.zqW:List (List (SB×Bool)×Nat):= [
 ([], 0)]
theorem Tryz.zsL:(evL prog (zbf zle) (zb6 ziF) (zbS ziG) 100000 (.code (zbb prog [0,0,1,0,1,1,1,1,106]) [0,0,1,0,1,1,1,1,106] 53 (envS 53 zeq znU) (zba 0 znT) (zbA zqX 0))).ways zsM=some zqW:=by kernel_rfl
theorem Tryz.zuR:(zaJ znT&&zay zle&&zaV ziF&&zaX ziG&&zaK zeq&&zaI zqX&&zbq 53 zeq&&Nat.ble 53 zaS&&zbw znU)=true:=by kernel_rfl
def Tryz.znS:List Ent:= []
def Tryz.zqU:List Sh:=zsS (.lit 0) []
def Tryz.zfq:List (Nat×AV):= [(2,.ptr 1 0)]
def Tryz.zlc:List LEnt:= []
def Tryz.zld:List AEnt:= []
def Tryz.zqV:Option AV:=some ckD
def Tryz.zuQ:List (SB×Bool):= []
def Tryz.ztp:List zft:= [
 ⟨.ret,[2],(some (.tup [.func 150 [] [.ptr 1 0,.ptr 2 0],.tup []])),⟨.tup [.ptr 1 0],[(1,[.int .i64 (.lit 0)]),(2,[.int .u64 (u64v 2)])],[],0,[1,2]⟩⟩]
def Tryz.zto:List (List (SB×Bool)×Nat):= [
 ([], 0)]
theorem Tryz.zuP:(evL prog (zbf znS) (zb6 zlc) (zbS zld) 100000 (.code (zbb prog [1,1,1,1,1,106]) [1,1,1,1,1,106] 53 (envS 53 zfq zqV) (zba 0 zqU) (zbA ztp 0))).ways zuQ=some zto:=by kernel_rfl
theorem Tryz.zvE:(zaJ zqU&&zay znS&&zaV zlc&&zaX zld&&zaK zfq&&zaI ztp&&zbq 53 zfq&&Nat.ble 53 zaS&&zbw zqV)=true:=by kernel_rfl
open Go.RowKit
theorem Tryz.zfY {w:World} {S:Nat} {ρ:Val} {j:J} {K:Nat→Prop} {g:Gho} {row:List AV} {vals:List Value} (h:Own w S vals) (hr:RL ρ j row vals) (hK:K S):ShOk ρ j (cxOf w K g) (S,0) (.own row):=by
 obtain ⟨arr,e,h1,h2⟩:=h
 exact ⟨hK,rfl,vals,arr,e,h1,hr,h2⟩
theorem Tryz.SegV.none {A:Nat→Prop} {w:World}:SegV A w (.slice none 0 0) []:=⟨Option.none,0,rfl,fun _ h=>(by cases h),Or.inl rfl⟩
def Tryz.zax (pw:Bool) (sum:Int):List Sg→Int
 | [] => if 4294967296≤sum then 2 else 0
 | x::r=>if x.len<1∨18446744073709551615-x.at1<x.len-1∨(pw=true∧x.wr=false) then 2 else zax x.wr (sum+x.len) r
def Tryz.zaU (l:List Sg):Int:=if 64<l.length then 3 else zax false 0 l
theorem Tryz.zaD {P:Program} {c c':Code} {Q:Exit→Act→World→Prop} {a:Act} {w:World} (e:c=c') (h:c'.wp P Q a w):c.wp P Q a w:=e▸h
structure Tryz.CkI (l:List Sg) (sa:Option Addr) (c E C:Nat) (w0:World) (k:Nat) (a:Act) (w:World):Prop where
 kl:k≤l.length
 size:a.tmps.size=53
 s0:a.tmps.getD 0 undef= .slice sa l.length c
 s2:a.tmps.getD 2 undef= .pointer (some ⟨E,0,none⟩)
 s3:a.tmps.getD 3 undef= .pointer (some ⟨C,0,none⟩)
 s10:a.tmps.getD 10 undef= .slice sa l.length c
 s11:a.tmps.getD 11 undef= .int .i64 l.length
 s12:a.tmps.getD 12 undef= .int .i64 k
 dfr: ∃d,a.defers= [d]∧ ∃args cap,d.target= .fn (.func 150) cap∧d.args=args∧(args++cap).toList= [.pointer (some ⟨E,0,none⟩),.pointer (some ⟨C,0,none⟩)]
 mv:Dw.Mv (fun b=>b=E∨b=C) w0 w
 sum: ∃pw s,Own w E [.int .i64 0]∧Own w C [.int .u64 s]∧0≤s∧s≤k*4294967296∧zax pw s (l.drop k)=zax false 0 l∧(k=0→pw=false)∧(∀i,k=i+1→ ∃h:i<l.length,pw=l[i].wr)
def Tryz.zbo (n k s:Int) (x y:Sg) (sl:Value):Val:=vof [n,k,s,x.at1,x.len,y.at1,y.len] [x.wr,y.wr] [sl]
theorem Tryz.zgg {ρ:Val} {j:J} {E C:Nat} {ds:List Deferred} (h:DRo ρ j (some ckD) ds) (h1:j 1=some ⟨E,0,0,none⟩) (h2:j 2=some ⟨C,0,0,none⟩):
  ∃ d,ds= [d]∧ ∃args cap,d.target= .fn (.func 150) cap∧d.args=args∧(args++cap).toList= [.pointer (some ⟨E,0,none⟩),.pointer (some ⟨C,0,none⟩)]:=by
 cases ds with
 | nil=>cases h
 | cons d ds=>
  obtain ⟨g,args,rest,cap,e1,e2,e3,e4⟩:=h
  unfold ckD at e1
  cases e1
  cases ds with
  | cons d' ds'=>obtain ⟨_,_,_,_,e,_⟩:=e4;cases e
  | nil=>
   refine ⟨d,rfl,d.args,cap,e2,rfl,?_⟩
   obtain ⟨v1,m1,q1,⟨L1,r1,rfl⟩,v2,m2,rfl,⟨L2,r2,rfl⟩,q3⟩:=e3
   rw [h1] at r1;cases r1
   rw [h2] at r2;cases r2
   have q3:m2= []:=q3
   rw [q1,q3]
theorem Tryz.ck_dfr' {ρ:Val} {j:J} {E C:Nat} {ds:List Deferred} (h1:j 1=some ⟨E,0,0,none⟩) (h2:j 2=some ⟨C,0,0,none⟩)
  (h: ∃d,ds= [d]∧ ∃args cap,d.target= .fn (.func 150) cap∧d.args=args∧(args++cap).toList= [.pointer (some ⟨E,0,none⟩),.pointer (some ⟨C,0,none⟩)]):DRo ρ j (some ckD) ds:=by
 obtain ⟨d,rfl,args,cap,e1,rfl,e3⟩:=h
 exact ⟨_,_,_,cap,rfl,e1,by rw [e3];exact zav (zjN h1) (zav (zjN h2) RL.nil),rfl⟩
theorem Tryz.zj7 {w:World} {R o:Nat} {vs:List Value} (h:w.rangeAt R o vs) (h0:vs≠ []): ∃(arr:Array Value) (e:TypeId) (fr:Nat×Nat),w.heap[R]? =some (.cells arr e fr)∧o+vs.length≤arr.size∧ ∀(i:Nat) (y:Value),vs[i]? =some y→arr[o+i]? =some y:=by
 have hc: ∀(i:Nat) (y:Value),vs[i]? =some y→ ∃arr e fr,w.heap[R]? =some (.cells arr e fr)∧arr[o+i]? =some y:=fun i y hy=>by
  have:=h i y hy
  unfold World.cell? at this
  split at this
  ·rename_i arr e fr he
   exact ⟨arr,e,fr,he,this⟩
  ·cases this
 obtain ⟨y0,hy0⟩: ∃y,vs[0]? =some y:=⟨vs[0]'(List.length_pos_iff.2 h0),List.getElem?_eq_getElem (List.length_pos_iff.2 h0)⟩
 obtain ⟨arr,e,fr,he,_⟩:=hc 0 y0 hy0
 refine ⟨arr,e,fr,he,?_,fun i y hy=> ?_⟩
 ·have hl:vs.length-1<vs.length:=by have:=List.length_pos_iff.2 h0;omega
  obtain ⟨arr',e',fr',he',hy'⟩:=hc (vs.length-1) _ (List.getElem?_eq_getElem hl)
  rw [he] at he';cases he'
  have:=(Array.getElem?_eq_some_iff.1 hy').1
  omega
 ·obtain ⟨arr',e',fr',he',hy'⟩:=hc i y hy
  rw [he] at he';cases he'
  exact hy'
theorem Tryz.zdd {w:World} {X o:Nat} {ρ:Val} {j:J} {K:Nat→Prop} {g:Gho} {row:List AV} {vals:List Value} (h:w.rangeAt X o vals) (h0:vals≠ []) (hr:RL ρ j row vals) (hK: ¬K X):ShOk ρ j (cxOf w K g) (X,o) (.ro row):=by
 obtain ⟨arr,e,fr,h1,h2,h3⟩:=zj7 h h0
 exact ⟨hK,vals,arr,e,fr,h1,hr,by rw [←RL.length hr];exact h2,h3⟩
structure Tryz.CkO (E C:Nat) (w0:World) (e s:Int) (a:Act) (w:World):Prop where
 size:a.tmps.size=53
 s2:a.tmps.getD 2 undef= .pointer (some ⟨E,0,none⟩)
 dfr: ∃d,a.defers= [d]∧ ∃args cap,d.target= .fn (.func 150) cap∧d.args=args∧(args++cap).toList= [.pointer (some ⟨E,0,none⟩),.pointer (some ⟨C,0,none⟩)]
 mv:Dw.Mv (fun b=>b=E∨b=C) w0 w
 oE:Own w E [.int .i64 e]
 oC:Own w C [.int .u64 s]
theorem Tryz.zbd {ρ:Val} {lc:Nat→Dw.Loc} {L:List Value} {vs:List AV} (h:Ending.returned (.tuple L.toArray)= .returned ((AV.tup vs).val ρ lc)):L=AV.valL ρ lc vs:=by
 injection h with h
 unfold AV.val at h
 injection h with h
 simpa using congrArg Array.toList h
theorem Tryz.zsR {l:List Sg} {sa:Option Addr} {c E C:Nat} {w0:World} {k:Nat} {a:Act} {w:World} (h:CkI l sa c E C w0 k a w) (hl:l.length≤64) (hok: ∀x∈l,x.ok) (hne:E≠C) (hE:E<w0.heap.size) (hC:C<w0.heap.size)
    (hr:l= []∨ ∃R o,sa=some ⟨R,o,none⟩∧R≠E∧R≠C∧w0.rangeAt R o (zan l)):
    (zbb prog [0,0,1,0,1,1,1,1,106]).wp prog (fun ex a' w'=>match ex with
      | .normal=>k<l.length∧CkI l sa c E C w0 (k+1) a' w'
      | ex=>(ex= .ret∧zax false 0 l=2∧ ∃s,CkO E C w0 2 s a' w')∨(ex= .exit 0∧ ∃s,0≤s∧s<18446744073709551616∧zax false 0 l=(if 4294967296≤s then 2 else 0)∧CkO E C w0 0 s a' w')) a w:=by
  obtain ⟨kl,size,s0,s2,s3,s10,s11,s12,dfr,mv,pw,s,oE,oC,hs0,hs1,hsw,hp0,hp1⟩:=h
  have hEw:E<w.heap.size:=zkw oE
  have hCw:C<w.heap.size:=zkw oC
  have hK: ∀b,(b=E∨b=C)→b<w.heap.size:=fun b hb=>by rcases hb with rfl|rfl<;>assumption
  by_cases hkl:k<l.length
  · rcases hr with h0|⟨R,o,rfl,hRE,hRC,hr⟩
    · rw [h0] at hkl;simp at hkl
    have hRw0:=zgZ hr (by intro h0;rw [h0] at hkl;simp at hkl)
    have hrw:w.rangeAt R o (zan l):=zag hr (mv.block R hRw0 (by rintro (e|e)<;>contradiction))
    have hx:=zcS hrw k hkl
    have hxo:=hok l[k] (List.getElem_mem hkl)
    rw [List.drop_eq_getElem_cons hkl] at hsw
    have hKR: ¬(R=E∨R=C):=by rintro (e|e)<;>contradiction
    generalize hX:l[k]=X at hx hxo hsw
    obtain ⟨xa0,xa1,xl0,xl1⟩:=hxo
    rw [zax] at hsw
    have fin: ∀ {a':Act} {w':World} {ρ:Val} {j:J},a'.tmps.size=53→DRo ρ j (some ckD) a'.defers→j 1=some ⟨E,0,0,none⟩→j 2=some ⟨C,0,0,none⟩→Dw.Mv (fun b=>b=E∨b=C) w w'→
        Own w' E [.int .i64 0]→Own w' C [.int .u64 (s+X.len)]→
        ([0,2,3,10,11,12].map fun t=>a'.tmps.getD t undef)= [.slice (some ⟨R,o,none⟩) l.length c,.pointer (some ⟨E,0,none⟩),.pointer (some ⟨C,0,none⟩),.slice (some ⟨R,o,none⟩) l.length c,.int .i64 l.length,.int .i64 (k+1)]→
        zax X.wr (s+X.len) (l.drop (k+1))=zax false 0 l→k<l.length∧CkI l (some ⟨R,o,none⟩) c E C w0 (k+1) a' w':=fun {a' w' ρ j} q1 q2 q3 q4 q5 q6 q7 q8 q9=>by
      simp only [List.map_cons,List.map_nil,List.cons.injEq,and_true] at q8
      obtain ⟨t0,t2,t3,t10,t11,t12⟩:=q8
      refine ⟨hkl,⟨by omega,q1,t0,t2,t3,t10,t11,by rw [t12];norm_cast,zgg q2 q3 q4,mv.trans q5,X.wr,s+X.len,q6,q7,by omega,by push_cast;omega,q9,by omega,fun i hi=> ?_⟩⟩
      have:k=i:=by omega
      subst this
      exact ⟨hkl,by rw [hX]⟩
    have hden: ∀(n k' s':Int) (x y:Sg) (sl:Value),n=l.length→0≤k'→k'<64→0≤s'→s'<18446744073709551616→x.ok→(lnv 0).den (zbo n k' s' x y sl)=l.length∧(lnv 1).den (zbo n k' s' x y sl)=k'∧(u64v 2).den (zbo n k' s' x y sl)=s'∧(u64v 3).den (zbo n k' s' x y sl)=x.at1∧(u32v 4).den (zbo n k' s' x y sl)=x.len:=fun n k' s' x y sl h1 h2 h3 h4 h5 h6=>by
      subst h1
      exact ⟨zdw (by show (0:Int)≤l.length;omega) (by show ((l.length:Nat):Int)<_;omega),zdw h2 (by show k'<_;omega),zbr h4 h5,zbr h6.1 h6.2.1,zhI h6.2.2.1 h6.2.2.2⟩
    have hXok:X.ok:=⟨xa0,xa1,xl0,xl1⟩
    have hwl:IntKind.wrap .u64 (X.len-1)=(X.len-1)%18446744073709551616:=zjQ _
    have hwa:IntKind.wrap .u64 (18446744073709551615-X.at1)=18446744073709551615-X.at1:=zaN (by omega) (by omega)
    have hws:IntKind.wrap .u64 (s+X.len)=s+X.len:=zaN (by omega) (by omega)
    rcases Nat.eq_zero_or_pos k with hk0|hk0
    · subst hk0
      have hpw:=hp0 rfl
      subst hpw
      obtain ⟨d0,d1,d2,d3,d4⟩:=hden l.length 0 s X X (.slice (some ⟨R,o,none⟩) l.length c) rfl (by omega) (by omega) hs0 (by omega) hXok
      have hj1:jOf [(E,0),(C,0),(R,o)] 1=some ⟨E,0,0,none⟩:=rfl
      have hj2:jOf [(E,0),(C,0),(R,o)] 2=some ⟨C,0,0,none⟩:=rfl
      have hj3:jOf [(E,0),(C,0),(R,o)] 3=some ⟨R,o,0,none⟩:=rfl
      have hsx:Dw.R (zbo l.length 0 s X X (.slice (some ⟨R,o,none⟩) l.length c)) (jOf [(E,0),(C,0),(R,o)]) (ckL [(.lit 0,3)]) (.slice (some ⟨R,o,none⟩) l.length c):=⟨rfl,_,_,_,rfl,d0.symm,⟨R,o,_,0,rfl,hj3,rfl,rfl,hkl,rfl⟩,trivial⟩
      refine wp_mono (zbX (ρ:=zbo l.length 0 s X X (.slice (some ⟨R,o,none⟩) l.length c)) (K:=fun b=>b=E∨b=C) (g:=Gho.none) (bl:= [(E,0),(C,0),(R,o)]) mixed zsP zuT hK
        ⟨zfY oE (zav (zaG rfl) RL.nil) (.inl rfl),zfY oC (zav (zaG d2) RL.nil) (.inr rfl),zdd hx (by unfold Sg.cells;simp) (zav (zaG d3) (zav (zaG d4) (zav (zcA rfl) RL.nil))) hKR,trivial⟩
        ⟨fun _ i b' s' h1 h2 h3=>(by match i,h1,h2 with|0,h1,_=>cases h1;exact hne|1,_,h2=>cases h2;cases h3|i+2,h1,_=>cases h1),fun _ i b' s' h1 h2 h3=>(by match i,h1,h2 with|0,_,h2=>cases h2;cases h3|i+1,h1,_=>cases h1),fun h=>(by cases h),trivial⟩
        za4 trivial trivial trivial size (ck_dfr' hj1 hj2 dfr) ?_ (zaw.2 trivial)) fun ex a' w' hh=> ?_
      · intro t ht
        simp only [zes,zfO,List.mem_cons,List.not_mem_nil,or_false] at ht
        rcases ht with rfl|rfl|rfl|rfl|rfl|rfl
        · rw [s0];exact hsx
        · rw [s2];exact zjN hj1
        · rw [s3];exact zjN hj2
        · rw [s10];exact hsx
        · rw [s11];exact zaG d0
        · rw [s12];exact zaG rfl
      · obtain ⟨q,hq,hto,lf,hlf,rfl,hsz,j,hdf,he⟩:=hh
        have hj1':=he.sub _ _ hj1
        have hj2':=he.sub _ _ hj2
        unfold zq0 at hq
        simp only [List.mem_cons,List.not_mem_nil,or_false] at hq
        rcases hq with rfl|rfl|rfl|rfl
        all_goals
          simp only [zad,zaw,zeB,zbE,zdB,za2,zal,d0,d1,d2,d3,d4,hwl,hwa,decide_eq_true_eq,decide_eq_false_iff_not,and_true] at hto
          cases hlf
        · exact .inl ⟨rfl,by rw [←hsw,if_pos (by omega)],_,hsz,by have:=zbd he.ret;simpa [AV.valL,AV.val,zaA hj1'] using this,zgg hdf hj1' hj2',mv.trans he.mv,(he.rows.1 _ hj1').2 (.inr (.inl rfl)) rfl,(he.rows.2.1 _ hj2').2 (.inr (.inr rfl)) rfl⟩
        · exact .inl ⟨rfl,by rw [←hsw,if_pos (by omega)],_,hsz,by have:=zbd he.ret;simpa [AV.valL,AV.val,zaA hj1'] using this,zgg hdf hj1' hj2',mv.trans he.mv,(he.rows.1 _ hj1').2 (.inr (.inl rfl)) rfl,(he.rows.2.1 _ hj2').2 (.inr (.inr rfl)) rfl⟩
        · refine fin hsz hdf hj1' hj2' he.mv ((he.rows.1 _ hj1').2 (.inr (.inl rfl)) rfl) ?_ ?_ ?_
          · have:=(he.rows.2.1 _ hj2').2 (.inr (.inr rfl)) rfl
            simpa only [AV.valL,AV.val,den_add,d2,d4,hws] using this
          · have:=zbd he.ret
            rw [this]
            simp only [AV.valL,AV.val,zaA hj1',zaA hj2',d0,zal]
            rfl
          · rw [←hsw,if_neg (by rintro (h|h|⟨h,_⟩);omega;omega;cases h)]
        · omega
    · obtain ⟨i,rfl⟩: ∃i,k=i+1:=⟨k-1,by omega⟩
      obtain ⟨hil,hpw⟩:=hp1 i rfl
      have hy:=zcS hrw i hil
      have hyo:=hok l[i] (List.getElem_mem hil)
      generalize hY:l[i]=Y at hy hyo hpw
      subst hpw
      have hkk:IntKind.wrap .i64 (((i+1:Nat):Int)+1)=((i+1:Nat):Int)+1:=zaT (by omega) (by omega)
      have hk1:IntKind.wrap .i64 (((i+1:Nat):Int)-1)=(i:Int):=by rw [zaT (by omega) (by omega)];omega
      obtain ⟨d0,d1,d2,d3,d4⟩:=hden l.length (i+1:Nat) s X Y (.slice (some ⟨R,o,none⟩) l.length c) rfl (by omega) (by omega) hs0 (by omega) hXok
      have hj1:jOf [(E,0),(C,0),(R,o+3*(i+1)),(R,o+3*i)] 1=some ⟨E,0,0,none⟩:=rfl
      have hj2:jOf [(E,0),(C,0),(R,o+3*(i+1)),(R,o+3*i)] 2=some ⟨C,0,0,none⟩:=rfl
      have hj3:jOf [(E,0),(C,0),(R,o+3*(i+1)),(R,o+3*i)] 3=some ⟨R,o+3*(i+1),0,none⟩:=rfl
      have hj4:jOf [(E,0),(C,0),(R,o+3*(i+1)),(R,o+3*i)] 4=some ⟨R,o+3*i,0,none⟩:=rfl
      have hsx:Dw.R (zbo l.length (i+1:Nat) s X Y (.slice (some ⟨R,o,none⟩) l.length c)) (jOf [(E,0),(C,0),(R,o+3*(i+1)),(R,o+3*i)]) (ckL [(lnv 1,3),(.bin .sub .i64 (lnv 1) (.lit 1),4)]) (.slice (some ⟨R,o,none⟩) l.length c):=⟨rfl,_,_,_,rfl,d0.symm,⟨R,o,_,i+1,rfl,hj3,rfl,d1,hkl,rfl⟩,⟨R,o,_,i,rfl,hj4,rfl,by rw [za2,d1,zal];exact hk1,hil,rfl⟩,trivial⟩
      refine wp_mono (zbX (ρ:=zbo l.length (i+1:Nat) s X Y (.slice (some ⟨R,o,none⟩) l.length c)) (K:=fun b=>b=E∨b=C) (g:=Gho.none) (bl:= [(E,0),(C,0),(R,o+3*(i+1)),(R,o+3*i)]) mixed zsN zuS hK
        ⟨zfY oE (zav (zaG rfl) RL.nil) (.inl rfl),zfY oC (zav (zaG d2) RL.nil) (.inr rfl),zdd hx (by unfold Sg.cells;simp) (zav (zaG d3) (zav (zaG d4) (zav (zcA rfl) RL.nil))) hKR,zdd hy (by unfold Sg.cells;simp) (zav (zaG (zbr hyo.1 hyo.2.1)) (zav (zaG (zhI hyo.2.2.1 hyo.2.2.2)) (zav (zcA rfl) RL.nil))) hKR,trivial⟩
        ⟨fun _ i b' s' h1 h2 h3=>(by match i,h1,h2 with|0,h1,_=>cases h1;exact hne|1,_,h2=>cases h2;cases h3|2,_,h2=>cases h2;cases h3|i+3,h1,_=>cases h1),fun _ i b' s' h1 h2 h3=>(by match i,h1,h2 with|0,_,h2=>cases h2;cases h3|1,_,h2=>cases h2;cases h3|i+2,h1,_=>cases h1),fun h=>(by cases h),fun h=>(by cases h),trivial⟩
        za4 trivial trivial trivial size (ck_dfr' hj1 hj2 dfr) ?_ (zad.2 ⟨by rw [zbE,d0,d1];simp only [decide_eq_true_eq];omega,zad.2 ⟨by rw [zeB,d1,zal];simp only [decide_eq_true_eq];omega,zaw.2 trivial⟩⟩)) fun ex a' w' hh=> ?_
      · intro t ht
        simp only [zer,zfO,List.mem_cons,List.not_mem_nil,or_false] at ht
        rcases ht with rfl|rfl|rfl|rfl|rfl|rfl
        · rw [s0];exact hsx
        · rw [s2];exact zjN hj1
        · rw [s3];exact zjN hj2
        · rw [s10];exact hsx
        · rw [s11];exact zaG d0
        · rw [s12];exact zaG d1
      · obtain ⟨q,hq,hto,lf,hlf,rfl,hsz,j,hdf,he⟩:=hh
        have hj1':=he.sub _ _ hj1
        have hj2':=he.sub _ _ hj2
        unfold zqY at hq
        simp only [List.mem_cons,List.not_mem_nil,or_false] at hq
        rcases hq with rfl|rfl|rfl|rfl|rfl
        all_goals
          simp only [zad,zaw,zeB,zbE,zdB,za2,zal,d0,d1,d2,d3,d4,hwl,hwa,decide_eq_true_eq,decide_eq_false_iff_not,and_true] at hto
          cases hlf
        · exact .inl ⟨rfl,by rw [←hsw,if_pos (by omega)],_,hsz,by have:=zbd he.ret;simpa [AV.valL,AV.val,zaA hj1'] using this,zgg hdf hj1' hj2',mv.trans he.mv,(he.rows.1 _ hj1').2 (.inr (.inl rfl)) rfl,(he.rows.2.1 _ hj2').2 (.inr (.inr rfl)) rfl⟩
        · exact .inl ⟨rfl,by rw [←hsw,if_pos (by omega)],_,hsz,by have:=zbd he.ret;simpa [AV.valL,AV.val,zaA hj1'] using this,zgg hdf hj1' hj2',mv.trans he.mv,(he.rows.1 _ hj1').2 (.inr (.inl rfl)) rfl,(he.rows.2.1 _ hj2').2 (.inr (.inr rfl)) rfl⟩
        · exact .inl ⟨rfl,by rw [←hsw,if_pos (.inr (.inr ⟨hto.2.2.1,hto.2.2.2⟩))],_,hsz,by have:=zbd he.ret;simpa [AV.valL,AV.val,zaA hj1'] using this,zgg hdf hj1' hj2',mv.trans he.mv,(he.rows.1 _ hj1').2 (.inr (.inl rfl)) rfl,(he.rows.2.1 _ hj2').2 (.inr (.inr rfl)) rfl⟩
        · refine fin hsz hdf hj1' hj2' he.mv ((he.rows.1 _ hj1').2 (.inr (.inl rfl)) rfl) ?_ ?_ ?_
          · have:=(he.rows.2.1 _ hj2').2 (.inr (.inr rfl)) rfl
            simpa only [AV.valL,AV.val,den_add,d2,d4,hws] using this
          · have:=zbd he.ret
            rw [this]
            simp only [AV.valL,AV.val,zaA hj1',zaA hj2',d0,d1,den_add,zal,hkk]
            rfl
          · rw [←hsw,if_neg (by rintro (h|h|⟨h,h'⟩);omega;omega;exact absurd (h'.symm.trans hto.2.2.2) (by decide))]
        · refine fin hsz hdf hj1' hj2' he.mv ((he.rows.1 _ hj1').2 (.inr (.inl rfl)) rfl) ?_ ?_ ?_
          · have:=(he.rows.2.1 _ hj2').2 (.inr (.inr rfl)) rfl
            simpa only [AV.valL,AV.val,den_add,d2,d4,hws] using this
          · have:=zbd he.ret
            rw [this]
            simp only [AV.valL,AV.val,zaA hj1',zaA hj2',d0,d1,den_add,zal,hkk]
            rfl
          · rw [←hsw,if_neg (by rintro (h|h|⟨h,h'⟩);omega;omega;exact absurd (h.symm.trans hto.2.2) (by decide))]
  · have hkk:k=l.length:=by omega
    subst hkk
    rw [List.drop_length,zax] at hsw
    have d0:(lnv 0).den (zbo l.length l.length s ⟨0,0,false⟩ ⟨0,0,false⟩ (.slice sa l.length c))=l.length:=zdw (by show (0:Int)≤l.length;omega) (by show ((l.length:Nat):Int)<_;omega)
    have d1:(lnv 1).den (zbo l.length l.length s ⟨0,0,false⟩ ⟨0,0,false⟩ (.slice sa l.length c))=l.length:=zdw (by show (0:Int)≤l.length;omega) (by show ((l.length:Nat):Int)<_;omega)
    have d2:(u64v 2).den (zbo l.length l.length s ⟨0,0,false⟩ ⟨0,0,false⟩ (.slice sa l.length c))=s:=zbr hs0 (by show s<_;omega)
    have hj1:jOf [(E,0),(C,0)] 1=some ⟨E,0,0,none⟩:=rfl
    have hj2:jOf [(E,0),(C,0)] 2=some ⟨C,0,0,none⟩:=rfl
    have hsx:Dw.R (zbo l.length l.length s ⟨0,0,false⟩ ⟨0,0,false⟩ (.slice sa l.length c)) (jOf [(E,0),(C,0)]) (ckL []) (.slice sa l.length c):=⟨rfl,_,_,_,rfl,d0.symm,trivial⟩
    refine wp_mono (zbX (ρ:=zbo l.length l.length s ⟨0,0,false⟩ ⟨0,0,false⟩ (.slice sa l.length c)) (K:=fun b=>b=E∨b=C) (g:=Gho.none) (bl:= [(E,0),(C,0)]) mixed zsL zuR hK
      ⟨zfY oE (zav (zaG rfl) RL.nil) (.inl rfl),zfY oC (zav (zaG d2) RL.nil) (.inr rfl),trivial⟩
      ⟨fun _ i b' s' h1 h2 h3=>(by match i,h1,h2 with|0,h1,_=>cases h1;exact hne|i+1,h1,_=>cases h1),fun _ i b' s' h1 h2 h3=>(by cases h1),trivial⟩
      za4 trivial trivial trivial size (ck_dfr' hj1 hj2 dfr) ?_ (zad.2 ⟨by rw [zbE,d0,d1];simp,zaw.2 trivial⟩)) fun ex a' w' hh=> ?_
    · intro t ht
      simp only [zeq,zfO,List.mem_cons,List.not_mem_nil,or_false] at ht
      rcases ht with rfl|rfl|rfl|rfl|rfl|rfl
      · rw [s0];exact hsx
      · rw [s2];exact zjN hj1
      · rw [s3];exact zjN hj2
      · rw [s10];exact hsx
      · rw [s11];exact zaG d0
      · rw [s12];exact zaG d1
    · obtain ⟨q,hq,hto,lf,hlf,rfl,hsz,j,hdf,he⟩:=hh
      have hj1':=he.sub _ _ hj1
      have hj2':=he.sub _ _ hj2
      unfold zqW at hq
      simp only [List.mem_cons,List.not_mem_nil,or_false] at hq
      subst hq
      cases hlf
      refine .inr ⟨rfl,s,hs0,by omega,hsw.symm,hsz,by have:=zbd he.ret;simpa [AV.valL,AV.val,zaA hj1'] using this,zgg hdf hj1' hj2',mv.trans he.mv,(he.rows.1 _ hj1').2 (.inr (.inl rfl)) rfl,?_⟩
      have:=(he.rows.2.1 _ hj2').2 (.inr (.inr rfl)) rfl
      simpa only [AV.valL,AV.val,d2] using this
open Go.Maps Go.Sort
set_option maxRecDepth 100000 in
theorem Tryz.zjX (E C:Nat) (e sum:Int) (u:FrameMode) (w:World) (hE:w.cell? ⟨E,0,none⟩=some (.int .i64 e)) (fE:w.frozen? ⟨E,0,none⟩=false) (hC:w.cell? ⟨C,0,none⟩=some (.int .u64 sum)):
  CallsD prog 150 #[.pointer (some ⟨E,0,none⟩),.pointer (some ⟨C,0,none⟩)] u w fun ed u' w'=>u'=u∧ed= .returned (.tuple #[])∧w'=if e=0∧4294967296≤sum then w.setCell ⟨E,0,none⟩ (.int .i64 2) else w:=by
 refine callsD_of_wp func150 rfl ?_
 simp only [ntmps150,List.size_toArray,List.length_cons,List.length_nil,Nat.reduceAdd,Nat.reduceSub,Array.replicate_succ,Array.replicate_zero,List.push_toArray,List.append_toArray,List.nil_append,List.cons_append]
 by_cases h0:e=0
 ·subst h0
  by_cases h1:4294967296≤sum
  ·rw [if_pos ⟨rfl,h1⟩]
   go_wp2
   go_end0
   exact ⟨rfl,rfl⟩
  ·rw [if_neg (fun h=>h1 h.2)]
   go_wp2
   go_end0
   exact ⟨rfl,rfl⟩
 ·rw [if_neg (fun h=>h0 h.1)]
  go_wp2
  go_end0
  exact ⟨rfl,rfl⟩
theorem Tryz.zna {w:World} {b:Nat} {v:Value} (h:Own w b [v]):w.cell? ⟨b,0,none⟩=some v∧w.frozen? ⟨b,0,none⟩=false:=by
 obtain ⟨arr,e,h1,h2⟩:=h
 exact ⟨by simp [World.cell?,h1,h2 0 v rfl],by simp [World.frozen?,h1]⟩
theorem Tryz.zpZ (w:World) (cs:List Value) (t:TypeId):Own (w.alloc (.cells cs.toArray t)) w.heap.size cs:=⟨cs.toArray,t,by unfold World.alloc;exact Array.getElem?_push_size,fun i y h=>by rw [List.getElem?_toArray];exact h⟩
set_option maxRecDepth 100000 in
theorem Tryz.zdI {A:Nat→Prop} {w:World} {v:Value} {l:List Sg} (h:SegV A w v l):
  Calls prog 106 #[v] w fun e w'=>e= .returned (.int .i64 (zaU l))∧Below w.heap.size w w':=by
 obtain ⟨sa,c,rfl,hok,hr⟩:=h
 unfold zaU
 by_cases hlen:64<l.length
 ·rw [if_pos hlen]
  have hb0:=(Below.refl w.heap.size w).alloc (Nat.le_refl _) (.cells #[.int .i64 3] 31)
  go_enter_defers func106,ntmps106
  go_wp2
  have hE:(w.alloc (.cells #[.int .i64 3] 31)).cell? ⟨w.heap.size,0,none⟩=some (.int .i64 3):=by simp
  simp only [bodyPostD,Leaves]
  refine ⟨.int .i64 3,?_,rfl,hb0⟩
  simp [results,results106,go_sem,hE]
 ·rw [if_neg hlen]
  go_enter_defers func106,ntmps106
  go_wp2
  have o1:=zpZ w [.int .i64 0] 31
  have o2:=zpZ (w.alloc (.cells #[.int .i64 0] 31)) [.int .u64 0] 28
  have hs1:(w.alloc (.cells #[.int .i64 0] 31)).heap.size=w.heap.size+1:=World.size_alloc _ _
  rw [hs1] at o2
  have o1':Own ((w.alloc (.cells #[.int .i64 0] 31)).alloc (.cells #[.int .u64 0] 28)) w.heap.size [.int .i64 0]:=o1.kept (Below.heap_alloc _ _ _ (by rw [hs1];omega))
  have hbb:=((Below.refl w.heap.size w).alloc (Nat.le_refl _) (.cells #[.int .i64 0] 31)).alloc (by rw [hs1];omega) (.cells #[.int .u64 0] 28)
  have hsz:((w.alloc (.cells #[.int .i64 0] 31)).alloc (.cells #[.int .u64 0] 28)).heap.size=w.heap.size+2:=by rw [World.size_alloc,hs1]
  have hr':l= []∨ ∃R o,sa=some ⟨R,o,none⟩∧R≠w.heap.size∧R≠w.heap.size+1∧((w.alloc (.cells #[.int .i64 0] 31)).alloc (.cells #[.int .u64 0] 28)).rangeAt R o (zan l):=by
   rcases hr with h0|⟨R,o,e,_,hr⟩
   ·exact .inl h0
   ·by_cases h0:l= []
    ·exact .inl h0
    ·have hR:=zgZ hr h0
     exact .inr ⟨R,o,e,by omega,by omega,zag hr (hbb.block R hR)⟩
  generalize (w.alloc (.cells #[.int .i64 0] 31)).alloc (.cells #[.int .u64 0] 28)=W at*
  refine zaD (c':= .loop (zbb prog [0,0,1,0,1,1,1,1,106])) (by kernel_rfl) ?_
  refine zhi (fun k a w'=>CkI l sa c w.heap.size (w.heap.size+1) W k a w') (fun k=>l.length-k) (fun k a w' hI=>wp_mono (zsR hI (by omega) hok (by omega) (by omega) (by omega) hr') fun ex a' w2 hh=> ?_) 0 _ _ ?_
  ·have leave: ∀ {e s:Int} {a':Act} {w2:World},CkO w.heap.size (w.heap.size+1) W e s a' w2→zax false 0 l=(if e=0∧4294967296≤s then 2 else e)→
     bodyPostD prog f106 (fun e w'=>e=Ending.returned (Value.int IntKind.i64 (zax false 0 l))∧RowKit.Below w.heap.size w w') .ret a' w2:=fun {e s a' w2} ho hV=>by
    obtain ⟨d,hd,args,cap,e1,e2,e3⟩:=ho.dfr
    have hm2:RowKit.Below w.heap.size w w2:=⟨ho.mv.os.trans hbb.os,ho.mv.tape.trans hbb.tape,ho.mv.output.trans hbb.output,Nat.le_trans hbb.size ho.mv.size,fun k hk=>(ho.mv.block k (by omega) (by omega)).trans (hbb.block k hk)⟩
    obtain ⟨cE,fE⟩:=zna ho.oE
    obtain ⟨cC,fC⟩:=zna ho.oC
    simp only [bodyPostD,hd,Leaves]
    have e3:args++cap= #[.pointer (some ⟨w.heap.size,0,none⟩),.pointer (some ⟨w.heap.size+1,0,none⟩)]:=by rw [←Array.toList_inj];exact e3
    refine ⟨by simp,.func 150,cap,150,#[.pointer (some ⟨w.heap.size,0,none⟩),.pointer (some ⟨w.heap.size+1,0,none⟩)],e1,by rw [e1,e2,←e3];simp [go_sem],?_⟩
    refine (zjX w.heap.size (w.heap.size+1) e s .returning w2 cE fE cC).mono ?_
    rintro ed u' w9 ⟨rfl,rfl,rfl⟩
    simp only [Leaves,settle]
    have hp:a'.tmps.getD 2 undef= .pointer (some ⟨w.heap.size,0,none⟩):=ho.s2
    by_cases h0:e=0∧4294967296≤s
    ·rw [if_pos h0] at hV ⊢
     have dE2:(w2.setCell ⟨w.heap.size,0,none⟩ (.int .i64 2)).cell? ⟨w.heap.size,0,none⟩=some (.int .i64 2):=World.cell?_setCell_same' _ _ _ (by rw [cE];rfl)
     refine ⟨.int .i64 2,?_,by rw [hV],hm2.setCell (p:=⟨w.heap.size,0,none⟩) (Nat.le_refl _) _⟩
     have hp':a'.tmps[2]?.getD undef= .pointer (some ⟨w.heap.size,0,none⟩):=by simpa using hp
     simp [results,results106,go_sem,hp',dE2]
    ·rw [if_neg h0] at hV ⊢
     refine ⟨.int .i64 e,?_,by rw [hV],hm2⟩
     have hp':a'.tmps[2]?.getD undef= .pointer (some ⟨w.heap.size,0,none⟩):=by simpa using hp
     simp [results,results106,go_sem,hp',cE]
   cases ex with
   | normal=>exact ⟨k+1,by omega,hh.2⟩
   | ret=>
    rcases hh with ⟨_,hV,s,ho⟩|⟨h,_⟩
    ·exact leave ho (by rw [hV];simp)
    ·cases h
   | exit i=>
    rcases hh with ⟨h,_⟩|⟨h,s,hq0,hq1,hV,ho⟩
    ·cases h
    ·cases h
     simp only [Exit.inBlock,Exit.then,if_pos]
     rename_i K hK
     refine hK _ _ (zaD (c':=zbb prog [1,1,1,1,1,106]) (by kernel_rfl) ?_)
     have hj1:jOf [(w.heap.size,0),(w.heap.size+1,0)] 1=some ⟨w.heap.size,0,0,none⟩:=rfl
     have hj2:jOf [(w.heap.size,0),(w.heap.size+1,0)] 2=some ⟨w.heap.size+1,0,0,none⟩:=rfl
     have d2:(u64v 2).den (zbo 0 0 s ⟨0,0,false⟩ ⟨0,0,false⟩ undef)=s:=zbr hq0 hq1
     refine wp_mono (zbX (ρ:=zbo 0 0 s ⟨0,0,false⟩ ⟨0,0,false⟩ undef) (K:=fun b=>b=w.heap.size∨b=w.heap.size+1) (g:=Gho.none) (bl:= [(w.heap.size,0),(w.heap.size+1,0)]) mixed zuP zvE (fun b hb=>by rcases hb with rfl|rfl;exact zkw ho.oE;exact zkw ho.oC)
      ⟨zfY ho.oE (zav (zaG rfl) RL.nil) (.inl rfl),zfY ho.oC (zav (zaG d2) RL.nil) (.inr rfl),trivial⟩
      ⟨fun _ i b' s' h1 h2 h3=>(by match i,h1,h2 with|0,h1,_=>cases h1;show w.heap.size≠w.heap.size+1;omega|i+1,h1,_=>cases h1),fun _ i b' s' h1 h2 h3=>(by cases h1),trivial⟩
      za4 trivial trivial trivial ho.size (ck_dfr' hj1 hj2 ho.dfr) ?_ (zaw.2 trivial)) fun ex a3 w3 hh=> ?_
     ·intro t ht
      simp only [zfq,List.mem_cons,List.not_mem_nil,or_false] at ht
      subst ht
      rw [ho.s2];exact zjN hj1
     ·obtain ⟨q,hq,hto,lf,hlf,rfl,hsz3,j,hdf,he⟩:=hh
      have hj1':=he.sub _ _ hj1
      have hj2':=he.sub _ _ hj2
      unfold zto at hq
      simp only [List.mem_cons,List.not_mem_nil,or_false] at hq
      subst hq
      cases hlf
      have oC:=(he.rows.2.1 _ hj2').2 (.inr (.inr rfl)) rfl
      simp only [AV.valL,AV.val,d2] at oC
      refine leave (e:=0) ⟨hsz3,by have:=zbd he.ret;simpa [AV.valL,AV.val,zaA hj1'] using this,zgg hdf hj1' hj2',ho.mv.trans he.mv,(he.rows.1 _ hj1').2 (.inr (.inl rfl)) rfl,oC⟩ (by rw [hV];simp)
   | _=>rcases hh with ⟨h,_⟩|⟨h,_⟩<;>cases h
  ·exact ⟨Nat.zero_le _,rfl,rfl,rfl,rfl,rfl,rfl,rfl,⟨_,rfl,_,_,rfl,rfl,rfl⟩,Dw.Mv.refl _ _,false,0,o1',o2,Int.le_refl _,by simp,rfl,fun _=>rfl,fun i hi=>by omega⟩
open Go.Deep
theorem Tryz.zu4 (k:Nat) (h:k<4611686018427387904):IntKind.wrap .i64 ((k:Int)+1)=((k+1:Nat):Int):=by rw [zaT (by omega) (by omega)];omega
theorem Tryz.zof {l:List Sg} (h:zaU l=0):l.length≤64:=by
 unfold zaU at h
 split at h
 ·omega
 ·omega
structure Tryz.EqT (a b:Int):Prop where
 eq:a=b
def Tryz.zgY (N:Nat):List Sg→Bool
 | [] => true
 | x::r=>decide (1≤x.len∧x.at1+x.len≤N)&&zgY N r
def Tryz.zbH (N:Nat) (l:List Sg):Int:=if zaU l=0 then (if zgY N l=true then 0 else 5) else zaU l
theorem Tryz.zcR {N:Nat}: ∀ {l:List Sg},zgY N l=true↔ ∀x∈l,1≤x.len∧x.at1+x.len≤N
 | [] => by simp [zgY]
 | y::r=>by
  unfold zgY
  rw [Bool.and_eq_true,decide_eq_true_iff,zcR (l:=r)]
  constructor
  ·rintro ⟨h1,h2⟩ x hx
   rcases List.mem_cons.1 hx with rfl|hx
   ·exact h1
   ·exact h2 x hx
  ·intro h
   exact ⟨h y (by simp),fun x hx=>h x (by simp [hx])⟩
set_option maxRecDepth 100000 in
theorem Tryz.zpi {A:Nat→Prop} {w:World} {P L Bs B N:Nat} {g:Nat→Int} {sa:Option Addr} {c:Nat} {l:List Sg} (hm:GM w P L Bs B N g) (hN:N≤1048576) (h1:1≤N) (h:SegV A w (.slice sa l.length c) l) (hln:l.length<4611686018427387904):
    Calls prog 63 #[.pointer (some ⟨P,0,none⟩),.slice sa l.length c] w fun e w'=>e= .returned (.int .i64 (zbH N l))∧Below w.heap.size w w':=by
  have hck:=zdI h
  have hrd:=ze6 P L Bs B N 0 g w hm
  obtain ⟨sa',c',e',hok,hr⟩:=h
  cases e'
  unfold zbH
  by_cases he:zaU l=0
  · rw [if_pos he]
    rw [he] at hck
    have hl:=zof he
    obtain ⟨z,hz⟩: ∃z,EqT z (if zgY N l=true then 0 else 5):=⟨_,⟨rfl⟩⟩
    rw [←hz.eq]
    go_enter func63,ntmps63
    go_wp2_with (first
      | (go_at_call 53;refine hrd.mono ?_;rintro en w2 ⟨rfl,hw2⟩;have hw2:=hw2.symm;subst hw2)
      | (go_at_call 106;refine hck.mono ?_;rintro en w3 ⟨rfl,hb3⟩)
      | go_in)
    go_loopw [9,25] (fun z i wr=>Below w.heap.size w wr∧ ∃k:Nat,k≤l.length∧i= .int .i64 k∧ ∀(j:Nat) (hj:j<l.length),j<k→1≤l[j].len∧l[j].at1+l[j].len≤N) (fun _ i _=>l.length-(RowKit.intOf i).toNat)
    case atStart=>exact ⟨hb3,0,Nat.zero_le _,rfl,fun j _ hj=>absurd hj (by omega)⟩
    case round=>
      obtain ⟨hb2,k,hk,rfl,hall⟩:=hrel
      by_cases hkl:k<l.length
      · have hkl':(k:Int)<l.length:=by omega
        rcases hr with hr|⟨R,o,rfl,hRA,hr⟩
        · subst hr;simp at hkl
        obtain ⟨d0,d1,d2⟩:=zdJ l k hkl
        have g0:=hr _ _ d0
        have g1:=hr _ _ d1
        have g2:=hr _ _ d2
        have hRl:R<w.heap.size:=World.block_lt_of_cell? w _ g1
        replace g0:=(hb2.cell (p:=⟨R,o+3*k,none⟩) hRl).trans g0
        replace g1:=(hb2.cell (p:=⟨R,o+(3*k+1),none⟩) hRl).trans g1
        replace g2:=(hb2.cell (p:=⟨R,o+(3*k+2),none⟩) hRl).trans g2
        rw [Nat.mul_comm 3 k] at g0
        rw [show o+(3*k+1)=o+k*3+1 by omega] at g1
        rw [show o+(3*k+2)=o+k*3+2 by omega] at g2
        obtain ⟨q1,q2,q3,q4⟩:=hok l[k] (List.getElem_mem hkl)
        have u0:IntKind.wrap .u64 l[k].len=l[k].len:=zaN q3 (by omega)
        have hhas:=fun w4 (h4:Below w.heap.size w w4)=>zjr P L Bs B N l[k].at1 l[k].len g w4 (hm.below h4) hN h1 q1 q2 q3
        have hin2:zgY N l=true→1≤l[k].len∧l[k].at1+l[k].len≤N:=fun h=>zcR.1 h l[k] (List.getElem_mem hkl)
        clear hr d0 d1 d2 hck hrd
        generalize hat:l[k].at1=a1 at*
        generalize hln:l[k].len=n1 at*
        have hA:=fun o:Obj=>hb2.alloc hb2.size o
        by_cases hin:1≤n1∧a1+n1≤N
        · rw [decide_eq_true hin] at hhas
          go_wp2_with (first
            | (go_at_call 55;refine (hhas _ (hA _)).mono ?_;rintro en w5 ⟨rfl,hb5⟩)
            | go_in)
          refine ⟨⟨(hA _).trans (hb5.mono (hA _).size),k+1,by omega,by push_cast;rfl,fun j hj hlt=> ?_⟩,by simp only [RowKit.intOf];omega⟩
          by_cases hjk:j=k
          · subst hjk
            rw [hat,hln];exact hin
          · exact hall j hj (by omega)
        · rw [decide_eq_false hin] at hhas
          go_wp2_with (first
            | (go_at_call 55;refine (hhas _ (hA _)).mono ?_;rintro en w5 ⟨rfl,hb5⟩)
            | go_in)
          go_ret
          exact ⟨by rw [hz.eq,if_neg fun h=>hin (hin2 h)];rfl,(hA _).trans (hb5.mono (hA _).size)⟩
      · have hkl': ¬(k:Int)<l.length:=by omega
        go_wp2
        go_ret
        exact ⟨by
          rw [hz.eq,if_pos (zcR.2 fun x hx=>by
            obtain ⟨j,hj,rfl⟩:=List.getElem_of_mem hx
            exact hall j hj (by omega))]
          rfl,hb2⟩
  · rw [if_neg he]
    have he2:(zaU l==0)=false:=by simpa using he
    go_enter func63,ntmps63
    go_wp2_with (first
      | (go_at_call 53;refine hrd.mono ?_;rintro en w2 ⟨rfl,hw2⟩;have hw2:=hw2.symm;subst hw2)
      | (go_at_call 106;refine hck.mono ?_;rintro en w3 ⟨rfl,hb3⟩)
      | go_in)
    all_goals
      go_ret
      exact ⟨rfl,hb3⟩
end Go.Proofs
namespace Go.Proofs
open Go.Dw Go.RowKit
theorem Tryz.zgx (g:Nat→Int) (hg: ∀j,0≤g j∧g j<256) (a k:Nat):0≤zac g a k∧zac g a k<256^k:=zaq g hg a k
end Go.Proofs
namespace Go.Proofs
open Go.RowKit
structure Tryz.Cl (w:World) (b:Nat) (l:List Value):Prop where
 lt:b<w.heap.size
 cell: ∀(i:Nat) (v:Value),l[i]? =some v→w.cell? ⟨b,i,none⟩=some v
 free: ∀i,w.frozen? ⟨b,i,none⟩=false
theorem Tryz.Cl.below {w w':World} {b B:Nat} {l:List Value} (h:Cl w b l) (hb:Below B w w') (hB:b<B):Cl w' b l:=
 ⟨Nat.lt_of_lt_of_le h.lt hb.size,fun i v hv=>(hb.cell (p:=⟨b,i,none⟩) hB).trans (h.cell i v hv),fun i=>(hb.frozen (p:=⟨b,i,none⟩) hB).trans (h.free i)⟩
theorem Tryz.Cl.at {w:World} {b:Nat} {arr:Array Value} {t:TypeId} (h:w.heap[b]? =some (.cells arr t (0,0))):Cl w b arr.toList:=
 ⟨(Array.getElem?_eq_some_iff.1 h).1,fun i v hv=>by rw [cell_of_row _ _ i _ _ (0,0) h,←Array.getElem?_toList];exact hv,fun i=>by simp [World.frozen?,h]⟩
theorem Tryz.Cl.new (w:World) (arr:Array Value) (t:TypeId):Cl (w.alloc (.cells arr t)) w.heap.size arr.toList:=Cl.at (heap_alloc_last w _)
theorem Tryz.Cl.new2 {w:World} {b:Nat} {arr:Array Value} {t:TypeId} (h:w.heap.size=b):Cl (w.alloc (.cells arr t)) b arr.toList:=h▸Cl.new w arr t
theorem Tryz.Cl.alloc {w:World} {b:Nat} {l:List Value} (h:Cl w b l) (o:Obj):Cl (w.alloc o) b l:=h.below ((Below.refl _ w).alloc (Nat.le_refl _) o) h.lt
theorem Tryz.Cl.set {w:World} {b:Nat} {l:List Value} (h:Cl w b l) (j:Nat) (v:Value) (hj:j<l.length):Cl (w.setCell ⟨b,j,none⟩ v) b (l.set j v):=by
 refine ⟨by have:=h.lt;simpa using this,fun i u hu=> ?_,fun i=>by rw [World.frozen?_setCell];exact h.free i⟩
 by_cases hij:i=j
 ·subst hij
  rw [List.getElem?_set_self hj] at hu
  cases hu
  exact World.cell?_setCell_same' _ _ _ (by rw [h.cell i _ (List.getElem?_eq_getElem hj)];rfl)
 ·rw [List.getElem?_set_ne (fun e=>hij e.symm)] at hu
  rw [World.cell?_setCell_other w ⟨b,j,none⟩ ⟨b,i,none⟩ v (fun e=>hij (congrArg Addr.off e).symm)]
  exact h.cell i u hu
open Go.Dw Go.Maps Go.Sort Go.Deep
theorem Tryz.zjC {ρ:Val} {i lo hi fr n sh:Nat} (h0:(lo:Int)≤ρ.i i) (h1:ρ.i i≤(hi:Int)):SE.den ρ (.flds [⟨i,lo,hi,fr,n,sh⟩] 0)=(ρ.i i/(2^fr:Nat)%(2^n:Nat))*(2^sh:Nat):=by
 obtain ⟨x,hx⟩:=Int.eq_ofNat_of_zero_le (Int.le_trans (Int.natCast_nonneg lo) h0)
 rw [hx] at h0 h1
 simp only [SE.den,zab,Fld.den,hx,Int.toNat_natCast,Nat.or_zero]
 have e:max lo (min x hi)=x:=by omega
 rw [e,Nat.shiftRight_eq_div_pow,Nat.shiftLeft_eq]
 show ((x/2^fr%2^n*2^sh:Nat):Int)=_
 push_cast
 rfl
def Tryz.entN (N:Nat) (at1 n:Int):Int×Int:=if n=0∨ ¬n%16=0∨64<n/16 then (0,4) else if at1+n≤N then (n/16,0) else (0,5)
def Tryz.zgq (N:Nat) (l:List Sg):Int:=if l= []∨ ¬zaU l=0 then 4 else zbH N l
end Go.Proofs
namespace Go.Proofs
open Go.Dw Go.RowKit
structure Tryz.PgOk (r:Rg):Prop where
 bnd:1≤r.n∧r.n≤16
 d:r.d=4096
 v:r.v=4096+16*r.n
 c:r.c=4100+16*r.n
def Tryz.Rg.pval (r:Rg):Value:= .agg #[.bool true,.int .i64 r.n,.int .u64 r.d,.int .u64 r.v,.int .u64 r.c]
structure Tryz.PTk where
 ct:Int
 sg:List Sg
structure Tryz.PS where
 ev:Bool
 tb:Bool
 nx:Int
 nw:Bool
 us:Int
 uw:Bool
 tk:List (Int×PTk)
 ou:Int
 ph:Nat
 op:Int
 nn:Bool
 hd:Int
 sg:List Sg
 wr:Int
 it:Bool
 dn:Bool
 br:Bool
def Tryz.zaH (n at0:Int) (wr:Bool) (by0:Int):Int×Bool:=if at0+by0<n then (at0+by0,wr) else (at0+by0-n,!wr)
def Tryz.zhP (f:Int) (wr:Bool):Bool:=(decide (f/128%2=1)==wr)&&(decide (f/32768%2=1) !=wr)
structure Tryz.PCh where
 id:Int
 ct:Int
 sg:List Sg
 e:Int
def Tryz.pSeg (g:Nat→Int) (a:Nat):Sg:=⟨zac g a 8,zac g (a+8) 4,zac g (a+14) 2/2%2*2 !=0⟩
def Tryz.zeK (g:Nat→Int) (a:Nat):Nat→List Sg→List Sg×Int
 | 0,l=>(l,0)
 | k+1,l=>if zac g (a+14) 2/4%2=1 then ([],4) else zeK g (a+16) k (l++ [pSeg g a])
def Tryz.zbx (N:Nat) (g:Nat→Int) (at1 n:Int):List Sg×Int:=
 if (entN N at1 n).2≠0 then ([],(entN N at1 n).2) else zeK g at1.toNat (entN N at1 n).1.toNat []
def Tryz.zbB (N:Nat) (g:Nat→Int) (n:Int) (tb:Bool):Nat→Int→Int→List Sg→Int→PCh
 | 0,_,ct,l,id=>⟨id,ct,l,4⟩
 | k+1,at0,ct,l,_=>
  let a:=(4096+16*at0).toNat
  let f:=zac g (a+14) 2
  let id:=zac g (a+12) 2
  if f/4%2=1 then
   if tb=false∨1<ct+1∨f%2=1 then ⟨id,ct+1,l,4⟩
   else ⟨id,ct+1,(zbx N g (zac g a 8) (zac g (a+8) 4)).1,(zbx N g (zac g a 8) (zac g (a+8) 4)).2⟩
  else if f%2=0 then ⟨id,ct+1,l++ [pSeg g a],0⟩
  else zbB N g n tb k (zaH n at0 true 1).1 (ct+1) (l++ [pSeg g a]) id
def Tryz.zdS (N:Nat) (g:Nat→Int) (n:Int) (at0:Int) (tb:Bool):PCh:=
 let t:=zbB N g n tb n.toNat at0 0 [] 0
 if t.e≠0 then ⟨0,0,[],t.e⟩ else if n≤t.id then ⟨0,0,[],4⟩ else if zgq N t.sg≠0 then ⟨0,0,[],zgq N t.sg⟩ else t
def Tryz.posW (at0:Int) (wr:Bool):Int:=at0+if wr then 32768 else 0
def Tryz.zp9 (n ea:Int) (ew:Bool) (na:Int) (nw:Bool) (by0:Int):Bool:=decide ((na-(if ew=nw then ea else ea-n)-1)%65536<by0%65536)
def Tryz.zfV (n us:Int) (uw:Bool) (ct w:Int) (it0:Bool):Bool:=
 if w/65536%4=0 then true
 else if w/65536%4=2 then
  (if w%32768<n then zp9 n (w%32768) (decide (w/32768%2=1)) us uw ct else true)
 else it0
def Tryz.posA (i b:Nat):AV:= .agg [.int .i64 (lnv i),.bool (.var b)]
end Go.Proofs
namespace Go.Proofs
open Go.Dw
def Tryz.zmK:List Ent:= []
def Tryz.zpe:List Sh:= []
def Tryz.zmL:List AV:= [posA 4 0,.int .i64 (lnv 5),.int .i64 (szv 0)]
def Tryz.ztH:List (SB×Bool):= []
def Tryz.zta:List Leaf:= [
 ⟨.tup [.agg [.int .i64 (.lit 0),.bool (.lit false)],.int .i64 (.lit 2)],[],[],0,[]⟩,
 ⟨.tup [.agg [.int .i64 (.bin .sub .i64 (.bin .add .i64 (lnv 4) (lnv 5)) (szv 0)),.bool (.not (.var 0))],.int .i64 (.lit 0)],[],[],0,[]⟩,
 ⟨.tup [.agg [.int .i64 (.bin .add .i64 (lnv 4) (lnv 5)),.bool (.var 0)],.int .i64 (.lit 0)],[],[],0,[]⟩]
def Tryz.zs9:List (List (SB×Bool)×Nat):= [
 ([((.cmp .geq (lnv 4) (szv 0)),true)],0),
 ([((.cmp .geq (lnv 4) (szv 0)),false),((.cmp .gtr (lnv 5) (szv 0)),true)],0),
 ([((.cmp .geq (lnv 4) (szv 0)),false),((.cmp .gtr (lnv 5) (szv 0)),false),((.cmp .geq (.bin .add .i64 (lnv 4) (lnv 5)) (szv 0)),true)],1),
 ([((.cmp .geq (lnv 4) (szv 0)),false),((.cmp .gtr (lnv 5) (szv 0)),false),((.cmp .geq (.bin .add .i64 (lnv 4) (lnv 5)) (szv 0)),false)],2)]
theorem Tryz.ztG:(ev prog (zbf zmK) 100000 (.call 113 zmL (zba 0 zpe) (zb8 zta 0))).ways ztH=some zs9:=by kernel_rfl
theorem Tryz.zva:(zaJ zpe&&zay zmK&&AV.smallL zmL&&zaC zta)=true:=by kernel_rfl
def Tryz.zmI:List Ent:= []
def Tryz.zpc:List Sh:= []
def Tryz.zmJ:List AV:= [posA 4 0,posA 6 1,.int .i64 (lnv 5),.int .i64 (szv 0)]
def Tryz.ztD:List (SB×Bool):= []
def Tryz.zs8:List Leaf:= [
 ⟨.tup [.bool (.lit false),.int .i64 (.lit 2)],[],[],0,[]⟩,
 ⟨.tup [.bool (.cmp .lss (.bin .sub .u16 (.bin .sub .u16 (.flds [⟨6,0,4611686018427387903,0,16,0⟩] 0) (.wrap .u16 (.bin .sub .i64 (lnv 4) (szv 0)))) (.lit 1)) (.bin .sub .u16 (.flds [⟨6,0,4611686018427387903,0,16,0⟩] 0) (.wrap .u16 (.bin .sub .i64 (lnv 6) (lnv 5))))),.int .i64 (.lit 0)],[],[],0,[]⟩,
 ⟨.tup [.bool (.cmp .lss (.bin .sub .u16 (.bin .sub .u16 (.flds [⟨6,0,4611686018427387903,0,16,0⟩] 0) (.flds [⟨4,0,4611686018427387903,0,16,0⟩] 0)) (.lit 1)) (.bin .sub .u16 (.flds [⟨6,0,4611686018427387903,0,16,0⟩] 0) (.wrap .u16 (.bin .sub .i64 (lnv 6) (lnv 5))))),.int .i64 (.lit 0)],[],[],0,[]⟩]
def Tryz.zs7:List (List (SB×Bool)×Nat):= [
 ([((.cmp .geq (lnv 4) (szv 0)),true)],0),
 ([((.cmp .geq (lnv 4) (szv 0)),false),((.cmp .geq (lnv 6) (szv 0)),true)],0),
 ([((.cmp .geq (lnv 4) (szv 0)),false),((.cmp .geq (lnv 6) (szv 0)),false),((.cmp .gtr (lnv 5) (szv 0)),true)],0),
 ([((.cmp .geq (lnv 4) (szv 0)),false),((.cmp .geq (lnv 6) (szv 0)),false),((.cmp .gtr (lnv 5) (szv 0)),false),((.beq (.var 0) (.var 1)),false)],1),
 ([((.cmp .geq (lnv 4) (szv 0)),false),((.cmp .geq (lnv 6) (szv 0)),false),((.cmp .gtr (lnv 5) (szv 0)),false),((.beq (.var 0) (.var 1)),true)],2)]
theorem Tryz.ztC:(ev prog (zbf zmI) 100000 (.call 122 zmJ (zba 0 zpc) (zb8 zs8 0))).ways ztD=some zs7:=by kernel_rfl
theorem Tryz.zu8:(zaJ zpc&&zay zmI&&AV.smallL zmJ&&zaC zs8)=true:=by kernel_rfl
def Tryz.zmG:List Ent:= []
def Tryz.zo7:List Sh:= []
def Tryz.zmH:List AV:= [posA 4 0]
def Tryz.ztz:List (SB×Bool):= []
def Tryz.zs5:List Leaf:= [
 ⟨.int .u16 (.flds [⟨4,0,4611686018427387903,0,15,0⟩] 32768),[],[],0,[]⟩,
 ⟨.int .u16 (.flds [⟨4,0,4611686018427387903,0,15,0⟩] 0),[],[],0,[]⟩]
def Tryz.zs4:List (List (SB×Bool)×Nat):= [
 ([(.var 0,true)],0),
 ([(.var 0,false)],1)]
theorem Tryz.zty:(ev prog (zbf zmG) 100000 (.call 158 zmH (zba 0 zo7) (zb8 zs5 0))).ways ztz=some zs4:=by kernel_rfl
theorem Tryz.zu5:(zaJ zo7&&zay zmG&&AV.smallL zmH&&zaC zs5)=true:=by kernel_rfl
def Tryz.zmQ:List Ent:= []
def Tryz.zpu:List Sh:= []
def Tryz.zmR:List AV:= [posA 4 0,.int .i64 (lnv 5),.int .i64 (szv 0)]
def Tryz.ztS:List (SB×Bool):= []
def Tryz.zte:List Leaf:= [
 ⟨.tup [.agg [.int .i64 (.lit 0),.bool (.lit false)],.int .i64 (.lit 2)],[],[],0,[]⟩,
 ⟨.tup [.agg [.int .i64 (.bin .sub .i64 (.bin .add .i64 (lnv 4) (lnv 5)) (szv 0)),.bool (.not (.var 0))],.int .i64 (.lit 0)],[],[],0,[]⟩,
 ⟨.tup [.agg [.int .i64 (.bin .add .i64 (lnv 4) (lnv 5)),.bool (.var 0)],.int .i64 (.lit 0)],[],[],0,[]⟩]
def Tryz.ztd:List (List (SB×Bool)×Nat):= [
 ([((.cmp .geq (lnv 4) (szv 0)),true)],0),
 ([((.cmp .geq (lnv 4) (szv 0)),false),((.cmp .gtr (lnv 5) (szv 0)),true)],0),
 ([((.cmp .geq (lnv 4) (szv 0)),false),((.cmp .gtr (lnv 5) (szv 0)),false),((.cmp .geq (.bin .add .i64 (lnv 4) (lnv 5)) (szv 0)),true)],1),
 ([((.cmp .geq (lnv 4) (szv 0)),false),((.cmp .gtr (lnv 5) (szv 0)),false),((.cmp .geq (.bin .add .i64 (lnv 4) (lnv 5)) (szv 0)),false)],2)]
theorem Tryz.ztR:(ev prog (zbf zmQ) 100000 (.call 40 zmR (zba 0 zpu) (zb8 zte 0))).ways ztS=some ztd:=by kernel_rfl
theorem Tryz.zvj:(zaJ zpu&&zay zmQ&&AV.smallL zmR&&zaC zte)=true:=by kernel_rfl
end Go.Proofs
end
