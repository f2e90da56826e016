/-
  Proved: laws on the way to 'PserveEndsProof' (texts DwLoop WkA WkB SoI SoJ SoK SoL SoM SoN WkC WkD WkE WkF0 WkF WkG DwTurn WkH0 WkH WkI0 WkI WkJ WkK PsA PsB0 PsB PsC PsD0 PsD PsE PsG0 PsG WkL WkM PsH XaA WkN WkO WkP WkQ WkR WkS0 WkS1 WkS WkT); no condition.
-/
import Derived.Test.YtfoggkodmjnmcaaGreatM2
import Derived.KernelRfl
import Derived.Defers
import Derived.BigFrame
import Derived.Recover
set_option linter.unusedSimpArgs false
set_option linter.unusedVariables false
set_option maxHeartbeats 4000000
noncomputable section
namespace Go.Dw
open Go.RowKit
structure LEnd where
 test:SB
 ex:Ex
 slots:List (Nat×AV)
 gs:Nat
structure LEnt where
 p:List Nat
 n:Nat
 gs:Nat
 slots:List (Nat×AV)
 keep:List Nat
 rows:List (Nat×List AV)
 base:Nat
 nopq:Nat
 ends:List LEnd
def getE (env:T AV) (t:Nat):AV:=
 match env.get t with
 | some v=>v
 | none=>zbG
def zea:Nat→T AV→T AV
 | 0,t=>t
 | n+1,t=>zea n (t.set n .junk)
def zsV (env:T AV):List Nat→T AV→T AV
 | [], t=>t
 | i::l,t=>zsV env l (t.set i (getE env i))
def setE:List (Nat×AV)→T AV→T AV
 | [], t=>t
 | p::l,t=>setE l (t.set p.1 p.2)
def zu0:List Nat→List Nat→Bool
 | [], [] => true
 | a::l,b::m=>match Nat.beq a b with|true=>zu0 l m|false=>false
 | _,_=>false
def zAy:AV→Bool
 | .junk=>false
 | _=>true
def ziw (N:Nat) (env:T AV):List (Nat×AV)→Bool
 | [] => true
 | p::l=>match Nat.blt p.1 N,AV.beq (getE env p.1) p.2,zAy p.2 with|true,true,true=>ziw N env l|_,_,_=>false
def zaG (N:Nat):List (Nat×AV)→Bool
 | [] => true
 | p::l=>match Nat.blt p.1 N with|true=>zaG N l|false=>false
def zvc (N:Nat):List Nat→Bool
 | [] => true
 | p::l=>match Nat.blt p N with|true=>zvc N l|false=>false
def zvC (N:Nat):List LEnd→Bool
 | [] => true
 | e::l=>match zaG N e.slots with|true=>zvC N l|false=>false
def LEnt.fits (e:LEnt) (p:List Nat) (N:Nat) (env:T AV) (H:Heap):Bool:=
 match zu0 p e.p,Nat.beq N e.n with
 | false,_=>false
 | true,false=>false
 | true,true=>match ziw N env e.slots,zvc N e.keep,zvC N e.ends,Nat.beq H.gs e.gs with
  | true,true,true,true=>(match env.get zaL,Nat.ble N zaL,zcl H e.rows with
   | none,true,true=>(match e.nopq with
    | 0=>true
    | _+1=>Nat.beq H.nx e.base)
   | _,_,_=>false)
  | _,_,_,_=>false
def LEnt.ent (e:LEnt) (d:LEnd):Ent:=⟨0,[],e.gs,e.base,e.nopq,zbG,d.gs⟩
def LEnt.env (e:LEnt) (d:LEnd) (N:Nat) (env:T AV):T AV:=setE d.slots (zsV env e.keep (zea N .leaf))
def LEnt.ans (e:LEnt) (N:Nat) (env:T AV) (H:Heap):List LEnd→LAns
 | [] => []
 | d::l=>(d.test,d.ex,e.env d N env,(e.ent d).heap H)::e.ans N env H l
def zAN:List LEnt→LOrc
 | [], _,_,_,_=>none
 | e::l,p,N,env,H=>match e.fits p N env H with
  | true=>some (e.ans N env H e.ends)
  | false=>zAN l p N env H
def zaD (l:List LEnt):LOrc:=fun p N env H=>
 match p with
 | 2::_=>none
 | p=>zAN l p N env H
def zpV (ρ:Val) (l:List LEnd):Option LEnd:=znd ρ (l.map fun d=>(d.test,d))
def zrF (P:Program) (ρ:Val) (w0:World) (K:Nat→Prop) (g:Gho) (e:LEnt):Prop:=
 ∀ c,zaI P e.p=c→ ∀(j:J) (a:Act) (w:World) (F:Nat→Prop) (n:Nat),a.tmps.size=e.n→a.defers= []→(∀s∈e.slots,s.1<e.n∧R ρ j s.2 (a.tmps.getD s.1 undef))→(∀r∈e.rows,∀L,j r.1=some L→ ¬F L.blk∧ ∃vals,RL ρ j r.2 vals∧Row w L vals)→
  (∀ k,n≤k→j k=none)→(e.nopq≠0→n=e.base)→(∀b,F b→b<w.heap.size)→w0.heap.size≤w.heap.size→g.fact e.gs (opqs j) F w→(∀i,i<w0.heap.size→ ¬K i→w.heap[i]? =w0.heap[i]?)→
  c.wp P (fun ex a' w'=> ∃d qs F',zpV ρ e.ends=some d∧ex=exOf d.ex∧a'.tmps.size=e.n∧a'.defers= []∧(∀t∈e.keep,a'.tmps.getD t undef=a.tmps.getD t undef)∧qs.length=e.nopq∧
   (∀ s∈d.slots,R ρ (jq j n qs) s.2 (a'.tmps.getD s.1 undef))∧g.fact d.gs (opqs (jq j n qs)) F' w'∧(∀b,F' b→b<w'.heap.size∧(F b∨w.heap.size≤b))∧Mv (fun b=>F b∧(w0.heap.size≤b∨K b)) w w') a w
def zFC (P:Program) (ρ:Val) (w0:World) (K:Nat→Prop) (g:Gho) (e:LEnt):Prop:=
  ∀ c,zaI P e.p= .loop c→ ∀(j:J) (a:Act) (w:World) (F:Nat→Prop) (n:Nat),a.tmps.size=e.n→a.defers= []→(∀s∈e.slots,s.1<e.n∧R ρ j s.2 (a.tmps.getD s.1 undef))→(∀r∈e.rows,∀L,j r.1=some L→ ¬F L.blk∧ ∃vals,RL ρ j r.2 vals∧Row w L vals)→
    (∀ k,n≤k→j k=none)→(e.nopq≠0→n=e.base)→(∀b,F b→b<w.heap.size)→w0.heap.size≤w.heap.size→g.fact e.gs (opqs j) F w→(∀i,i<w0.heap.size→ ¬K i→w.heap[i]? =w0.heap[i]?)→
    (Code.loop c).wp P (fun ex a' w'=> ∃d qs F',zpV ρ e.ends=some d∧ex=exOf d.ex∧a'.tmps.size=e.n∧a'.defers= []∧(∀t∈e.keep,a'.tmps.getD t undef=a.tmps.getD t undef)∧qs.length=e.nopq∧
      (∀ s∈d.slots,R ρ (jq j n qs) s.2 (a'.tmps.getD s.1 undef))∧g.fact d.gs (opqs (jq j n qs)) F' w'∧(∀b,F' b→b<w'.heap.size∧(F b∨w.heap.size≤b))∧Mv (fun b=>F b∧(w0.heap.size≤b∨K b)) w w') a w
def zqA (P:Program) (ρ:Val) (w0:World) (K:Nat→Prop) (g:Gho):List LEnt→Prop
 | [] => True
 | e::l=>zrF P ρ w0 K g e∧zqA P ρ w0 K g l
def zan:List (Nat×AV)→Bool
 | [] => true
 | s::l=>match s.2.small with|true=>zan l|false=>false
def zdJ:List LEnd→Bool
 | [] => true
 | d::l=>match d.test.small,zan d.slots with|true,true=>zdJ l|_,_=>false
def zgf:List (Nat×List AV)→Bool
 | [] => true
 | r::l=>match AV.smallL r.2 with|true=>zgf l|false=>false
theorem zge: ∀ {l:List (Nat×List AV)},zgf l=true→ ∀s∈l,AV.smallL s.2=true
 | [], _,s,h=>by cases h
 | p::l,hl,s,h=>by
  unfold zgf at hl
  split at hl
  ·rename_i hb
   rcases List.mem_cons.1 h with rfl|h
   ·exact hb
   ·exact zge hl s h
  ·cases hl
def zak:List LEnt→Bool
 | [] => true
 | e::l=>match zan e.slots,zdJ e.ends,zgf e.rows with|true,true,true=>zak l|_,_,_=>false
theorem zcx: ∀(n:Nat) (t0:T AV) (t:Nat),zaS (zea n t0) t=if t<n then .junk else zaS t0 t
 | 0,t0,t=>by rw [if_neg (by omega)];rfl
 | n+1,t0,t=>by
  unfold zea
  rw [zcx n,zbs]
  by_cases h:t<n
  ·rw [if_pos h,if_pos (by omega)]
  ·rw [if_neg h]
   by_cases h2:t=n
   ·rw [if_pos h2,if_pos (by omega)]
   ·rw [if_neg h2,if_neg (by omega)]
theorem zs3 (env:T AV) (t:Nat):getE env t=zaS env t:=rfl
theorem zeN {env:T AV}: ∀(l:List Nat) (t0:T AV) (t:Nat),(t∈l∧zaS (zsV env l t0) t=zaS env t)∨zaS (zsV env l t0) t=zaS t0 t
 | [], t0,t=> .inr rfl
 | i::l,t0,t=>by
  unfold zsV
  rcases zeN (env:=env) l (t0.set i (getE env i)) t with ⟨h1,h2⟩|h
  ·exact .inl ⟨List.mem_cons_of_mem _ h1,h2⟩
  ·rw [h,zbs]
   by_cases hi:t=i
   ·rw [if_pos hi,zs3,hi];exact .inl ⟨List.mem_cons_self ..,rfl⟩
   ·rw [if_neg hi];exact .inr rfl
theorem zcZ: ∀(l:List (Nat×AV)) (t0:T AV) (t:Nat),(∃v,(t,v)∈l∧zaS (setE l t0) t=v)∨zaS (setE l t0) t=zaS t0 t
 | [], t0,t=> .inr rfl
 | p::l,t0,t=>by
  unfold setE
  rcases zcZ l (t0.set p.1 p.2) t with ⟨v,h1,h2⟩|h
  ·exact .inl ⟨v,List.mem_cons_of_mem _ h1,h2⟩
  ·rw [h,zbs]
   by_cases hi:t=p.1
   ·rw [if_pos hi];exact .inl ⟨p.2,by rw [hi];exact List.mem_cons_self ..,rfl⟩
   ·rw [if_neg hi];exact .inr rfl
theorem zfH {N:Nat}: ∀ {l:List (Nat×AV)},zaG N l=true→ ∀s∈l,s.1<N
 | [], _,s,h=>by cases h
 | p::l,hl,s,h=>by
  unfold zaG at hl
  split at hl
  ·rename_i hb
   rcases List.mem_cons.1 h with rfl|h
   ·rwa [Nat.blt_eq] at hb
   ·exact zfH hl s h
  ·cases hl
theorem zmo {N:Nat}: ∀ {l:List Nat},zvc N l=true→ ∀s∈l,s<N
 | [], _,s,h=>by cases h
 | p::l,hl,s,h=>by
  unfold zvc at hl
  split at hl
  ·rename_i hb
   rcases List.mem_cons.1 h with rfl|h
   ·rwa [Nat.blt_eq] at hb
   ·exact zmo hl s h
  ·cases hl
theorem zmD {N:Nat}: ∀ {l:List LEnd},zvC N l=true→ ∀d∈l,zaG N d.slots=true
 | [], _,s,h=>by cases h
 | p::l,hl,s,h=>by
  unfold zvC at hl
  split at hl
  ·rename_i hb
   rcases List.mem_cons.1 h with rfl|h
   ·exact hb
   ·exact zmD hl s h
  ·cases hl
theorem zhN {N:Nat} {env:T AV}: ∀ {l:List (Nat×AV)},ziw N env l=true→ ∀s∈l,s.1<N∧zaS env s.1=s.2∧s.2≠ .junk
 | [], _,s,h=>by cases h
 | p::l,hl,s,h=>by
  unfold ziw at hl
  split at hl
  ·rename_i hb hv hj
   rcases List.mem_cons.1 h with rfl|h
   ·exact ⟨by rwa [Nat.blt_eq] at hb,by rw [←zs3];exact AV.beq_eq hv,fun e=>by rw [e] at hj;cases hj⟩
   ·exact zhN hl s h
  ·cases hl
theorem zqj: ∀ {l m:List Nat},zu0 l m=true→l=m
 | [], [], _=>rfl
 | a::l,b::m,h=>by
  unfold zu0 at h
  split at h
  ·rename_i hb;rw [zax hb,zqj h]
  ·cases h
 | [], _::_,h=>by cases h
 | _::_,[],h=>by cases h
theorem zcp: ∀ {l:List (Nat×AV)},zan l=true→ ∀s∈l,s.2.small=true
 | [], _,s,h=>by cases h
 | p::l,hl,s,h=>by
  unfold zan at hl
  split at hl
  ·rename_i hb
   rcases List.mem_cons.1 h with rfl|h
   ·exact hb
   ·exact zcp hl s h
  ·cases hl
theorem zei: ∀ {l:List LEnd},zdJ l=true→ ∀d∈l,d.test.small=true∧zan d.slots=true
 | [], _,s,h=>by cases h
 | p::l,hl,s,h=>by
  unfold zdJ at hl
  split at hl
  ·rename_i hb hc
   rcases List.mem_cons.1 h with rfl|h
   ·exact ⟨hb,hc⟩
   ·exact zei hl s h
  ·cases hl
theorem zl5 {ρ:Val} {α:Type} (e:SB×α) (l:List (SB×α)):znd ρ (e::l)=if e.1.den ρ=true then some e.2 else znd ρ l:=by
 obtain ⟨b,x⟩:=e
 show (match b with| .lit true=>some x|b=>if b.den ρ=true then some x else znd ρ l)=_
 split
 ·rfl
 ·rfl
theorem zbA {ρ:Val} (e:LEnd) (l:List LEnd):zpV ρ (e::l)=if e.test.den ρ=true then some e else zpV ρ l:=zl5 _ _
theorem zjL {ρ:Val}: ∀ {l:List LEnd} {d:LEnd},zpV ρ l=some d→d∈l
 | [], d,h=>by cases h
 | e::l,d,h=>by
  rw [zbA] at h
  split at h
  ·cases h;exact List.mem_cons_self ..
  ·exact List.mem_cons_of_mem _ (zjL h)
theorem zpU {ρ:Val} {m:Nat→Bool} {e:LEnt} {N:Nat} {env:T AV} {H:Heap}: ∀ {l:List LEnd} {d:LEnd},zdJ l=true→zpV ρ l=some d→znd (ρ.mark m) (e.ans N env H l)=some (d.ex,e.env d N env,(e.ent d).heap H)
 | [], d,_,h=>by cases h
 | e0::l,d,hs,h=>by
  have hs0:=(zei hs e0 (List.mem_cons_self ..)).1
  unfold zdJ at hs
  split at hs
  case h_2=>cases hs
  rw [zbA] at h
  unfold LEnt.ans
  rw [zl5]
  simp only [SB.den_mark ρ m _ hs0]
  split at h
  ·rename_i ht
   cases h
   rw [if_pos ht]
  ·rename_i ht
   rw [if_neg ht]
   exact zpU hs h
theorem zhA {P:Program} {ρ:Val} {w0:World} {K:Nat→Prop} {g:Gho} (m:Nat→Bool) {l:List LEnt} (hs:zak l=true) (h:zqA P ρ w0 K g l):zrE P (ρ.mark m) (cxOf w0 K g) (zaD l):=by
 refine ⟨fun _ _ _ _=>rfl,fun p N env H r c hc hr j a w hi he=> ?_⟩
 unfold zaD at hr
 split at hr
 ·cases hr
 induction l with
 | nil=>cases hr
 | cons e l ih=>
  unfold zak at hs
  split at hs
  case h_2=>cases hs
  rename_i h1 h2 h3
  unfold zAN at hr
  split at hr
  case h_2=>exact ih hs h.2 hr
  rename_i hf
  cases hr
  unfold LEnt.fits at hf
  split at hf
  ·cases hf
  ·cases hf
  rename_i hp hN
  have hp:=zqj hp
  have hN:=zax hN
  subst hp hN
  split at hf
  case h_2=>cases hf
  rename_i f1 f2 f3 f4
  split at hf
  case h_2=>cases hf
  rename_i f5 f6 f7
  have f4:=zax f4
  have f6:=Nat.le_of_ble_eq_true f6
  have hdf:a.defers= []:=he.dfr.none (by unfold zaS;rw [f5])
  have hG:=hi.gho
  rw [f4] at hG
  obtain ⟨F,g1,g2⟩:=hG
  have hnone: ∀k,H.nx≤k→j k= .none:=fun k hk=>by
   cases hjk:j k with
   | none=>rfl
   | some L=>have:=hi.dom k L hjk;omega
  have hbase:e.nopq≠0→H.nx=e.base:=fun hn=>by
   split at hf
   ·rename_i h0;exact absurd h0 hn
   ·exact zax hf
  have hss:=zcp h1
  have hsl: ∀s∈e.slots,s.1<e.n∧R ρ j s.2 (a.tmps.getD s.1 undef):=fun s hs'=>by
   obtain ⟨q1,q2,q3⟩:=zhN f1 s hs'
   refine ⟨q1,?_⟩
   have:=he.get s.1 (by omega)
   rw [q2] at this
   exact (R_mark m (hss s hs')).1 (this.resolve_left q3)
  have hrw: ∀r∈e.rows,∀L,j r.1=some L→ ¬F L.blk∧ ∃vals,RL ρ j r.2 vals∧Row w L vals:=fun r hr L hL=>by
   have hri:=zb7 f7 hr
   obtain ⟨vals,arr,e',fr,q1,q2,q3,_⟩:=hi.rowOut hL hri
   refine ⟨fun hF=> ?_,vals,(RL_mark m (zge h3 r hr)).1 q2,arr,e',fr,q1,q3⟩
   obtain ⟨_,_,_,_,_,_,h5,_⟩:=ze3 hri
   exact (g1 _ hF).2 ⟨r.1,L,hL,hi.qrow hL h5,rfl⟩
  refine wp_mono (h.1 c hc j a w F H.nx he.size hdf hsl hrw hnone hbase (fun b hF=>(g1 b hF).1) hi.fr.size g2 hi.fr.old) fun ex a' w' hh=> ?_
  obtain ⟨d,qs,F',e1,e2,e3,e4,e5,e6,e7,e8,e9,e10⟩:=hh
  have hd:=zjL e1
  have hns:(cxOf w0 K g).G (e.ent d).gs' (jq j H.nx qs) w':=⟨F',fun b hF'=>⟨(e9 b hF').1,fun hm=>by
   have hm:=zni hnone hm
   rcases (e9 b hF').2 with hF|hF
   ·exact (g1 b hF).2 hm
   ·obtain ⟨k,L,k1,k2,k3⟩:=hm
    have:=hi.blk k L k1 k2
    omega⟩,e8⟩
  obtain ⟨i1,i2⟩:=Inv.ent (e:=e.ent d) hi f4 e6 hns (e10.mono fun b hb=>⟨(g1 b hb.1).2,hb.2⟩)
  refine ⟨d.ex,e.env d e.n env,(e.ent d).heap H,jq j H.nx qs,zpU h2 e1,e2,⟨e3,f6,fun t ht=> ?_,?_⟩,i1,i2⟩
  ·unfold LEnt.env
   have hds:=(zei h2 d hd).2
   rcases zcZ d.slots (zsV env e.keep (zea e.n .leaf)) t with ⟨v,q1,q2⟩|q
   ·rw [q2]
    exact .inr ((R_mark m (zcp hds _ q1)).2 (e7 _ q1))
   ·rw [q]
    rcases zeN (env:=env) e.keep (zea e.n .leaf) t with ⟨q1,q2⟩|q
    ·rw [q2,e5 t q1]
     exact (he.get t ht).imp_right (·.mono i2.sub)
    ·rw [q,zcx]
     by_cases hN:t<e.n
     ·rw [if_pos hN];exact .inl rfl
     ·rw [if_neg hN,Array.getD_eq_getD_getElem?,Array.getElem?_eq_none (by omega)]
      exact .inr zcE
  ·rw [e4]
   show DR (ρ.mark m) _ (zaS (e.env d e.n env) zaL) []
   have:zaS (e.env d e.n env) zaL=zbG:=by
    unfold LEnt.env
    rcases zcZ d.slots (zsV env e.keep (zea e.n .leaf)) zaL with ⟨v,q1,_⟩|q
    ·have:=zfH (zmD f3 d hd) _ q1
     simp only at this
     omega
    ·rw [q]
     rcases zeN (env:=env) e.keep (zea e.n .leaf) zaL with ⟨q1,_⟩|q
     ·have:=zmo f2 _ q1
      omega
     ·rw [q,zcx,if_neg (by omega)];rfl
   rw [this]
   rfl
theorem zqB {P:Program} {ρ:Val} {w0:World} {K:Nat→Prop} {g:Gho} {e:LEnt} (hn:e.nopq=0) (hg: ∀d∈e.ends,d.gs=e.gs)
    (h: ∀c,zaI P e.p= .loop c→ ∀(j:J) (a:Act) (w:World) (F:Nat→Prop),a.tmps.size=e.n→a.defers= []→(∀s∈e.slots,s.1<e.n∧R ρ j s.2 (a.tmps.getD s.1 undef))→(∀r∈e.rows,∀L,j r.1=some L→ ¬F L.blk∧ ∃vals,RL ρ j r.2 vals∧Row w L vals)→g.fact e.gs (opqs j) F w→w0.heap.size≤w.heap.size→(∀i,i<w0.heap.size→ ¬K i→w.heap[i]? =w0.heap[i]?)→
      (Code.loop c).wp P (fun ex a' w'=> ∃d,zpV ρ e.ends=some d∧ex=exOf d.ex∧a'.tmps.size=e.n∧a'.defers= []∧(∀t∈e.keep,a'.tmps.getD t undef=a.tmps.getD t undef)∧(∀s∈d.slots,R ρ j s.2 (a'.tmps.getD s.1 undef))∧Below w.heap.size w w') a w):zFC P ρ w0 K g e:=by
  intro c hc j a w F n h1 h2 h3 h4 _ _ hF hsz hf hold
  refine wp_mono (h c hc j a w F h1 h2 h3 h4 hf hsz hold) fun ex a' w' hh=> ?_
  obtain ⟨d,e1,e2,e3,e4,e5,e6,e7⟩:=hh
  refine ⟨d,[],F,e1,e2,e3,e4,e5,by rw [hn];rfl,fun s hs=>by rw [zdg];exact e6 s hs,?_,fun b hb=>⟨Nat.lt_of_lt_of_le (hF b hb) e7.size,.inl hb⟩,Mv.of_below e7⟩
  rw [zdg,hg d (zjL e1)]
  exact g.loc _ _ _ _ _ _ hf (fun _ _ h=>h) (fun b hb=>e7.block b (hF b hb)) e7.size
structure AEnt where
 t:TypeId
 s:AV
 n:Nat
 xs:List AV
 gs:Nat
 base:Nat
 nopq:Nat
 res:AV
 gs':Nat
def AEnt.ent (e:AEnt):Ent:=⟨0,[],e.gs,e.base,e.nopq,e.res,e.gs'⟩
def AEnt.fits (e:AEnt) (t:TypeId) (s:AV) (n:Nat) (xs:List AV) (H:Heap):Bool:=
 match Nat.beq t e.t,AV.beq s e.s,Nat.beq n e.n,Nat.beq H.gs e.gs with
 | true,true,true,true=>(match AV.beqL xs e.xs with
  | true=>(match e.nopq with
   | 0=>true
   | _+1=>Nat.beq H.nx e.base)
  | false=>false)
 | _,_,_,_=>false
def zaC:List AEnt→AOrc
 | [], _,_,_,_,_=>none
 | e::l,t,s,n,xs,H=>match e.fits t s n xs H with
  | true=>some (e.res,e.ent.heap H)
  | false=>zaC l t s n xs H
def zIl (P:Program) (ρ:Val) (w0:World) (K:Nat→Prop) (g:Gho) (e:AEnt):Prop:=
 ∀ (j:J) (w:World) (F:Nat→Prop) (n:Nat) (us:Value) (bb o cap:Nat) (vals:List Value) (ty:TypeId),R ρ j e.s us→zBU w bb o vals→RL ρ j e.xs vals→(∀k,n≤k→j k=none)→(e.nopq≠0→n=e.base)→(∀b,F b→b<w.heap.size)→w0.heap.size≤w.heap.size→g.fact e.gs (opqs j) F w→
  ∃ u w' qs F',(Builtin.append_ #[e.t,e.t] ty #[us,.slice (some ⟨bb,o,none⟩) e.n cap]).run P w= .ok u w'∧qs.length=e.nopq∧R ρ (jq j n qs) e.res u∧g.fact e.gs' (opqs (jq j n qs)) F' w'∧(∀b,F' b→b<w'.heap.size∧(F b∨w.heap.size≤b))∧Mv (fun b=>F b∧(w0.heap.size≤b∨K b)) w w'
def zrt (P:Program) (ρ:Val) (w0:World) (K:Nat→Prop) (g:Gho):List AEnt→Prop
 | [] => True
 | e::l=>zIl P ρ w0 K g e∧zrt P ρ w0 K g l
def zal:List AEnt→Bool
 | [] => true
 | e::l=>match e.s.small,AV.smallL e.xs,e.res.small with|true,true,true=>zal l|_,_,_=>false
theorem zhK {P:Program} {ρ:Val} {w0:World} {K:Nat→Prop} {g:Gho} (m:Nat→Bool) {l:List AEnt} (hs:zal l=true) (h:zrt P ρ w0 K g l):zwa P (ρ.mark m) (cxOf w0 K g) (zaC l):=by
 intro t s n xs H r hr k hk j w us bb o cap vals ty hi hus hv hxs
 induction l with
 | nil=>cases hr
 | cons e l ih=>
  unfold zal at hs
  split at hs
  case h_2=>cases hs
  rename_i h1 h2 h3
  unfold zaC at hr
  split at hr
  case h_2=>exact ih hs h.2 hr
  rename_i hf
  cases hr
  unfold AEnt.fits at hf
  split at hf
  case h_2=>cases hf
  rename_i f1 f2 f3 f4
  split at hf
  case h_2=>cases hf
  rename_i f5
  have f1:=zax f1
  have f2:=AV.beq_eq f2
  have f3:=zax f3
  have f4:=zax f4
  have f5:=AV.beqL_eq f5
  subst f1 f2 f3 f5
  have hG:=hi.gho
  rw [f4] at hG
  obtain ⟨F,g1,g2⟩:=hG
  have hnone: ∀k,H.nx≤k→j k= .none:=fun k hk=>by
   cases hjk:j k with
   | none=>rfl
   | some L=>have:=hi.dom k L hjk;omega
  have hbase:e.nopq≠0→H.nx=e.base:=fun hn=>by
   split at hf
   ·rename_i h0;exact absurd h0 hn
   ·exact zax hf
  obtain ⟨u,w',qs,F',e1,e2,e3,e4,e5,e6⟩:=h.1 j w F H.nx us bb o cap vals ty ((R_mark m h1).1 hus) hv ((RL_mark m h2).1 hxs) hnone hbase (fun b hF=>(g1 b hF).1) hi.fr.size g2
  have hns:(cxOf w0 K g).G e.ent.gs' (jq j H.nx qs) w':=⟨F',fun b hF'=>⟨(e5 b hF').1,fun hm=>by
   have hm:=zni hnone hm
   rcases (e5 b hF').2 with hF|hF
   ·exact (g1 b hF).2 hm
   ·obtain ⟨k,L,k1,k2,k3⟩:=hm
    have:=hi.blk k L k1 k2
    omega⟩,e4⟩
  obtain ⟨i1,i2⟩:=Inv.ent (e:=e.ent) hi f4 e2 hns (e6.mono fun b hb=>⟨(g1 b hb.1).2,hb.2⟩)
  exact ⟨u,w',e1,e.res,e.ent.heap H,jq j H.nx qs,(R_mark m h3).2 e3,i1,i2,hk⟩
theorem zqq {P:Program} (hmo:P.follows .mixedOrders=true) {orc:FuncId→List AV→Heap→Option (List (AV×Heap))} {lorc:LOrc} {aorc:AOrc} {x:Cx} {ρ:Val} {w:World} {n:Nat} {f:FuncId} {args:List AV} {vals:List Value} {H:Heap} {j:J} {ls:List Leaf} {asm:List (SB×Bool)} {ps:List (List (SB×Bool)×Nat)}
  (hor: ∀m,zfY P (ρ.mark m) x orc) (hlo: ∀m,zrE P (ρ.mark m) x lorc) (hao: ∀m,zwa P (ρ.mark m) x aorc) (hi: ∀m,Inv (ρ.mark m) x j H w) (ha: ∀m,RL (ρ.mark m) j args vals) (ht:Told ρ asm)
  (h:(evL P orc lorc aorc n (.call f args H (zaM ls 0))).paths asm=some ps):
  Calls P f vals.toArray w fun e w'=> ∃p∈ps,Told ρ p.1∧ ∃l,ls[p.2]? =some l∧ ∃m u v j' H',e= .returned u∧R (ρ.mark m) j' v u∧Inv (ρ.mark m) x j' H' w'∧St j H j' H'∧l.fits v H'=true:=by
 classical
 let m:Nat→Bool:=fun k=>decide (∃p∈ps,1000000+p.2=k∧Told ρ p.1)
 have hm: ∀p∈ps,Told ρ p.1→m (1000000+p.2)=true:=fun p hp ht=>by
  show decide _=true
  exact decide_eq_true ⟨p,hp,rfl,ht⟩
 have hd:=paths_den hm h (fun q hq=>hq) ht
 have hg:=ziG (w0:=x) (hor m) (hlo m) (hao m) (fun n rec hg=>zlX hmo hg) n
 refine Calls.mono ((hg.call f args H (zaM ls 0) hd).2 j w vals (hi m) (ha m)) fun e w' he=> ?_
 obtain ⟨u,rfl,v,H',j',h1,h2,h3,h4⟩:=he
 obtain ⟨k,l,h5,h6,h7⟩:=zhB h4
 have h7:(if 1000000+(0+k)<1000000 then ρ.b (1000000+(0+k)) else m (1000000+(0+k)))=true:=h7
 rw [if_neg (by omega)] at h7
 obtain ⟨p,hp,hk,hto⟩:=of_decide_eq_true h7
 have:p.2=k:=by omega
 subst this
 exact ⟨p,hp,hto,l,h5,m,u,v,j',H',rfl,h1,h2,h3,h6⟩
theorem zhp {P:Program} {ρ:Val} {w:World} {K:Nat→Prop} {g:Gho} {bl:List (Nat×Nat)} {shs:List Sh} {gs:Nat} {ents:List Ent} {lents:List LEnt} {aents:List AEnt} {n:Nat} {f:FuncId} {args:List AV} {vals:List Value} {ls:List Leaf} {asm:List (SB×Bool)} {ps:List (List (SB×Bool)×Nat)}
  (hmo:P.follows .mixedOrders=true)
  (h:(evL P (zau ents) (zaD lents) (zaC aents) n (.call f args (zas gs shs) (zaM ls 0))).ways asm=some ps)
  (hs:(zah shs&&zaf ents&&zak lents&&zal aents&&AV.smallL args&&zam ls)=true)
  (hK: ∀b,K b→b<w.heap.size) (ho:ShsOk ρ (jOf bl) (cxOf w K g) bl shs) (hap:apart bl shs) (hG:g.G gs (jOf bl) w) (he:zmC P ρ w K g ents) (hl:zqA P ρ w K g lents) (haa:zrt P ρ w K g aents) (ha:RL ρ (jOf bl) args vals) (ht:Told ρ asm):
  Calls P f vals.toArray w fun e w'=> ∃p∈ps,Told ρ p.1∧ ∃l,ls[p.2]? =some l∧ ∃j,znV ρ w K g bl l e w' j:=by
 simp only [Bool.and_eq_true] at hs
 obtain ⟨⟨⟨⟨⟨s1,s2⟩,s5⟩,s9⟩,s3⟩,s4⟩:=hs
 unfold Ob.ways at h
 cases hps:(evL P (zau ents) (zaD lents) (zaC aents) n (.call f args (zas gs shs) (zaM ls 0))).paths asm with
 | none=>rw [hps] at h;cases h
 | some ps0=>
 rw [hps] at h
 cases h
 have h:=hps
 refine Calls.mono (zqq (x:=cxOf w K g) hmo (fun m=>zgX (zc0 m s2 he)) (fun m=>zhA m s5 hl) (fun m=>zhK m s9 haa) (fun m=>zgS hK (zdN m s1 ho) hap hG) (fun m=>(RL_mark m s3).2 ha) ht h) fun e w' hh=> ?_
 obtain ⟨p,hp,hto,l,hl,m,u,v,j',H',rfl,h1,h2,h3,h4⟩:=hh
 obtain ⟨x1,x2,x3,x4⟩:=zb3 s4 hl
 exact ⟨(p.1.drop asm.length,p.2),zc2 hp,fun c hc=>hto c (List.mem_of_mem_drop hc),l,hl,j',ziH x1 x2 x3 x4 h1 h2 h3 h4⟩
structure zbg where
 ex:Ex
 slots:List Nat
 dfr:Option AV
 leaf:Leaf
def exEq:Ex→Ex→Bool
 | .normal,.normal=>true
 | .ret,.ret=>true
 | .exit a,.exit b=>Nat.beq a b
 | _,_=>false
def zA8 (env:T AV):List Nat→List AV
 | [] => []
 | t::l=>getE env t::zA8 env l
def zmz (env:T AV):List Nat→Bool
 | [] => true
 | t::l=>match Nat.blt t zaL,zAy (getE env t) with|true,true=>zmz env l|_,_=>false
def zvI (env:T AV) (d:Option AV):Bool:=
 match env.get zaL,d with
 | none,none=>true
 | some v,some u=>AV.beq v u
 | _,_=>false
def DRo (ρ:Val) (j:J):Option AV→List Deferred→Prop
 | none,ds=>ds= []
 | some v,ds=>DR ρ j v ds
def zaB:Option AV→Bool
 | none=>true
 | some v=>v.small
def zaH:List zbg→Nat→KC
  | [], _, _, _, _ => .bad 95 ""
  | l::r,i,ex,env,H=>match exEq ex l.ex,zvI env l.dfr,zmz env l.slots with
    | true,true,true=>(match l.leaf.fits (.tup (zA8 env l.slots)) H with
      | true => zep (1000000 + i) fun n => .ite (.var n) .ok (.bad 96 "")
      | false=>zaH r (Nat.succ i) ex env H)
    | _,_,_=>zaH r (Nat.succ i) ex env H
def envS (N:Nat) (slots:List (Nat×AV)) (d:Option AV):T AV:=
 match d with
 | none=>setE slots (zea N .leaf)
 | some v=>(setE slots (zea N .leaf)).set zaL v
def zai:List zbg→Bool
 | [] => true
 | l::r=>match zam [l.leaf],zaB l.dfr with|true,true=>zai r|_,_=>false
theorem zeP: ∀ {ls:List zbg} {i:Nat} {l:zbg},zai ls=true→ls[i]? =some l→zam [l.leaf]=true∧zaB l.dfr=true
 | [], _,_,_,h=>by cases h
 | x::r,i,l,hx,h=>by
  unfold zai at hx
  split at hx
  case h_2=>cases hx
  rename_i h1 h2
  cases i with
  | zero=>cases h;exact ⟨h1,h2⟩
  | succ i=>exact zeP hx (by simpa using h)
theorem zHL {a b:Ex} (h:exEq a b=true):a=b:=by
 cases a<;>cases b<;>simp only [exEq] at h<;>first|rfl|cases h|rw [zax h]
theorem zkx {ρ:Val} {ex:Ex} {env:T AV} {H:Heap}: ∀ {ls:List zbg} {i:Nat},Ob.den ρ (zaH ls i ex env H)→ ∃k l,ls[k]? =some l∧ex=l.ex∧zvI env l.dfr=true∧zmz env l.slots=true∧l.leaf.fits (.tup (zA8 env l.slots)) H=true∧ρ.b (1000000+(i+k))=true
 | [], i,h=>h.elim
 | l::r,i,h=>by
  unfold zaH at h
  have later:Ob.den ρ (zaH r (Nat.succ i) ex env H)→ ∃k l',(l::r)[k]? =some l'∧ex=l'.ex∧zvI env l'.dfr=true∧zmz env l'.slots=true∧l'.leaf.fits (.tup (zA8 env l'.slots)) H=true∧ρ.b (1000000+(i+k))=true:=fun h=>by
   obtain ⟨k,l',h1,h2,h3,h4,h5,h6⟩:=zkx h
   exact ⟨k+1,l',h1,h2,h3,h4,h5,by rw [show i+(k+1)=Nat.succ i+k by omega];exact h6⟩
  split at h
  ·rename_i e1 e2 e3
   split at h
   ·rename_i hf
    rw [zcf] at h
    refine ⟨0,l,rfl,zHL e1,e2,e3,hf,?_⟩
    cases hb:ρ.b (1000000+(i+0)) with
    | true=>rfl
    | false=>exact (h.2 hb).elim
   ·exact later h
  ·exact later h
theorem zA7 {ρ:Val} {j:J} {N:Nat} {env:T AV} {a:Act} (he:ER ρ j N env a): ∀ {l:List Nat},zmz env l=true→RL ρ j (zA8 env l) (l.map fun t=>a.tmps.getD t undef)
 | [], _=>RL.nil
 | t::l,h=>by
  unfold zmz at h
  split at h
  case h_2=>cases h
  rename_i h1 h2
  rw [Nat.blt_eq] at h1
  exact zab ((he.get t (by omega)).resolve_left fun e=>by rw [zs3,e] at h2;cases h2) (zA7 he h)
theorem zq7 {N:Nat} {slots:List (Nat×AV)} (hle:N≤zaL) (hlt:zaG N slots=true):zaS (setE slots (zea N .leaf)) zaL=zbG:=by
 rcases zcZ slots (zea N .leaf) zaL with ⟨v,q1,_⟩|q
 ·have:=zfH hlt _ q1
  simp only at this
  omega
 ·rw [q,zcx,if_neg (by omega)];rfl
theorem zHP {ρ:Val} {j:J} {N:Nat} {slots:List (Nat×AV)} {d:Option AV} {a:Act} (hN:a.tmps.size=N) (hd:DRo ρ j d a.defers) (hle:N≤zaL) (hlt:zaG N slots=true) (ha: ∀s∈slots,R ρ j s.2 (a.tmps.getD s.1 undef)):ER ρ j N (envS N slots d) a:=by
 have get: ∀t,t≠zaL→zaS (setE slots (zea N .leaf)) t= .junk∨R ρ j (zaS (setE slots (zea N .leaf)) t) (a.tmps.getD t undef):=fun t ht=>by
  rcases zcZ slots (zea N .leaf) t with ⟨v,q1,q2⟩|q
  ·rw [q2];exact .inr (ha _ q1)
  ·rw [q,zcx]
   by_cases h:t<N
   ·rw [if_pos h];exact .inl rfl
   ·rw [if_neg h,Array.getD_eq_getD_getElem?,Array.getElem?_eq_none (by omega)]
    exact .inr zcE
 cases d with
 | none=>
  have hd:a.defers= []:=hd
  refine ⟨hN,hle,get,?_⟩
  show DR ρ j (zaS (setE slots (zea N .leaf)) zaL) _
  rw [hd,zq7 hle hlt]
  rfl
 | some v=>
  refine ⟨hN,hle,fun t ht=> ?_,?_⟩
  ·show zaS ((setE slots (zea N .leaf)).set zaL v) t= .junk∨R ρ j (zaS ((setE slots (zea N .leaf)).set zaL v) t) _
   rw [zbs,if_neg ht]
   exact get t ht
  ·show DR ρ j (zaS ((setE slots (zea N .leaf)).set zaL v) zaL) _
   rw [zbs,if_pos rfl]
   exact hd
theorem zti {ρ:Val} {j:J} (m:Nat→Bool): ∀ {ds:List Deferred} {v:AV},v.small=true→(DR (ρ.mark m) j v ds↔DR ρ j v ds)
 | [], _,_=>Iff.rfl
 | _::ds,v,hs=>by
  constructor
  ·rintro ⟨g,args,rest,cap,rfl,e2,e3,e4⟩
   unfold AV.small AV.smallL at hs
   split at hs
   case h_2=>cases hs
   rename_i h1
   unfold AV.small at h1
   split at h1
   case h_2=>cases h1
   unfold AV.smallL at hs
   split at hs
   case h_2=>cases hs
   rename_i h2
   exact ⟨g,args,rest,cap,rfl,e2,(RL_mark m h1).1 e3,(zti m h2).1 e4⟩
  ·rintro ⟨g,args,rest,cap,rfl,e2,e3,e4⟩
   unfold AV.small AV.smallL at hs
   split at hs
   case h_2=>cases hs
   rename_i h1
   unfold AV.small at h1
   split at h1
   case h_2=>cases h1
   unfold AV.smallL at hs
   split at hs
   case h_2=>cases hs
   rename_i h2
   exact ⟨g,args,rest,cap,rfl,e2,(RL_mark m h1).2 e3,(zti m h2).2 e4⟩
theorem zv8 {ρ:Val} {j:J} (m:Nat→Bool) {ds:List Deferred} {v:Option AV} (hs:zaB v=true):DRo (ρ.mark m) j v ds↔DRo ρ j v ds:=by
 cases v with
 | none=>exact Iff.rfl
 | some v=>exact zti m hs
theorem zaz {P:Program} {ρ:Val} {w:World} {K:Nat→Prop} {g:Gho} {bl:List (Nat×Nat)} {shs:List Sh} {gs:Nat} {ents:List Ent} {lents:List LEnt} {aents:List AEnt} {n:Nat} {p:List Nat} {N:Nat} {slots:List (Nat×AV)} {dfr:Option AV} {ls:List zbg} {asm:List (SB×Bool)} {ps:List (List (SB×Bool)×Nat)}
  (hmo:P.follows .mixedOrders=true)
  (h:(evL P (zau ents) (zaD lents) (zaC aents) n (.code (zaI P p) p N (envS N slots dfr) (zas gs shs) (zaH ls 0))).ways asm=some ps)
  (hs:(zah shs&&zaf ents&&zak lents&&zal aents&&zan slots&&zai ls&&zaG N slots&&Nat.ble N zaL&&zaB dfr)=true)
  (hK: ∀b,K b→b<w.heap.size) (ho:ShsOk ρ (jOf bl) (cxOf w K g) bl shs) (hap:apart bl shs) (hG:g.G gs (jOf bl) w) (he:zmC P ρ w K g ents) (hl:zqA P ρ w K g lents) (haa:zrt P ρ w K g aents)
  {a:Act} (hN:a.tmps.size=N) (hd:DRo ρ (jOf bl) dfr a.defers) (ha: ∀s∈slots,R ρ (jOf bl) s.2 (a.tmps.getD s.1 undef)) (ht:Told ρ asm):
  (zaI P p).wp P (fun ex a' w'=> ∃q∈ps,Told ρ q.1∧ ∃l,ls[q.2]? =some l∧ex=exOf l.ex∧a'.tmps.size=N∧ ∃j,DRo ρ j l.dfr a'.defers∧znV ρ w K g bl l.leaf (.returned (.tuple (l.slots.map fun t=>a'.tmps.getD t undef).toArray)) w' j) a w:=by
 simp only [Bool.and_eq_true] at hs
 obtain ⟨⟨⟨⟨⟨⟨⟨⟨s1,s2⟩,s5⟩,s9⟩,s3⟩,s4⟩,s6⟩,s7⟩,s8⟩:=hs
 have s7:=Nat.le_of_ble_eq_true s7
 unfold Ob.ways at h
 cases hps:(evL P (zau ents) (zaD lents) (zaC aents) n (.code (zaI P p) p N (envS N slots dfr) (zas gs shs) (zaH ls 0))).paths asm with
 | none=>rw [hps] at h;cases h
 | some ps0=>
 rw [hps] at h
 cases h
 have h:=hps
 classical
 let m:Nat→Bool:=fun k=>decide (∃p∈ps0,1000000+p.2=k∧Told ρ p.1)
 have hm: ∀p∈ps0,Told ρ p.1→m (1000000+p.2)=true:=fun p hp ht=>by
  show decide _=true
  exact decide_eq_true ⟨p,hp,rfl,ht⟩
 have hdn:=paths_den hm h (fun q hq=>hq) ht
 have hg:=ziG (w0:=cxOf w K g) (zgX (zc0 m s2 he)) (zhA m s5 hl) (zhK m s9 haa) (fun n rec hg=>zlX hmo hg) n
 refine wp_mono (hg.code _ _ _ _ _ _ rfl hdn (jOf bl) a w (zgS hK (zdN m s1 ho) hap hG) (zHP hN ((zv8 m s8).2 hd) s7 s6 fun s hs=>(R_mark m (zcp s3 s hs)).2 (ha s hs))) fun ex a' w' hh=> ?_
 obtain ⟨x,env',H',j',rfl,h1,h2,h3,h4⟩:=hh
 obtain ⟨k,l,h5,h6,h7,h8,h9,h10⟩:=zkx h4
 have h10:(if 1000000+(0+k)<1000000 then ρ.b (1000000+(0+k)) else m (1000000+(0+k)))=true:=h10
 rw [if_neg (by omega)] at h10
 obtain ⟨q,hq,hk,hto⟩:=of_decide_eq_true h10
 have:q.2=k:=by omega
 subst this
 obtain ⟨y1,y2⟩:=zeP s4 h5
 obtain ⟨x1,x2,x3,x4⟩:=zb3 (i:=0) y1 rfl
 refine ⟨(q.1.drop asm.length,q.2),zc2 hq,fun c hc=>hto c (List.mem_of_mem_drop hc),l,h5,by rw [h6],h1.size,j',(zv8 m y2).1 ?_,ziH x1 x2 x3 x4 (zc5 (zA7 h1 h8)) h2 h3 h9⟩
 have hdf:=h1.dfr
 unfold zvI at h7
 unfold zaS at hdf
 split at h7
 ·rename_i e1 e2
  rw [e1] at hdf
  rw [e2]
  exact hdf.none rfl
 ·rename_i v u e1 e2
  rw [e1] at hdf
  rw [e2,←AV.beq_eq h7]
  exact hdf
 ·cases h7
theorem zbT {P:Program} {c:Code} {Q:Exit→Act→World→Prop} {α:Type} (I:α→Act→World→Prop) (μ:α→Nat)
  (h: ∀x a w,I x a w→c.wp P (fun ex a' w'=>match ex with| .normal=> ∃x',μ x'<μ x∧I x' a' w'|ex=>Q ex a' w') a w) (x:α) (a:Act) (w:World) (hI:I x a w):(Code.loop c).wp P Q a w:=by
 have key: ∀n x a w,μ x<n→I x a w→Code.rounds P c Q n a w:=by
  intro n
  induction n with
  | zero=>intro x a w hn;omega
  | succ n ih=>
   intro x a w hn hI
   refine wp_mono (h x a w hI) fun ex a' w' hh=> ?_
   cases ex with
   | normal=>
    obtain ⟨x',h1,h2⟩:=hh
    exact ih x' a' w' (by omega) h2
   | _=>exact hh
 exact wp_loop_rounds (μ x+1) (key (μ x+1) x a w (Nat.lt_succ_self _) hI)
def zFk (P:Program) (p:List Nat):Nat×Nat:=
 match zaI P p with
 | .seq _ _=>(1,0)
 | .block id _=>(2,id)
 | .loop _=>(3,0)
 | .cond _ _ _=>(4,0)
 | _=>(0,0)
theorem zhz {P:Program} {p:List Nat} (hk:(zFk P p).1=3):zaI P p= .loop (zaI P (0::p)):=by
 cases hc:zaI P p with
 | loop x=>rw [zbK hc (by simp)];rfl
 | _=>unfold zFk at hk;rw [hc] at hk;cases hk
theorem zmq {P:Program} {ρ:Val} {w0:World} {K:Nat→Prop} {g:Gho} {e:LEnt} (h:zFC P ρ w0 K g e) (hl: ∃c,zaI P e.p= .loop c:=by exact ⟨_,Go.Dw.zhz (by kernel_rfl)⟩):zrF P ρ w0 K g e:=by
 obtain ⟨c0,hc0⟩:=hl
 intro c hc
 rw [hc0] at hc
 subst hc
 exact h c0 hc0
theorem zfS {P:Program} {ρ:Val} {w0:World} {K:Nat→Prop} {g:Gho} {e:LEnt} (hn:e.nopq=0) (hg: ∀d∈e.ends,d.gs=e.gs)
    (h: ∀c,zaI P e.p= .loop c→ ∀(j:J) (a:Act) (w:World) (F:Nat→Prop),a.tmps.size=e.n→a.defers= []→(∀s∈e.slots,s.1<e.n∧R ρ j s.2 (a.tmps.getD s.1 undef))→(∀r∈e.rows,∀L,j r.1=some L→ ¬F L.blk∧ ∃vals,RL ρ j r.2 vals∧Row w L vals)→g.fact e.gs (opqs j) F w→w0.heap.size≤w.heap.size→(∀i,i<w0.heap.size→ ¬K i→w.heap[i]? =w0.heap[i]?)→
      (Code.loop c).wp P (fun ex a' w'=> ∃d,zpV ρ e.ends=some d∧ex=exOf d.ex∧a'.tmps.size=e.n∧a'.defers= []∧(∀t∈e.keep,a'.tmps.getD t undef=a.tmps.getD t undef)∧(∀s∈d.slots,R ρ j s.2 (a'.tmps.getD s.1 undef))∧Below w.heap.size w w') a w) (hl: ∃c,zaI P e.p= .loop c:=by exact ⟨_,Go.Dw.zhz (by kernel_rfl)⟩):zrF P ρ w0 K g e:=zmq (zqB hn hg h) hl
end Go.Dw
namespace Go.Proofs
open Go.Dw Go.RowKit
def Tryz.ckL (l:List (SE×Nat)):AV:= .sx 0 (lnv 0) 3 l
def Tryz.ckD:AV:= .tup [.func 115 [] [.ptr 1 0,.ptr 2 0],.tup []]
def Tryz.zhI (k:SE) (l:List (SE×Nat)):List (Nat×AV):= [(0,ckL l),(2,.ptr 1 0),(3,.ptr 2 0),(10,ckL l),(11,.int .i64 (lnv 0)),(12,.int .i64 k)]
def Tryz.zDZ (e:SE) (r:List Sh):List Sh:= .own [.int .i64 e]:: .own [.int .u64 (u64v 2)]::r
def Tryz.ckEl (a n b:Nat):Sh:= .ro [.int .u64 (u64v a),.int .u32 (u32v n),.bool (.var b)]
end Go.Proofs
namespace Go.Proofs
open Go.Dw
def Tryz.zrk:List Ent:= []
def Tryz.zvZ:List Sh:=zDZ (.lit 0) [ckEl 3 4 0]
def Tryz.zfq:List (Nat×AV):=zhI (.lit 0) [(.lit 0,3)]
def Tryz.zmN:List LEnt:= []
def Tryz.zmO:List AEnt:= []
def Tryz.zv0:Option AV:=some ckD
def Tryz.zDX:List (SB×Bool):= []
def Tryz.zBx:List zbg:= [
 ⟨.ret,[2],(some (.tup [.func 115 [] [.ptr 1 0,.ptr 2 0],.tup []])),⟨.tup [.ptr 1 0],[(1,[.int .i64 (.lit 2)]),(2,[.int .u64 (u64v 2)])],[],0,[1,2]⟩⟩,
 ⟨.normal,[0,2,3,10,11,12],(some (.tup [.func 115 [] [.ptr 1 0,.ptr 2 0],.tup []])),⟨.tup [.sx 0 ((lnv 0)) 3 [((.lit 0),3)],.ptr 1 0,.ptr 2 0,.sx 0 ((lnv 0)) 3 [((.lit 0),3)],.int .i64 (lnv 0),.int .i64 (.lit 1)],[(1,[.int .i64 (.lit 0)]),(2,[.int .u64 (.bin .add .u64 (u64v 2) (u32v 4))])],[],0,[1,2]⟩⟩,
 ⟨(.exit 0),[2],(some (.tup [.func 115 [] [.ptr 1 0,.ptr 2 0],.tup []])),⟨.tup [.ptr 1 0],[(1,[.int .i64 (.lit 0)]),(2,[.int .u64 (u64v 2)])],[],0,[1,2]⟩⟩]
def Tryz.zBw:List (List (SB×Bool)×Nat):= [
 ([((.cmp .lss (.lit 0) (lnv 0)),true),((.cmp .lss (u32v 4) (.lit 1)),true)],0),
 ([((.cmp .lss (.lit 0) (lnv 0)),true),((.cmp .lss (u32v 4) (.lit 1)),false),((.cmp .gtr (.bin .sub .u64 (u32v 4) (.lit 1)) (.bin .sub .u64 (.lit 18446744073709551615) (u64v 3))),true)],0),
 ([((.cmp .lss (.lit 0) (lnv 0)),true),((.cmp .lss (u32v 4) (.lit 1)),false),((.cmp .gtr (.bin .sub .u64 (u32v 4) (.lit 1)) (.bin .sub .u64 (.lit 18446744073709551615) (u64v 3))),false)],1),
 ([((.cmp .lss (.lit 0) (lnv 0)),false)],2)]
theorem Tryz.zDW:(evL prog (zau zrk) (zaD zmN) (zaC zmO) 100000 (.code (zaI prog [0,0,1,0,1,1,1,1,84]) [0,0,1,0,1,1,1,1,84] 53 (envS 53 zfq zv0) (zas 0 zvZ) (zaH zBx 0))).ways zDX=some zBw:=by kernel_rfl
theorem Tryz.zIa:(zah zvZ&&zaf zrk&&zak zmN&&zal zmO&&zan zfq&&zai zBx&&zaG 53 zfq&&Nat.ble 53 zaL&&zaB zv0)=true:=by kernel_rfl
def Tryz.zrj:List Ent:= []
def Tryz.zvX:List Sh:=zDZ (.lit 0) [ckEl 3 4 0,ckEl 5 6 1]
def Tryz.zfp:List (Nat×AV):=zhI (lnv 1) [(lnv 1,3),(.bin .sub .i64 (lnv 1) (.lit 1),4)]
def Tryz.zmL:List LEnt:= []
def Tryz.zmM:List AEnt:= []
def Tryz.zvY:Option AV:=some ckD
def Tryz.zDV:List (SB×Bool):= [(.cmp .lss (lnv 1) (lnv 0),true),(.cmp .gtr (lnv 1) (.lit 0),true)]
def Tryz.zBv:List zbg:= [
 ⟨.ret,[2],(some (.tup [.func 115 [] [.ptr 1 0,.ptr 2 0],.tup []])),⟨.tup [.ptr 1 0],[(1,[.int .i64 (.lit 2)]),(2,[.int .u64 (u64v 2)])],[],0,[1,2]⟩⟩,
 ⟨.normal,[0,2,3,10,11,12],(some (.tup [.func 115 [] [.ptr 1 0,.ptr 2 0],.tup []])),⟨.tup [.sx 0 ((lnv 0)) 3 [((lnv 1),3),((.bin .sub .i64 (lnv 1) (.lit 1)),4)],.ptr 1 0,.ptr 2 0,.sx 0 ((lnv 0)) 3 [((lnv 1),3),((.bin .sub .i64 (lnv 1) (.lit 1)),4)],.int .i64 (lnv 0),.int .i64 (.bin .add .i64 (lnv 1) (.lit 1))],[(1,[.int .i64 (.lit 0)]),(2,[.int .u64 (.bin .add .u64 (u64v 2) (u32v 4))])],[],0,[1,2]⟩⟩]
def Tryz.zBu:List (List (SB×Bool)×Nat):= [
 ([((.cmp .lss (u32v 4) (.lit 1)),true)],0),
 ([((.cmp .lss (u32v 4) (.lit 1)),false),((.cmp .gtr (.bin .sub .u64 (u32v 4) (.lit 1)) (.bin .sub .u64 (.lit 18446744073709551615) (u64v 3))),true)],0),
 ([((.cmp .lss (u32v 4) (.lit 1)),false),((.cmp .gtr (.bin .sub .u64 (u32v 4) (.lit 1)) (.bin .sub .u64 (.lit 18446744073709551615) (u64v 3))),false),(.var 1,true),(.var 0,false)],0),
 ([((.cmp .lss (u32v 4) (.lit 1)),false),((.cmp .gtr (.bin .sub .u64 (u32v 4) (.lit 1)) (.bin .sub .u64 (.lit 18446744073709551615) (u64v 3))),false),(.var 1,true),(.var 0,true)],1),
 ([((.cmp .lss (u32v 4) (.lit 1)),false),((.cmp .gtr (.bin .sub .u64 (u32v 4) (.lit 1)) (.bin .sub .u64 (.lit 18446744073709551615) (u64v 3))),false),(.var 1,false)],1)]
theorem Tryz.zDU:(evL prog (zau zrj) (zaD zmL) (zaC zmM) 100000 (.code (zaI prog [0,0,1,0,1,1,1,1,84]) [0,0,1,0,1,1,1,1,84] 53 (envS 53 zfp zvY) (zas 0 zvX) (zaH zBv 0))).ways zDV=some zBu:=by kernel_rfl
theorem Tryz.zH9:(zah zvX&&zaf zrj&&zak zmL&&zal zmM&&zan zfp&&zai zBv&&zaG 53 zfp&&Nat.ble 53 zaL&&zaB zvY)=true:=by kernel_rfl
def Tryz.zri:List Ent:= []
def Tryz.zvV:List Sh:=zDZ (.lit 0) []
def Tryz.zfo:List (Nat×AV):=zhI (lnv 1) []
def Tryz.zmJ:List LEnt:= []
def Tryz.zmK:List AEnt:= []
def Tryz.zvW:Option AV:=some ckD
def Tryz.zDT:List (SB×Bool):= [(.cmp .lss (lnv 1) (lnv 0),false)]
def Tryz.zBt:List zbg:= [
 ⟨(.exit 0),[2],(some (.tup [.func 115 [] [.ptr 1 0,.ptr 2 0],.tup []])),⟨.tup [.ptr 1 0],[(1,[.int .i64 (.lit 0)]),(2,[.int .u64 (u64v 2)])],[],0,[1,2]⟩⟩]
def Tryz.zBs:List (List (SB×Bool)×Nat):= [
 ([], 0)]
theorem Tryz.zDS:(evL prog (zau zri) (zaD zmJ) (zaC zmK) 100000 (.code (zaI prog [0,0,1,0,1,1,1,1,84]) [0,0,1,0,1,1,1,1,84] 53 (envS 53 zfo zvW) (zas 0 zvV) (zaH zBt 0))).ways zDT=some zBs:=by kernel_rfl
theorem Tryz.zH8:(zah zvV&&zaf zri&&zak zmJ&&zal zmK&&zan zfo&&zai zBt&&zaG 53 zfo&&Nat.ble 53 zaL&&zaB zvW)=true:=by kernel_rfl
def Tryz.zvU:List Ent:= []
def Tryz.zBq:List Sh:=zDZ (.lit 0) []
def Tryz.zg1:List (Nat×AV):= [(2,.ptr 1 0)]
def Tryz.zrg:List LEnt:= []
def Tryz.zrh:List AEnt:= []
def Tryz.zBr:Option AV:=some ckD
def Tryz.zH7:List (SB×Bool):= []
def Tryz.zFq:List zbg:= [
 ⟨.ret,[2],(some (.tup [.func 115 [] [.ptr 1 0,.ptr 2 0],.tup []])),⟨.tup [.ptr 1 0],[(1,[.int .i64 (.lit 0)]),(2,[.int .u64 (u64v 2)])],[],0,[1,2]⟩⟩]
def Tryz.zFp:List (List (SB×Bool)×Nat):= [
 ([], 0)]
theorem Tryz.zH6:(evL prog (zau zvU) (zaD zrg) (zaC zrh) 100000 (.code (zaI prog [1,1,1,1,1,84]) [1,1,1,1,1,84] 53 (envS 53 zg1 zBr) (zas 0 zBq) (zaH zFq 0))).ways zH7=some zFp:=by kernel_rfl
theorem Tryz.zJy:(zah zBq&&zaf zvU&&zak zrg&&zal zrh&&zan zg1&&zai zFq&&zaG 53 zg1&&Nat.ble 53 zaL&&zaB zBr)=true:=by kernel_rfl
open Go.RowKit
def Tryz.sK (S M B b:Nat):Prop:=b=S∨b=M∨b=B
theorem Tryz.zJk {S:Nat→Prop} {a b:World} (h:Mv S a b):Dw.Mv S a b:=⟨h.os,h.tape,h.output,h.size,h.block⟩
def Tryz.memG (P L Bs B N:Nat) (gs:List (Nat→Int)):Gho where
 fact k _ F w:=F P∧F L∧F Bs∧F B∧ ∃g,gs[k]? =some g∧GM w P L Bs B N g
 loc:=fun k _ _ F w w' h _ hb hs=>by
  obtain ⟨h1,h2,h3,h4,g,h5,h6⟩:=h
  exact ⟨h1,h2,h3,h4,g,h5,h6.kept (fun b _ hb'=>by rcases hb' with rfl|rfl|rfl|rfl<;>exact hb _ (by assumption)) hs⟩
theorem Tryz.za5 {P L Bs B N:Nat} {g:Nat→Int} {gs:List (Nat→Int)} {bl:List (Nat×Nat)} {w:World} (h:GM w P L Bs B N g) (hn: ∀b,b=P∨b=L∨b=Bs∨b=B→ ¬Mine (jOf bl) b):(memG P L Bs B N (g::gs)).G 0 (jOf bl) w:=
 ⟨fun b=>b=P∨b=L∨b=Bs∨b=B,fun b hb=>⟨by rcases hb with rfl|rfl|rfl|rfl;exact h.pl;exact h.ll;exact h.sl;exact h.bl,hn b hb⟩,.inl rfl,.inr (.inl rfl),.inr (.inr (.inl rfl)),.inr (.inr (.inr rfl)),g,rfl,h⟩
theorem Tryz.zbN {P L Bs B N k:Nat} {gs:List (Nat→Int)} {j:J} {w:World} (h:(memG P L Bs B N gs).G k j w): ∃g,gs[k]? =some g∧GM w P L Bs B N g:=by
 obtain ⟨F,_,_,_,_,_,h⟩:=h
 exact h
theorem Tryz.za1 {w:World} {S:Nat} {ρ:Val} {j:J} {K:Nat→Prop} {g:Gho} {row:List AV} {vals:List Value} (h:Own w S vals) (hr:RL ρ j row vals) (hK:K S):ShOk ρ j (cxOf w K g) (S,0) (.own row):=by
 obtain ⟨arr,e,h1,h2⟩:=h
 exact ⟨hK,rfl,vals,arr,e,h1,hr,h2⟩
theorem Tryz.zAK {P L Bs B N k:Nat} {g:Nat→Int} {w:World} (st:GM w P L Bs B N g) (hN:N≤1048576) (hk:k=1∨k=2∨k=4∨k=8) {a:Int} (h0:0≤a) (hin:a+k≤N):
  Calls prog 53 #[.pointer (some ⟨P,0,none⟩),.int .u64 a,.int .i64 k] w fun e w'=>e= .returned (.tuple #[.int .u64 (zap g a.toNat k),.int .i64 0])∧Below w.heap.size w w':=by
 have:=zHC P L Bs B N a.toNat k g w st hN hk (by omega)
 rwa [Int.toNat_of_nonneg h0] at this
theorem Tryz.ztv {P L Bs B N k:Nat} {g:Nat→Int} {w:World} (st:GM w P L Bs B N g) (hN:N≤1048576) (hk:k=1∨k=2∨k=4∨k=8) {a:Int} (v:Int) (h0:0≤a) (hin:a+k≤N):
  Calls prog 25 #[.pointer (some ⟨P,0,none⟩),.int .u64 a,.int .i64 k,.int .u64 v] w fun e w'=>e= .returned (.int .i64 0)∧GM w' P L Bs B N (putW g a.toNat k v)∧Dw.Mv (· =B) w w':=by
 have:=zB4 P L Bs B N a.toNat k v g w st hN hk (by omega)
 rw [Int.toNat_of_nonneg h0] at this
 exact Calls.mono this fun e w' ⟨h1,h2,h3⟩=>⟨h1,h2,zJk h3⟩
def Tryz.accV (k w i:Int):Value:= .agg #[.int .i64 k,.int .i64 w,.int .i64 i]
theorem Tryz.zbz {ρ:Val} {j:J} {K:Nat→Prop} {w0 w:World}: ∀ {rows:List (Nat×List AV)},zv5 ρ j K w0 w rows→ ∀ {n:Nat} {row:List AV},(n,row)∈rows→ ∀L,j n=some L→Row w L (AV.valL ρ (lcOf j) row)∧((w0.heap.size≤L.blk∨K L.blk)→L.off=0→Own w L.blk (AV.valL ρ (lcOf j) row))
 | [], _,_,_,h=>by cases h
 | x::l,ho,n,row,h=>by
  rcases List.mem_cons.1 h with rfl|h
  ·exact ho.1
  ·exact zbz ho.2 h
theorem Tryz.SegV.none {A:Nat→Prop} {w:World}:SegV A w (.slice none 0 0) []:=⟨Option.none,0,rfl,fun _ h=>(by cases h),Or.inl rfl⟩
theorem Tryz.zJz {g:Nat→Int} (hg: ∀j,0≤g j∧g j<256) (a:Nat):0≤zap g a 2∧zap g a 2<65536:=zcr g hg a 2
theorem Tryz.z16:(0:Int)≤0∧(0:Int)<65536:=by decide
theorem Tryz.z32:(0:Int)≤0∧(0:Int)<4294967296:=by decide
def Tryz.za7 (pw:Bool) (sum:Int):List Sg→Int
 | [] => if 4294967296≤sum then 2 else 0
 | x::r=>if x.len<1∨18446744073709551615-x.at1<x.len-1∨(pw=true∧x.wr=false) then 2 else za7 x.wr (sum+x.len) r
def Tryz.za3 (l:List Sg):Int:=if 64<l.length then 3 else za7 false 0 l
theorem Tryz.zbr {P:Program} {c c':Code} {Q:Exit→Act→World→Prop} {a:Act} {w:World} (e:c=c') (h:c'.wp P Q a w):c.wp P Q a w:=e▸h
structure Tryz.CkI (l:List Sg) (sa:Option Addr) (c E C:Nat) (w0:World) (k:Nat) (a:Act) (w:World):Prop where
 kl:k≤l.length
 size:a.tmps.size=53
 s0:a.tmps.getD 0 undef= .slice sa l.length c
 s2:a.tmps.getD 2 undef= .pointer (some ⟨E,0,none⟩)
 s3:a.tmps.getD 3 undef= .pointer (some ⟨C,0,none⟩)
 s10:a.tmps.getD 10 undef= .slice sa l.length c
 s11:a.tmps.getD 11 undef= .int .i64 l.length
 s12:a.tmps.getD 12 undef= .int .i64 k
 dfr: ∃d,a.defers= [d]∧ ∃args cap,d.target= .fn (.func 115) cap∧d.args=args∧(args++cap).toList= [.pointer (some ⟨E,0,none⟩),.pointer (some ⟨C,0,none⟩)]
 mv:Dw.Mv (fun b=>b=E∨b=C) w0 w
 sum: ∃pw s,Own w E [.int .i64 0]∧Own w C [.int .u64 s]∧0≤s∧s≤k*4294967296∧za7 pw s (l.drop k)=za7 false 0 l∧(k=0→pw=false)∧(∀i,k=i+1→ ∃h:i<l.length,pw=l[i].wr)
def Tryz.zbX (n k s:Int) (x y:Sg) (sl:Value):Val:=vof [n,k,s,x.at1,x.len,y.at1,y.len] [x.wr,y.wr] [sl]
theorem Tryz.zii {ρ:Val} {j:J} {E C:Nat} {ds:List Deferred} (h:DRo ρ j (some ckD) ds) (h1:j 1=some ⟨E,0,0,none⟩) (h2:j 2=some ⟨C,0,0,none⟩):
  ∃ d,ds= [d]∧ ∃args cap,d.target= .fn (.func 115) cap∧d.args=args∧(args++cap).toList= [.pointer (some ⟨E,0,none⟩),.pointer (some ⟨C,0,none⟩)]:=by
 cases ds with
 | nil=>cases h
 | cons d ds=>
  obtain ⟨g,args,rest,cap,e1,e2,e3,e4⟩:=h
  unfold ckD at e1
  cases e1
  cases ds with
  | cons d' ds'=>obtain ⟨_,_,_,_,e,_⟩:=e4;cases e
  | nil=>
   refine ⟨d,rfl,d.args,cap,e2,rfl,?_⟩
   obtain ⟨v1,m1,q1,⟨L1,r1,rfl⟩,v2,m2,rfl,⟨L2,r2,rfl⟩,q3⟩:=e3
   rw [h1] at r1;cases r1
   rw [h2] at r2;cases r2
   have q3:m2= []:=q3
   rw [q1,q3]
theorem Tryz.ck_dfr' {ρ:Val} {j:J} {E C:Nat} {ds:List Deferred} (h1:j 1=some ⟨E,0,0,none⟩) (h2:j 2=some ⟨C,0,0,none⟩)
  (h: ∃d,ds= [d]∧ ∃args cap,d.target= .fn (.func 115) cap∧d.args=args∧(args++cap).toList= [.pointer (some ⟨E,0,none⟩),.pointer (some ⟨C,0,none⟩)]):DRo ρ j (some ckD) ds:=by
 obtain ⟨d,rfl,args,cap,e1,rfl,e3⟩:=h
 exact ⟨_,_,_,cap,rfl,e1,by rw [e3];exact zab (zca h1) (zab (zca h2) RL.nil),rfl⟩
theorem Tryz.zoF {w:World} {R o:Nat} {vs:List Value} (h:w.rangeAt R o vs) (h0:vs≠ []): ∃(arr:Array Value) (e:TypeId) (fr:Nat×Nat),w.heap[R]? =some (.cells arr e fr)∧o+vs.length≤arr.size∧ ∀(i:Nat) (y:Value),vs[i]? =some y→arr[o+i]? =some y:=by
 have hc: ∀(i:Nat) (y:Value),vs[i]? =some y→ ∃arr e fr,w.heap[R]? =some (.cells arr e fr)∧arr[o+i]? =some y:=fun i y hy=>by
  have:=h i y hy
  unfold World.cell? at this
  split at this
  ·rename_i arr e fr he
   exact ⟨arr,e,fr,he,this⟩
  ·cases this
 obtain ⟨y0,hy0⟩: ∃y,vs[0]? =some y:=⟨vs[0]'(List.length_pos_iff.2 h0),List.getElem?_eq_getElem (List.length_pos_iff.2 h0)⟩
 obtain ⟨arr,e,fr,he,_⟩:=hc 0 y0 hy0
 refine ⟨arr,e,fr,he,?_,fun i y hy=> ?_⟩
 ·have hl:vs.length-1<vs.length:=by have:=List.length_pos_iff.2 h0;omega
  obtain ⟨arr',e',fr',he',hy'⟩:=hc (vs.length-1) _ (List.getElem?_eq_getElem hl)
  rw [he] at he';cases he'
  have:=(Array.getElem?_eq_some_iff.1 hy').1
  omega
 ·obtain ⟨arr',e',fr',he',hy'⟩:=hc i y hy
  rw [he] at he';cases he'
  exact hy'
theorem Tryz.zaX {w:World} {X o:Nat} {ρ:Val} {j:J} {K:Nat→Prop} {g:Gho} {row:List AV} {vals:List Value} (h:w.rangeAt X o vals) (h0:vals≠ []) (hr:RL ρ j row vals) (hK: ¬K X):ShOk ρ j (cxOf w K g) (X,o) (.ro row):=by
 obtain ⟨arr,e,fr,h1,h2,h3⟩:=zoF h h0
 exact ⟨hK,vals,arr,e,fr,h1,hr,by rw [←RL.length hr];exact h2,h3⟩
structure Tryz.CkO (E C:Nat) (w0:World) (e s:Int) (a:Act) (w:World):Prop where
 size:a.tmps.size=53
 s2:a.tmps.getD 2 undef= .pointer (some ⟨E,0,none⟩)
 dfr: ∃d,a.defers= [d]∧ ∃args cap,d.target= .fn (.func 115) cap∧d.args=args∧(args++cap).toList= [.pointer (some ⟨E,0,none⟩),.pointer (some ⟨C,0,none⟩)]
 mv:Dw.Mv (fun b=>b=E∨b=C) w0 w
 oE:Own w E [.int .i64 e]
 oC:Own w C [.int .u64 s]
theorem Tryz.zav {ρ:Val} {lc:Nat→Dw.Loc} {L:List Value} {vs:List AV} (h:Ending.returned (.tuple L.toArray)= .returned ((AV.tup vs).val ρ lc)):L=AV.valL ρ lc vs:=by
 injection h with h
 unfold AV.val at h
 injection h with h
 simpa using congrArg Array.toList h
theorem Tryz.zDY {l:List Sg} {sa:Option Addr} {c E C:Nat} {w0:World} {k:Nat} {a:Act} {w:World} (h:CkI l sa c E C w0 k a w) (hl:l.length≤64) (hok: ∀x∈l,x.ok) (hne:E≠C) (hE:E<w0.heap.size) (hC:C<w0.heap.size)
    (hr:l= []∨ ∃R o,sa=some ⟨R,o,none⟩∧R≠E∧R≠C∧w0.rangeAt R o (zaP l)):
    (zaI prog [0,0,1,0,1,1,1,1,84]).wp prog (fun ex a' w'=>match ex with
      | .normal=>k<l.length∧CkI l sa c E C w0 (k+1) a' w'
      | ex=>(ex= .ret∧za7 false 0 l=2∧ ∃s,CkO E C w0 2 s a' w')∨(ex= .exit 0∧ ∃s,0≤s∧s<18446744073709551616∧za7 false 0 l=(if 4294967296≤s then 2 else 0)∧CkO E C w0 0 s a' w')) a w:=by
  obtain ⟨kl,size,s0,s2,s3,s10,s11,s12,dfr,mv,pw,s,oE,oC,hs0,hs1,hsw,hp0,hp1⟩:=h
  have hEw:E<w.heap.size:=own_lt oE
  have hCw:C<w.heap.size:=own_lt oC
  have hK: ∀b,(b=E∨b=C)→b<w.heap.size:=fun b hb=>by rcases hb with rfl|rfl<;>assumption
  by_cases hkl:k<l.length
  · rcases hr with h0|⟨R,o,rfl,hRE,hRC,hr⟩
    · rw [h0] at hkl;simp at hkl
    have hRw0:=zdu hr (by intro h0;rw [h0] at hkl;simp at hkl)
    have hrw:w.rangeAt R o (zaP l):=zaN hr (mv.block R hRw0 (by rintro (e|e)<;>contradiction))
    have hx:=zcP hrw k hkl
    have hxo:=hok l[k] (List.getElem_mem hkl)
    rw [List.drop_eq_getElem_cons hkl] at hsw
    have hKR: ¬(R=E∨R=C):=by rintro (e|e)<;>contradiction
    generalize hX:l[k]=X at hx hxo hsw
    obtain ⟨xa0,xa1,xl0,xl1⟩:=hxo
    rw [za7] at hsw
    have fin: ∀ {a':Act} {w':World} {ρ:Val} {j:J},a'.tmps.size=53→DRo ρ j (some ckD) a'.defers→j 1=some ⟨E,0,0,none⟩→j 2=some ⟨C,0,0,none⟩→Dw.Mv (fun b=>b=E∨b=C) w w'→
        Own w' E [.int .i64 0]→Own w' C [.int .u64 (s+X.len)]→
        ([0,2,3,10,11,12].map fun t=>a'.tmps.getD t undef)= [.slice (some ⟨R,o,none⟩) l.length c,.pointer (some ⟨E,0,none⟩),.pointer (some ⟨C,0,none⟩),.slice (some ⟨R,o,none⟩) l.length c,.int .i64 l.length,.int .i64 (k+1)]→
        za7 X.wr (s+X.len) (l.drop (k+1))=za7 false 0 l→k<l.length∧CkI l (some ⟨R,o,none⟩) c E C w0 (k+1) a' w':=fun {a' w' ρ j} q1 q2 q3 q4 q5 q6 q7 q8 q9=>by
      simp only [List.map_cons,List.map_nil,List.cons.injEq,and_true] at q8
      obtain ⟨t0,t2,t3,t10,t11,t12⟩:=q8
      refine ⟨hkl,⟨by omega,q1,t0,t2,t3,t10,t11,by rw [t12];norm_cast,zii q2 q3 q4,mv.trans q5,X.wr,s+X.len,q6,q7,by omega,by push_cast;omega,q9,by omega,fun i hi=> ?_⟩⟩
      have:k=i:=by omega
      subst this
      exact ⟨hkl,by rw [hX]⟩
    have hden: ∀(n k' s':Int) (x y:Sg) (sl:Value),n=l.length→0≤k'→k'<64→0≤s'→s'<18446744073709551616→x.ok→(lnv 0).den (zbX n k' s' x y sl)=l.length∧(lnv 1).den (zbX n k' s' x y sl)=k'∧(u64v 2).den (zbX n k' s' x y sl)=s'∧(u64v 3).den (zbX n k' s' x y sl)=x.at1∧(u32v 4).den (zbX n k' s' x y sl)=x.len:=fun n k' s' x y sl h1 h2 h3 h4 h5 h6=>by
      subst h1
      exact ⟨zaw (by show (0:Int)≤l.length;omega) (by show ((l.length:Nat):Int)<_;omega),zaw h2 (by show k'<_;omega),zaJ h4 h5,zaJ h6.1 h6.2.1,zbw h6.2.2.1 h6.2.2.2⟩
    have hXok:X.ok:=⟨xa0,xa1,xl0,xl1⟩
    have hwl:IntKind.wrap .u64 (X.len-1)=(X.len-1)%18446744073709551616:=znW _
    have hwa:IntKind.wrap .u64 (18446744073709551615-X.at1)=18446744073709551615-X.at1:=zbC (by omega) (by omega)
    have hws:IntKind.wrap .u64 (s+X.len)=s+X.len:=zbC (by omega) (by omega)
    rcases Nat.eq_zero_or_pos k with hk0|hk0
    · subst hk0
      have hpw:=hp0 rfl
      subst hpw
      obtain ⟨d0,d1,d2,d3,d4⟩:=hden l.length 0 s X X (.slice (some ⟨R,o,none⟩) l.length c) rfl (by omega) (by omega) hs0 (by omega) hXok
      have hj1:jOf [(E,0),(C,0),(R,o)] 1=some ⟨E,0,0,none⟩:=rfl
      have hj2:jOf [(E,0),(C,0),(R,o)] 2=some ⟨C,0,0,none⟩:=rfl
      have hj3:jOf [(E,0),(C,0),(R,o)] 3=some ⟨R,o,0,none⟩:=rfl
      have hsx:Dw.R (zbX l.length 0 s X X (.slice (some ⟨R,o,none⟩) l.length c)) (jOf [(E,0),(C,0),(R,o)]) (ckL [(.lit 0,3)]) (.slice (some ⟨R,o,none⟩) l.length c):=⟨rfl,_,_,_,rfl,d0.symm,⟨R,o,_,0,rfl,hj3,rfl,rfl,hkl,rfl⟩,trivial⟩
      refine wp_mono (zaz (ρ:=zbX l.length 0 s X X (.slice (some ⟨R,o,none⟩) l.length c)) (K:=fun b=>b=E∨b=C) (g:=Gho.none) (bl:= [(E,0),(C,0),(R,o)]) mixed zDW zIa hK
        ⟨za1 oE (zab (zac rfl) RL.nil) (.inl rfl),za1 oC (zab (zac d2) RL.nil) (.inr rfl),zaX hx (by unfold Sg.cells;simp) (zab (zac d3) (zab (zac d4) (zab (zaq rfl) RL.nil))) hKR,trivial⟩
        ⟨fun _ i b' s' h1 h2 h3=>(by match i,h1,h2 with|0,h1,_=>cases h1;exact hne|1,_,h2=>cases h2;cases h3|i+2,h1,_=>cases h1),fun _ i b' s' h1 h2 h3=>(by match i,h1,h2 with|0,_,h2=>cases h2;cases h3|i+1,h1,_=>cases h1),fun h=>(by cases h),trivial⟩
        zaK trivial trivial trivial size (ck_dfr' hj1 hj2 dfr) ?_ (zae.2 trivial)) fun ex a' w' hh=> ?_
      · intro t ht
        simp only [zfq,zhI,List.mem_cons,List.not_mem_nil,or_false] at ht
        rcases ht with rfl|rfl|rfl|rfl|rfl|rfl
        · rw [s0];exact hsx
        · rw [s2];exact zca hj1
        · rw [s3];exact zca hj2
        · rw [s10];exact hsx
        · rw [s11];exact zac d0
        · rw [s12];exact zac rfl
      · obtain ⟨q,hq,hto,lf,hlf,rfl,hsz,j,hdf,he⟩:=hh
        have hj1':=he.sub _ _ hj1
        have hj2':=he.sub _ _ hj2
        unfold zBw at hq
        simp only [List.mem_cons,List.not_mem_nil,or_false] at hq
        rcases hq with rfl|rfl|rfl|rfl
        all_goals
          simp only [zaa,zae,zaY,zaQ,zaA,za4,zad,d0,d1,d2,d3,d4,hwl,hwa,decide_eq_true_eq,decide_eq_false_iff_not,and_true] at hto
          cases hlf
        · exact .inl ⟨rfl,by rw [←hsw,if_pos (by omega)],_,hsz,by have:=zav he.ret;simpa [AV.valL,AV.val,zag hj1'] using this,zii hdf hj1' hj2',mv.trans he.mv,(he.rows.1 _ hj1').2 (.inr (.inl rfl)) rfl,(he.rows.2.1 _ hj2').2 (.inr (.inr rfl)) rfl⟩
        · exact .inl ⟨rfl,by rw [←hsw,if_pos (by omega)],_,hsz,by have:=zav he.ret;simpa [AV.valL,AV.val,zag hj1'] using this,zii hdf hj1' hj2',mv.trans he.mv,(he.rows.1 _ hj1').2 (.inr (.inl rfl)) rfl,(he.rows.2.1 _ hj2').2 (.inr (.inr rfl)) rfl⟩
        · refine fin hsz hdf hj1' hj2' he.mv ((he.rows.1 _ hj1').2 (.inr (.inl rfl)) rfl) ?_ ?_ ?_
          · have:=(he.rows.2.1 _ hj2').2 (.inr (.inr rfl)) rfl
            simpa only [AV.valL,AV.val,den_add,d2,d4,hws] using this
          · have:=zav he.ret
            rw [this]
            simp only [AV.valL,AV.val,zag hj1',zag hj2',d0,zad]
            rfl
          · rw [←hsw,if_neg (by rintro (h|h|⟨h,_⟩);omega;omega;cases h)]
        · omega
    · obtain ⟨i,rfl⟩: ∃i,k=i+1:=⟨k-1,by omega⟩
      obtain ⟨hil,hpw⟩:=hp1 i rfl
      have hy:=zcP hrw i hil
      have hyo:=hok l[i] (List.getElem_mem hil)
      generalize hY:l[i]=Y at hy hyo hpw
      subst hpw
      have hkk:IntKind.wrap .i64 (((i+1:Nat):Int)+1)=((i+1:Nat):Int)+1:=zbF (by omega) (by omega)
      have hk1:IntKind.wrap .i64 (((i+1:Nat):Int)-1)=(i:Int):=by rw [zbF (by omega) (by omega)];omega
      obtain ⟨d0,d1,d2,d3,d4⟩:=hden l.length (i+1:Nat) s X Y (.slice (some ⟨R,o,none⟩) l.length c) rfl (by omega) (by omega) hs0 (by omega) hXok
      have hj1:jOf [(E,0),(C,0),(R,o+3*(i+1)),(R,o+3*i)] 1=some ⟨E,0,0,none⟩:=rfl
      have hj2:jOf [(E,0),(C,0),(R,o+3*(i+1)),(R,o+3*i)] 2=some ⟨C,0,0,none⟩:=rfl
      have hj3:jOf [(E,0),(C,0),(R,o+3*(i+1)),(R,o+3*i)] 3=some ⟨R,o+3*(i+1),0,none⟩:=rfl
      have hj4:jOf [(E,0),(C,0),(R,o+3*(i+1)),(R,o+3*i)] 4=some ⟨R,o+3*i,0,none⟩:=rfl
      have hsx:Dw.R (zbX l.length (i+1:Nat) s X Y (.slice (some ⟨R,o,none⟩) l.length c)) (jOf [(E,0),(C,0),(R,o+3*(i+1)),(R,o+3*i)]) (ckL [(lnv 1,3),(.bin .sub .i64 (lnv 1) (.lit 1),4)]) (.slice (some ⟨R,o,none⟩) l.length c):=⟨rfl,_,_,_,rfl,d0.symm,⟨R,o,_,i+1,rfl,hj3,rfl,d1,hkl,rfl⟩,⟨R,o,_,i,rfl,hj4,rfl,by rw [za4,d1,zad];exact hk1,hil,rfl⟩,trivial⟩
      refine wp_mono (zaz (ρ:=zbX l.length (i+1:Nat) s X Y (.slice (some ⟨R,o,none⟩) l.length c)) (K:=fun b=>b=E∨b=C) (g:=Gho.none) (bl:= [(E,0),(C,0),(R,o+3*(i+1)),(R,o+3*i)]) mixed zDU zH9 hK
        ⟨za1 oE (zab (zac rfl) RL.nil) (.inl rfl),za1 oC (zab (zac d2) RL.nil) (.inr rfl),zaX hx (by unfold Sg.cells;simp) (zab (zac d3) (zab (zac d4) (zab (zaq rfl) RL.nil))) hKR,zaX hy (by unfold Sg.cells;simp) (zab (zac (zaJ hyo.1 hyo.2.1)) (zab (zac (zbw hyo.2.2.1 hyo.2.2.2)) (zab (zaq rfl) RL.nil))) hKR,trivial⟩
        ⟨fun _ i b' s' h1 h2 h3=>(by match i,h1,h2 with|0,h1,_=>cases h1;exact hne|1,_,h2=>cases h2;cases h3|2,_,h2=>cases h2;cases h3|i+3,h1,_=>cases h1),fun _ i b' s' h1 h2 h3=>(by match i,h1,h2 with|0,_,h2=>cases h2;cases h3|1,_,h2=>cases h2;cases h3|i+2,h1,_=>cases h1),fun h=>(by cases h),fun h=>(by cases h),trivial⟩
        zaK trivial trivial trivial size (ck_dfr' hj1 hj2 dfr) ?_ (zaa.2 ⟨by rw [zaQ,d0,d1];simp only [decide_eq_true_eq];omega,zaa.2 ⟨by rw [zaY,d1,zad];simp only [decide_eq_true_eq];omega,zae.2 trivial⟩⟩)) fun ex a' w' hh=> ?_
      · intro t ht
        simp only [zfp,zhI,List.mem_cons,List.not_mem_nil,or_false] at ht
        rcases ht with rfl|rfl|rfl|rfl|rfl|rfl
        · rw [s0];exact hsx
        · rw [s2];exact zca hj1
        · rw [s3];exact zca hj2
        · rw [s10];exact hsx
        · rw [s11];exact zac d0
        · rw [s12];exact zac d1
      · obtain ⟨q,hq,hto,lf,hlf,rfl,hsz,j,hdf,he⟩:=hh
        have hj1':=he.sub _ _ hj1
        have hj2':=he.sub _ _ hj2
        unfold zBu at hq
        simp only [List.mem_cons,List.not_mem_nil,or_false] at hq
        rcases hq with rfl|rfl|rfl|rfl|rfl
        all_goals
          simp only [zaa,zae,zaY,zaQ,zaA,za4,zad,d0,d1,d2,d3,d4,hwl,hwa,decide_eq_true_eq,decide_eq_false_iff_not,and_true] at hto
          cases hlf
        · exact .inl ⟨rfl,by rw [←hsw,if_pos (by omega)],_,hsz,by have:=zav he.ret;simpa [AV.valL,AV.val,zag hj1'] using this,zii hdf hj1' hj2',mv.trans he.mv,(he.rows.1 _ hj1').2 (.inr (.inl rfl)) rfl,(he.rows.2.1 _ hj2').2 (.inr (.inr rfl)) rfl⟩
        · exact .inl ⟨rfl,by rw [←hsw,if_pos (by omega)],_,hsz,by have:=zav he.ret;simpa [AV.valL,AV.val,zag hj1'] using this,zii hdf hj1' hj2',mv.trans he.mv,(he.rows.1 _ hj1').2 (.inr (.inl rfl)) rfl,(he.rows.2.1 _ hj2').2 (.inr (.inr rfl)) rfl⟩
        · exact .inl ⟨rfl,by rw [←hsw,if_pos (.inr (.inr ⟨hto.2.2.1,hto.2.2.2⟩))],_,hsz,by have:=zav he.ret;simpa [AV.valL,AV.val,zag hj1'] using this,zii hdf hj1' hj2',mv.trans he.mv,(he.rows.1 _ hj1').2 (.inr (.inl rfl)) rfl,(he.rows.2.1 _ hj2').2 (.inr (.inr rfl)) rfl⟩
        · refine fin hsz hdf hj1' hj2' he.mv ((he.rows.1 _ hj1').2 (.inr (.inl rfl)) rfl) ?_ ?_ ?_
          · have:=(he.rows.2.1 _ hj2').2 (.inr (.inr rfl)) rfl
            simpa only [AV.valL,AV.val,den_add,d2,d4,hws] using this
          · have:=zav he.ret
            rw [this]
            simp only [AV.valL,AV.val,zag hj1',zag hj2',d0,d1,den_add,zad,hkk]
            rfl
          · rw [←hsw,if_neg (by rintro (h|h|⟨h,h'⟩);omega;omega;exact absurd (h'.symm.trans hto.2.2.2) (by decide))]
        · refine fin hsz hdf hj1' hj2' he.mv ((he.rows.1 _ hj1').2 (.inr (.inl rfl)) rfl) ?_ ?_ ?_
          · have:=(he.rows.2.1 _ hj2').2 (.inr (.inr rfl)) rfl
            simpa only [AV.valL,AV.val,den_add,d2,d4,hws] using this
          · have:=zav he.ret
            rw [this]
            simp only [AV.valL,AV.val,zag hj1',zag hj2',d0,d1,den_add,zad,hkk]
            rfl
          · rw [←hsw,if_neg (by rintro (h|h|⟨h,h'⟩);omega;omega;exact absurd (h.symm.trans hto.2.2) (by decide))]
  · have hkk:k=l.length:=by omega
    subst hkk
    rw [List.drop_length,za7] at hsw
    have d0:(lnv 0).den (zbX l.length l.length s ⟨0,0,false⟩ ⟨0,0,false⟩ (.slice sa l.length c))=l.length:=zaw (by show (0:Int)≤l.length;omega) (by show ((l.length:Nat):Int)<_;omega)
    have d1:(lnv 1).den (zbX l.length l.length s ⟨0,0,false⟩ ⟨0,0,false⟩ (.slice sa l.length c))=l.length:=zaw (by show (0:Int)≤l.length;omega) (by show ((l.length:Nat):Int)<_;omega)
    have d2:(u64v 2).den (zbX l.length l.length s ⟨0,0,false⟩ ⟨0,0,false⟩ (.slice sa l.length c))=s:=zaJ hs0 (by show s<_;omega)
    have hj1:jOf [(E,0),(C,0)] 1=some ⟨E,0,0,none⟩:=rfl
    have hj2:jOf [(E,0),(C,0)] 2=some ⟨C,0,0,none⟩:=rfl
    have hsx:Dw.R (zbX l.length l.length s ⟨0,0,false⟩ ⟨0,0,false⟩ (.slice sa l.length c)) (jOf [(E,0),(C,0)]) (ckL []) (.slice sa l.length c):=⟨rfl,_,_,_,rfl,d0.symm,trivial⟩
    refine wp_mono (zaz (ρ:=zbX l.length l.length s ⟨0,0,false⟩ ⟨0,0,false⟩ (.slice sa l.length c)) (K:=fun b=>b=E∨b=C) (g:=Gho.none) (bl:= [(E,0),(C,0)]) mixed zDS zH8 hK
      ⟨za1 oE (zab (zac rfl) RL.nil) (.inl rfl),za1 oC (zab (zac d2) RL.nil) (.inr rfl),trivial⟩
      ⟨fun _ i b' s' h1 h2 h3=>(by match i,h1,h2 with|0,h1,_=>cases h1;exact hne|i+1,h1,_=>cases h1),fun _ i b' s' h1 h2 h3=>(by cases h1),trivial⟩
      zaK trivial trivial trivial size (ck_dfr' hj1 hj2 dfr) ?_ (zaa.2 ⟨by rw [zaQ,d0,d1];simp,zae.2 trivial⟩)) fun ex a' w' hh=> ?_
    · intro t ht
      simp only [zfo,zhI,List.mem_cons,List.not_mem_nil,or_false] at ht
      rcases ht with rfl|rfl|rfl|rfl|rfl|rfl
      · rw [s0];exact hsx
      · rw [s2];exact zca hj1
      · rw [s3];exact zca hj2
      · rw [s10];exact hsx
      · rw [s11];exact zac d0
      · rw [s12];exact zac d1
    · obtain ⟨q,hq,hto,lf,hlf,rfl,hsz,j,hdf,he⟩:=hh
      have hj1':=he.sub _ _ hj1
      have hj2':=he.sub _ _ hj2
      unfold zBs at hq
      simp only [List.mem_cons,List.not_mem_nil,or_false] at hq
      subst hq
      cases hlf
      refine .inr ⟨rfl,s,hs0,by omega,hsw.symm,hsz,by have:=zav he.ret;simpa [AV.valL,AV.val,zag hj1'] using this,zii hdf hj1' hj2',mv.trans he.mv,(he.rows.1 _ hj1').2 (.inr (.inl rfl)) rfl,?_⟩
      have:=(he.rows.2.1 _ hj2').2 (.inr (.inr rfl)) rfl
      simpa only [AV.valL,AV.val,d2] using this
open Go.Maps Go.Sort
set_option maxRecDepth 100000 in
theorem Tryz.zob (E C:Nat) (e sum:Int) (u:FrameMode) (w:World) (hE:w.cell? ⟨E,0,none⟩=some (.int .i64 e)) (fE:w.frozen? ⟨E,0,none⟩=false) (hC:w.cell? ⟨C,0,none⟩=some (.int .u64 sum)):
  CallsD prog 115 #[.pointer (some ⟨E,0,none⟩),.pointer (some ⟨C,0,none⟩)] u w fun ed u' w'=>u'=u∧ed= .returned (.tuple #[])∧w'=if e=0∧4294967296≤sum then w.setCell ⟨E,0,none⟩ (.int .i64 2) else w:=by
 refine callsD_of_wp func115 rfl ?_
 simp only [ntmps115,List.size_toArray,List.length_cons,List.length_nil,Nat.reduceAdd,Nat.reduceSub,Array.replicate_succ,Array.replicate_zero,List.push_toArray,List.append_toArray,List.nil_append,List.cons_append]
 by_cases h0:e=0
 ·subst h0
  by_cases h1:4294967296≤sum
  ·rw [if_pos ⟨rfl,h1⟩]
   go_wp2
   go_end0
   exact ⟨rfl,rfl⟩
  ·rw [if_neg (fun h=>h1 h.2)]
   go_wp2
   go_end0
   exact ⟨rfl,rfl⟩
 ·rw [if_neg (fun h=>h0 h.1)]
  go_wp2
  go_end0
  exact ⟨rfl,rfl⟩
theorem Tryz.zu6 {w:World} {b:Nat} {v:Value} (h:Own w b [v]):w.cell? ⟨b,0,none⟩=some v∧w.frozen? ⟨b,0,none⟩=false:=by
 obtain ⟨arr,e,h1,h2⟩:=h
 exact ⟨by simp [World.cell?,h1,h2 0 v rfl],by simp [World.frozen?,h1]⟩
theorem Tryz.zho (w:World) (cs:List Value) (t:TypeId):Own (w.alloc (.cells cs.toArray t)) w.heap.size cs:=⟨cs.toArray,t,by unfold World.alloc;exact Array.getElem?_push_size,fun i y h=>by rw [List.getElem?_toArray];exact h⟩
set_option maxRecDepth 100000 in
theorem Tryz.zoA {A:Nat→Prop} {w:World} {v:Value} {l:List Sg} (h:SegV A w v l):
  Calls prog 84 #[v] w fun e w'=>e= .returned (.int .i64 (za3 l))∧Below w.heap.size w w':=by
 obtain ⟨sa,c,rfl,hok,hr⟩:=h
 unfold za3
 by_cases hlen:64<l.length
 ·rw [if_pos hlen]
  have hb0:=(Below.refl w.heap.size w).alloc (Nat.le_refl _) (.cells #[.int .i64 3] 46)
  go_enter_defers func84,ntmps84
  go_wp2
  have hE:(w.alloc (.cells #[.int .i64 3] 46)).cell? ⟨w.heap.size,0,none⟩=some (.int .i64 3):=by simp
  simp only [bodyPostD,Leaves]
  refine ⟨.int .i64 3,?_,rfl,hb0⟩
  simp [results,results84,go_sem,hE]
 ·rw [if_neg hlen]
  go_enter_defers func84,ntmps84
  go_wp2
  have o1:=zho w [.int .i64 0] 46
  have o2:=zho (w.alloc (.cells #[.int .i64 0] 46)) [.int .u64 0] 29
  have hs1:(w.alloc (.cells #[.int .i64 0] 46)).heap.size=w.heap.size+1:=World.size_alloc _ _
  rw [hs1] at o2
  have o1':Own ((w.alloc (.cells #[.int .i64 0] 46)).alloc (.cells #[.int .u64 0] 29)) w.heap.size [.int .i64 0]:=o1.kept (Below.heap_alloc _ _ _ (by rw [hs1];omega))
  have hbb:=((Below.refl w.heap.size w).alloc (Nat.le_refl _) (.cells #[.int .i64 0] 46)).alloc (by rw [hs1];omega) (.cells #[.int .u64 0] 29)
  have hsz:((w.alloc (.cells #[.int .i64 0] 46)).alloc (.cells #[.int .u64 0] 29)).heap.size=w.heap.size+2:=by rw [World.size_alloc,hs1]
  have hr':l= []∨ ∃R o,sa=some ⟨R,o,none⟩∧R≠w.heap.size∧R≠w.heap.size+1∧((w.alloc (.cells #[.int .i64 0] 46)).alloc (.cells #[.int .u64 0] 29)).rangeAt R o (zaP l):=by
   rcases hr with h0|⟨R,o,e,_,hr⟩
   ·exact .inl h0
   ·by_cases h0:l= []
    ·exact .inl h0
    ·have hR:=zdu hr h0
     exact .inr ⟨R,o,e,by omega,by omega,zaN hr (hbb.block R hR)⟩
  generalize (w.alloc (.cells #[.int .i64 0] 46)).alloc (.cells #[.int .u64 0] 29)=W at*
  refine zbr (c':= .loop (zaI prog [0,0,1,0,1,1,1,1,84])) (by kernel_rfl) ?_
  refine zbT (fun k a w'=>CkI l sa c w.heap.size (w.heap.size+1) W k a w') (fun k=>l.length-k) (fun k a w' hI=>wp_mono (zDY hI (by omega) hok (by omega) (by omega) (by omega) hr') fun ex a' w2 hh=> ?_) 0 _ _ ?_
  ·have leave: ∀ {e s:Int} {a':Act} {w2:World},CkO w.heap.size (w.heap.size+1) W e s a' w2→za7 false 0 l=(if e=0∧4294967296≤s then 2 else e)→
     bodyPostD prog f84 (fun e w'=>e=Ending.returned (Value.int IntKind.i64 (za7 false 0 l))∧RowKit.Below w.heap.size w w') .ret a' w2:=fun {e s a' w2} ho hV=>by
    obtain ⟨d,hd,args,cap,e1,e2,e3⟩:=ho.dfr
    have hm2:RowKit.Below w.heap.size w w2:=⟨ho.mv.os.trans hbb.os,ho.mv.tape.trans hbb.tape,ho.mv.output.trans hbb.output,Nat.le_trans hbb.size ho.mv.size,fun k hk=>(ho.mv.block k (by omega) (by omega)).trans (hbb.block k hk)⟩
    obtain ⟨cE,fE⟩:=zu6 ho.oE
    obtain ⟨cC,fC⟩:=zu6 ho.oC
    simp only [bodyPostD,hd,Leaves]
    have e3:args++cap= #[.pointer (some ⟨w.heap.size,0,none⟩),.pointer (some ⟨w.heap.size+1,0,none⟩)]:=by rw [←Array.toList_inj];exact e3
    refine ⟨by simp,.func 115,cap,115,#[.pointer (some ⟨w.heap.size,0,none⟩),.pointer (some ⟨w.heap.size+1,0,none⟩)],e1,by rw [e1,e2,←e3];simp [go_sem],?_⟩
    refine (zob w.heap.size (w.heap.size+1) e s .returning w2 cE fE cC).mono ?_
    rintro ed u' w9 ⟨rfl,rfl,rfl⟩
    simp only [Leaves,settle]
    have hp:a'.tmps.getD 2 undef= .pointer (some ⟨w.heap.size,0,none⟩):=ho.s2
    by_cases h0:e=0∧4294967296≤s
    ·rw [if_pos h0] at hV ⊢
     have dE2:(w2.setCell ⟨w.heap.size,0,none⟩ (.int .i64 2)).cell? ⟨w.heap.size,0,none⟩=some (.int .i64 2):=World.cell?_setCell_same' _ _ _ (by rw [cE];rfl)
     refine ⟨.int .i64 2,?_,by rw [hV],hm2.setCell (p:=⟨w.heap.size,0,none⟩) (Nat.le_refl _) _⟩
     have hp':a'.tmps[2]?.getD undef= .pointer (some ⟨w.heap.size,0,none⟩):=by simpa using hp
     simp [results,results84,go_sem,hp',dE2]
    ·rw [if_neg h0] at hV ⊢
     refine ⟨.int .i64 e,?_,by rw [hV],hm2⟩
     have hp':a'.tmps[2]?.getD undef= .pointer (some ⟨w.heap.size,0,none⟩):=by simpa using hp
     simp [results,results84,go_sem,hp',cE]
   cases ex with
   | normal=>exact ⟨k+1,by omega,hh.2⟩
   | ret=>
    rcases hh with ⟨_,hV,s,ho⟩|⟨h,_⟩
    ·exact leave ho (by rw [hV];simp)
    ·cases h
   | exit i=>
    rcases hh with ⟨h,_⟩|⟨h,s,hq0,hq1,hV,ho⟩
    ·cases h
    ·cases h
     simp only [Exit.inBlock,Exit.then,if_pos]
     rename_i K hK
     refine hK _ _ (zbr (c':=zaI prog [1,1,1,1,1,84]) (by kernel_rfl) ?_)
     have hj1:jOf [(w.heap.size,0),(w.heap.size+1,0)] 1=some ⟨w.heap.size,0,0,none⟩:=rfl
     have hj2:jOf [(w.heap.size,0),(w.heap.size+1,0)] 2=some ⟨w.heap.size+1,0,0,none⟩:=rfl
     have d2:(u64v 2).den (zbX 0 0 s ⟨0,0,false⟩ ⟨0,0,false⟩ undef)=s:=zaJ hq0 hq1
     refine wp_mono (zaz (ρ:=zbX 0 0 s ⟨0,0,false⟩ ⟨0,0,false⟩ undef) (K:=fun b=>b=w.heap.size∨b=w.heap.size+1) (g:=Gho.none) (bl:= [(w.heap.size,0),(w.heap.size+1,0)]) mixed zH6 zJy (fun b hb=>by rcases hb with rfl|rfl;exact own_lt ho.oE;exact own_lt ho.oC)
      ⟨za1 ho.oE (zab (zac rfl) RL.nil) (.inl rfl),za1 ho.oC (zab (zac d2) RL.nil) (.inr rfl),trivial⟩
      ⟨fun _ i b' s' h1 h2 h3=>(by match i,h1,h2 with|0,h1,_=>cases h1;show w.heap.size≠w.heap.size+1;omega|i+1,h1,_=>cases h1),fun _ i b' s' h1 h2 h3=>(by cases h1),trivial⟩
      zaK trivial trivial trivial ho.size (ck_dfr' hj1 hj2 ho.dfr) ?_ (zae.2 trivial)) fun ex a3 w3 hh=> ?_
     ·intro t ht
      simp only [zg1,List.mem_cons,List.not_mem_nil,or_false] at ht
      subst ht
      rw [ho.s2];exact zca hj1
     ·obtain ⟨q,hq,hto,lf,hlf,rfl,hsz3,j,hdf,he⟩:=hh
      have hj1':=he.sub _ _ hj1
      have hj2':=he.sub _ _ hj2
      unfold zFp at hq
      simp only [List.mem_cons,List.not_mem_nil,or_false] at hq
      subst hq
      cases hlf
      have oC:=(he.rows.2.1 _ hj2').2 (.inr (.inr rfl)) rfl
      simp only [AV.valL,AV.val,d2] at oC
      refine leave (e:=0) ⟨hsz3,by have:=zav he.ret;simpa [AV.valL,AV.val,zag hj1'] using this,zii hdf hj1' hj2',ho.mv.trans he.mv,(he.rows.1 _ hj1').2 (.inr (.inl rfl)) rfl,oC⟩ (by rw [hV];simp)
   | _=>rcases hh with ⟨h,_⟩|⟨h,_⟩<;>cases h
  ·exact ⟨Nat.zero_le _,rfl,rfl,rfl,rfl,rfl,rfl,rfl,⟨_,rfl,_,_,rfl,rfl,rfl⟩,Dw.Mv.refl _ _,false,0,o1',o2,Int.le_refl _,by simp,rfl,fun _=>rfl,fun i hi=>by omega⟩
end Go.Proofs
namespace Go.Proofs
open Go.Dw Go.RowKit
def Tryz.sl1 (l:List (SE×Nat)):AV:= .sx 1 (lnv 0) 3 l
def Tryz.ckE:Ent:=⟨84,[sl1 []],0,0,0,.int .i64 (.var 7),0⟩
def Tryz.rd0E:Ent:=⟨17,[.cst 0 none,.int .u64 (.lit 0),.int .i64 (.lit 0)],0,0,0,.tup [.nils,.int .i64 (.lit 0)],0⟩
def Tryz.hasE:Ent:=⟨179,[.cst 0 none,.int .u64 (u64v 3),.int .u64 (u32v 4)],0,0,0,.bool (.var 2),0⟩
def Tryz.zdS:LEnt:=⟨[0,1,0,1,1,1,172],38,0,[(0,.cst 0 none),(23,sl1 []),(24,.int .i64 (lnv 0)),(25,.int .i64 (.lit 0))],[],[],0,0,[⟨.var 2,.exit 0,[],0⟩,⟨.lit true,.ret,[(4,.int .i64 (.lit 5))],0⟩]⟩
def Tryz.zet:LEnt:=⟨[0,1,0,1,1,58],30,0,[(2,.int .u64 (.lit 0)),(3,.int .u64 (.lit 0)),(9,sl1 []),(10,.int .i64 (lnv 0)),(11,.int .i64 (.lit 0))],[],[],0,0,[⟨.lit true,.exit 0,[(2,.int .u64 (u64v 5)),(3,.int .u64 (u64v 6))],0⟩]⟩
end Go.Proofs
namespace Go.Proofs
open Go.Dw
def Tryz.ztJ:List Ent:= [ckE,rd0E]
def Tryz.zyi:List Sh:= []
def Tryz.ztK:List AV:= [.cst 0 none,sl1 []]
def Tryz.zos:List LEnt:= [zdS]
def Tryz.zot:List AEnt:= []
def Tryz.zFX:List (SB×Bool):= []
def Tryz.zEs:List Leaf:= [
 ⟨.int .i64 (.var 7),[],[],0,[]⟩,
 ⟨.int .i64 (.lit 0),[],[],0,[]⟩,
 ⟨.int .i64 (.lit 5),[],[],0,[]⟩]
def Tryz.zEr:List (List (SB×Bool)×Nat):= [
 ([((.cmp .neq (.var 7) (.lit 0)),true)],0),
 ([((.cmp .neq (.var 7) (.lit 0)),false),(.var 2,true)],1),
 ([((.cmp .neq (.var 7) (.lit 0)),false),(.var 2,false)],2)]
theorem Tryz.zFW:(evL prog (zau ztJ) (zaD zos) (zaC zot) 100000 (.call 172 ztK (zas 0 zyi) (zaM zEs 0))).ways zFX=some zEr:=by kernel_rfl
theorem Tryz.zIu:(zah zyi&&zaf ztJ&&zak zos&&zal zot&&AV.smallL ztK&&zam zEs)=true:=by kernel_rfl
def Tryz.zor:List Ent:= [hasE]
def Tryz.ztH:List Sh:= [ckEl 3 4 0]
def Tryz.zeY:List (Nat×AV):= [(0,.cst 0 none),(23,sl1 [(lnv 1,1)]),(24,.int .i64 (lnv 0)),(25,.int .i64 (lnv 1))]
def Tryz.zlh:List LEnt:= []
def Tryz.zli:List AEnt:= []
def Tryz.ztI:Option AV:=none
def Tryz.zCf:List (SB×Bool):= [(.cmp .lss (lnv 1) (lnv 0),true)]
def Tryz.zyh:List zbg:= [
 ⟨.ret,[4],none,⟨.tup [.int .i64 (.lit 5)],[],[],0,[]⟩⟩,
 ⟨.normal,[0,23,24,25],none,⟨.tup [.cst 0 none,.sx 1 ((lnv 0)) 3 [((lnv 1),1)],.int .i64 (lnv 0),.int .i64 (.bin .add .i64 (lnv 1) (.lit 1))],[],[],0,[]⟩⟩]
def Tryz.zyg:List (List (SB×Bool)×Nat):= [
 ([(.var 2,false)],0),
 ([(.var 2,true)],1)]
theorem Tryz.zCe:(evL prog (zau zor) (zaD zlh) (zaC zli) 100000 (.code (zaI prog [0,0,1,0,1,1,1,172]) [0,0,1,0,1,1,1,172] 38 (envS 38 zeY ztI) (zas 0 ztH) (zaH zyh 0))).ways zCf=some zyg:=by kernel_rfl
theorem Tryz.zFV:(zah ztH&&zaf zor&&zak zlh&&zal zli&&zan zeY&&zai zyh&&zaG 38 zeY&&Nat.ble 38 zaL&&zaB ztI)=true:=by kernel_rfl
def Tryz.zlg:List Ent:= []
def Tryz.zop:List Sh:= []
def Tryz.zdR:List (Nat×AV):= [(0,.cst 0 none),(23,sl1 []),(24,.int .i64 (lnv 0)),(25,.int .i64 (lnv 1))]
def Tryz.zi4:List LEnt:= []
def Tryz.zi5:List AEnt:= []
def Tryz.zoq:Option AV:=none
def Tryz.zyf:List (SB×Bool):= [(.cmp .lss (lnv 1) (lnv 0),false)]
def Tryz.ztG:List zbg:= [
 ⟨(.exit 0),[],none,⟨.tup [],[],[],0,[]⟩⟩]
def Tryz.ztF:List (List (SB×Bool)×Nat):= [
 ([], 0)]
theorem Tryz.zye:(evL prog (zau zlg) (zaD zi4) (zaC zi5) 100000 (.code (zaI prog [0,0,1,0,1,1,1,172]) [0,0,1,0,1,1,1,172] 38 (envS 38 zdR zoq) (zas 0 zop) (zaH ztG 0))).ways zyf=some ztF:=by kernel_rfl
theorem Tryz.zCd:(zah zop&&zaf zlg&&zak zi4&&zal zi5&&zan zdR&&zai ztG&&zaG 38 zdR&&Nat.ble 38 zaL&&zaB zoq)=true:=by kernel_rfl
def Tryz.ztA:List Ent:= [ckE]
def Tryz.zx8:List Sh:= []
def Tryz.ztB:List AV:= [sl1 []]
def Tryz.zog:List LEnt:= [zet]
def Tryz.zoh:List AEnt:= []
def Tryz.zFP:List (SB×Bool):= []
def Tryz.zEm:List Leaf:= [
 ⟨.tup [.int .u64 (.lit 0),.int .u64 (.lit 0)],[],[],0,[]⟩,
 ⟨.tup [.int .u64 (u64v 5),.int .u64 (u64v 6)],[],[],0,[]⟩]
def Tryz.zEl:List (List (SB×Bool)×Nat):= [
 ([((.cmp .neq (.var 7) (.lit 0)),true)],0),
 ([((.cmp .neq (.var 7) (.lit 0)),false)],1)]
theorem Tryz.zFO:(evL prog (zau ztA) (zaD zog) (zaC zoh) 100000 (.call 58 ztB (zas 0 zx8) (zaM zEm 0))).ways zFP=some zEl:=by kernel_rfl
theorem Tryz.zIq:(zah zx8&&zaf ztA&&zak zog&&zal zoh&&AV.smallL ztB&&zam zEm)=true:=by kernel_rfl
def Tryz.zof:List Ent:= []
def Tryz.zty:List Sh:= [ckEl 3 4 0]
def Tryz.zeW:List (Nat×AV):= [(2,.int .u64 (u64v 5)),(3,.int .u64 (u64v 6)),(9,sl1 [(lnv 1,1)]),(10,.int .i64 (lnv 0)),(11,.int .i64 (lnv 1))]
def Tryz.zlb:List LEnt:= []
def Tryz.zlc:List AEnt:= []
def Tryz.ztz:Option AV:=none
def Tryz.zB7:List (SB×Bool):= [(.cmp .lss (lnv 1) (lnv 0),true)]
def Tryz.zx7:List zbg:= [
 ⟨.normal,[2,3,9,10,11],none,⟨.tup [.int .u64 (u64v 5),.int .u64 (.bin .add .u64 (u64v 6) (u32v 4)),.sx 1 ((lnv 0)) 3 [((lnv 1),1)],.int .i64 (lnv 0),.int .i64 (.bin .add .i64 (lnv 1) (.lit 1))],[],[],0,[]⟩⟩,
 ⟨.normal,[2,3,9,10,11],none,⟨.tup [.int .u64 (.bin .add .u64 (u64v 5) (u32v 4)),.int .u64 (u64v 6),.sx 1 ((lnv 0)) 3 [((lnv 1),1)],.int .i64 (lnv 0),.int .i64 (.bin .add .i64 (lnv 1) (.lit 1))],[],[],0,[]⟩⟩]
def Tryz.zx6:List (List (SB×Bool)×Nat):= [
 ([(.var 0,true)],0),
 ([(.var 0,false)],1)]
theorem Tryz.zB6:(evL prog (zau zof) (zaD zlb) (zaC zlc) 100000 (.code (zaI prog [0,0,1,0,1,1,58]) [0,0,1,0,1,1,58] 30 (envS 30 zeW ztz) (zas 0 zty) (zaH zx7 0))).ways zB7=some zx6:=by kernel_rfl
theorem Tryz.zFN:(zah zty&&zaf zof&&zak zlb&&zal zlc&&zan zeW&&zai zx7&&zaG 30 zeW&&Nat.ble 30 zaL&&zaB ztz)=true:=by kernel_rfl
def Tryz.zla:List Ent:= []
def Tryz.zod:List Sh:= []
def Tryz.zdQ:List (Nat×AV):= [(2,.int .u64 (u64v 5)),(3,.int .u64 (u64v 6)),(9,sl1 []),(10,.int .i64 (lnv 0)),(11,.int .i64 (lnv 1))]
def Tryz.ziW:List LEnt:= []
def Tryz.ziX:List AEnt:= []
def Tryz.zoe:Option AV:=none
def Tryz.zx5:List (SB×Bool):= [(.cmp .lss (lnv 1) (lnv 0),false)]
def Tryz.ztx:List zbg:= [
 ⟨(.exit 0),[2,3],none,⟨.tup [.int .u64 (u64v 5),.int .u64 (u64v 6)],[],[],0,[]⟩⟩]
def Tryz.ztw:List (List (SB×Bool)×Nat):= [
 ([], 0)]
theorem Tryz.zx4:(evL prog (zau zla) (zaD ziW) (zaC ziX) 100000 (.code (zaI prog [0,0,1,0,1,1,58]) [0,0,1,0,1,1,58] 30 (envS 30 zdQ zoe) (zas 0 zod) (zaH ztx 0))).ways zx5=some ztw:=by kernel_rfl
theorem Tryz.zB5:(zah zod&&zaf zla&&zak ziW&&zal ziX&&zan zdQ&&zai ztx&&zaG 30 zdQ&&Nat.ble 30 zaL&&zaB zoe)=true:=by kernel_rfl
def Tryz.zoi:List Ent:= [ckE]
def Tryz.ztC:List Sh:= []
def Tryz.zoj:List AV:= [sl1 []]
def Tryz.zCa:List (SB×Bool):= [(.cmp .neq (.var 7) (.lit 0),true)]
def Tryz.zx9:List Leaf:= [
 ⟨.tup [.int .u64 (.lit 0),.int .u64 (.lit 0)],[],[],0,[]⟩]
def Tryz.zFQ:List (List (SB×Bool)×Nat):= [
 ([], 0)]
theorem Tryz.zB9:(ev prog (zau zoi) 100000 (.call 58 zoj (zas 0 ztC) (zaM zx9 0))).ways zCa=some zFQ:=by kernel_rfl
theorem Tryz.zFR:(zah ztC&&zaf zoi&&AV.smallL zoj&&zam zx9)=true:=by kernel_rfl
def Tryz.zou:List Ent:= [ckE,rd0E]
def Tryz.ztL:List Sh:= []
def Tryz.zov:List AV:= [.cst 0 none,sl1 []]
def Tryz.zCi:List (SB×Bool):= [(.cmp .neq (.var 7) (.lit 0),true)]
def Tryz.zyj:List Leaf:= [
 ⟨.int .i64 (.var 7),[],[],0,[]⟩]
def Tryz.zFY:List (List (SB×Bool)×Nat):= [
 ([], 0)]
theorem Tryz.zCh:(ev prog (zau zou) 100000 (.call 172 zov (zas 0 ztL) (zaM zyj 0))).ways zCi=some zFY:=by kernel_rfl
theorem Tryz.zFZ:(zah ztL&&zaf zou&&AV.smallL zov&&zam zyj)=true:=by kernel_rfl
open Go.RowKit
def Tryz.SegF (F:Nat→Prop) (w:World) (sa:Option Addr) (l:List Sg):Prop:=l= []∨ ∃R o,sa=some ⟨R,o,none⟩∧F R∧w.rangeAt R o (zaP l)
theorem Tryz.SegF.kept {F:Nat→Prop} {w w':World} {sa:Option Addr} {l:List Sg} (h:SegF F w sa l) (hb: ∀b,F b→w'.heap[b]? =w.heap[b]?):SegF F w' sa l:=by
 rcases h with h|⟨R,o,e,hF,hr⟩
 ·exact .inl h
 ·exact .inr ⟨R,o,e,hF,zaN hr (hb R hF)⟩
theorem Tryz.SegF.v {F:Nat→Prop} {w:World} {sa:Option Addr} {l:List Sg} (h:SegF F w sa l) (hok: ∀x∈l,x.ok) (c:Nat):SegV (fun _=>False) w (.slice sa l.length c) l:=by
 rcases h with h|⟨R,o,e,hF,hr⟩
 ·exact ⟨sa,c,rfl,hok,.inl h⟩
 ·exact ⟨sa,c,rfl,hok,.inr ⟨R,o,e,fun h=>h,hr⟩⟩
def Tryz.segG (sa:Option Addr) (l:List Sg):Gho where
 fact k _ F w:=SegF F w sa l
 loc:=fun k _ _ F w w' h _ hb hs=>h.kept hb
def Tryz.zkR (P L Bs B N:Nat) (g:Nat→Int) (sa:Option Addr) (l:List Sg):Gho where
 fact k _ F w:=(F P∧F L∧F Bs∧F B∧GM w P L Bs B N g)∧SegF F w sa l
 loc:=fun k _ _ F w w' h _ hb hs=>by
  obtain ⟨⟨h1,h2,h3,h4,h6⟩,h7⟩:=h
  exact ⟨⟨h1,h2,h3,h4,h6.kept (fun b _ hb'=>by rcases hb' with rfl|rfl|rfl|rfl<;>exact hb _ (by assumption)) hs⟩,h7.kept hb⟩
theorem Tryz.zcN (k:Nat) (h:k<4611686018427387904):IntKind.wrap .i64 ((k:Int)+1)=((k+1:Nat):Int):=by rw [zbF (by omega) (by omega)];omega
def Tryz.zaE (wr:Bool):List Sg→Int
 | [] => 0
 | x::r=>if x.wr=wr then x.len+zaE wr r else zaE wr r
def Tryz.zbW (l:List Sg):Int×Int:=if za3 l=0 then (zaE false l,zaE true l) else (0,0)
theorem Tryz.zck (b:Bool): ∀(l:List Sg),(∀x∈l,x.ok)→0≤zaE b l∧zaE b l≤l.length*4294967296
 | [], _=>by simp [zaE]
 | x::r,h=>by
  obtain ⟨h1,h2⟩:=zck b r fun y hy=>h y (List.mem_cons_of_mem _ hy)
  obtain ⟨_,_,h3,h4⟩:=h x (List.mem_cons_self ..)
  unfold zaE
  have e:(((x::r).length:Nat):Int)=r.length+1:=by simp
  rw [e]
  split<;>omega
theorem Tryz.zi7 (b:Bool) (l:List Sg) (k:Nat) (h:k<l.length):zaE b (l.take (k+1))=zaE b (l.take k)+(if l[k].wr=b then l[k].len else 0):=by
 induction l generalizing k with
 | nil=>simp at h
 | cons x r ih=>
  cases k with
  | zero=>simp only [List.take_succ_cons,List.take_zero,zaE,List.getElem_cons_zero];split<;>simp
  | succ k=>
   have:=ih k (by simpa using h)
   simp only [List.take_succ_cons,zaE,List.getElem_cons_succ]
   rw [this]
   split<;>omega
theorem Tryz.ze0 {l:List Sg} (h:za3 l=0):l.length≤64:=by
 unfold za3 at h
 split at h
 ·omega
 ·omega
def Tryz.zbu (n k x5 x6 e:Int) (x:Sg) (b2:Bool) (p sl:Value):Val:=vof [n,k,0,x.at1,x.len,x5,x6,e] [x.wr,false,b2] [p,sl]
set_option maxRecDepth 10000 in
theorem Tryz.zB8 {ρ:Val} {w0:World} {K:Nat→Prop} {sa:Option Addr} {c:Nat} {l:List Sg} (hl:l.length≤64) (hok: ∀x∈l,x.ok) (hv1:ρ.v 1= .slice sa l.length c) (hn:(lnv 0).den ρ=l.length) (h5:(u64v 5).den ρ=zaE false l) (h6:(u64v 6).den ρ=zaE true l):
  zrF prog ρ w0 K (segG sa l) zet:=by
 refine zfS rfl (fun d hd=>by unfold zet at hd;simp at hd;rw [hd];rfl) fun cc hc j a w F hsz hdf hsl _ hf _ _=> ?_
 have hf:SegF F w sa l:=hf
 have g2:=R_val rfl (hsl (2,.int .u64 (.lit 0)) (by simp [zet])).2
 have g3:=R_val rfl (hsl (3,.int .u64 (.lit 0)) (by simp [zet])).2
 have g9:=R_val rfl (hsl (9,sl1 []) (by simp [zet])).2
 have g10:=R_val rfl (hsl (10,.int .i64 (lnv 0)) (by simp [zet])).2
 have g11:=R_val rfl (hsl (11,.int .i64 (.lit 0)) (by simp [zet])).2
 simp only [AV.val,sl1,hv1,hn,zad] at g2 g3 g9 g10 g11
 have hcc:cc=zaI prog [0,0,1,0,1,1,58]:=by
  have:=zhz (P:=prog) (p:= [0,1,0,1,1,58]) (by kernel_rfl)
  have hc:zaI prog [0,1,0,1,1,58]= .loop cc:=hc
  rw [hc] at this
  injection this
 subst hcc
 have hsz:a.tmps.size=30:=hsz
 refine zbT (fun (k:Nat) a' w'=>k≤l.length∧a'.tmps.size=30∧a'.defers= []∧a'.tmps.getD 2 undef= .int .u64 (zaE false (l.take k))∧a'.tmps.getD 3 undef= .int .u64 (zaE true (l.take k))∧a'.tmps.getD 9 undef= .slice sa l.length c∧a'.tmps.getD 10 undef= .int .i64 l.length∧a'.tmps.getD 11 undef= .int .i64 k∧Below w.heap.size w w')
  (fun k=>l.length-k) (fun k a1 w1 hI=> ?_) 0 a w ⟨Nat.zero_le _,hsz,hdf,by rw [g2];rfl,by rw [g3];rfl,g9,g10,by rw [g11];rfl,Below.refl _ _⟩
 obtain ⟨hk,q0,qd,q2,q3,q9,q10,q11,hb⟩:=hI
 have hb5:=zck false (l.take k) fun x hx=>hok x (List.mem_of_mem_take hx)
 have hb6:=zck true (l.take k) fun x hx=>hok x (List.mem_of_mem_take hx)
 have htk:(l.take k).length≤64:=by simp;omega
 by_cases hkl:k<l.length
 ·rcases hf with h0|⟨R,o,rfl,hFR,hr⟩
  ·rw [h0] at hkl;simp at hkl
  have hR:=zdu hr (by intro h0;rw [h0] at hkl;simp at hkl)
  have hx:=zcP (zaN hr (hb.block R hR)) k hkl
  have hxo:=hok l[k] (List.getElem_mem hkl)
  have t5:=zi7 false l k hkl
  have t6:=zi7 true l k hkl
  generalize hX:l[k]=X at hx hxo t5 t6
  have d0:(lnv 0).den (zbu l.length k (zaE false (l.take k)) (zaE true (l.take k)) 0 X false undef (.slice (some ⟨R,o,none⟩) l.length c))=l.length:=zaw (by show (0:Int)≤l.length;omega) (by show ((l.length:Nat):Int)<_;omega)
  have d1:(lnv 1).den (zbu l.length k (zaE false (l.take k)) (zaE true (l.take k)) 0 X false undef (.slice (some ⟨R,o,none⟩) l.length c))=k:=zaw (by show (0:Int)≤k;omega) (by show (k:Int)<_;omega)
  have d3:(u64v 3).den (zbu l.length k (zaE false (l.take k)) (zaE true (l.take k)) 0 X false undef (.slice (some ⟨R,o,none⟩) l.length c))=X.at1:=zaJ hxo.1 hxo.2.1
  have d4:(u32v 4).den (zbu l.length k (zaE false (l.take k)) (zaE true (l.take k)) 0 X false undef (.slice (some ⟨R,o,none⟩) l.length c))=X.len:=zbw hxo.2.2.1 hxo.2.2.2
  have d5:(u64v 5).den (zbu l.length k (zaE false (l.take k)) (zaE true (l.take k)) 0 X false undef (.slice (some ⟨R,o,none⟩) l.length c))=zaE false (l.take k):=zaJ hb5.1 (by show zaE false (l.take k)<_;omega)
  have d6:(u64v 6).den (zbu l.length k (zaE false (l.take k)) (zaE true (l.take k)) 0 X false undef (.slice (some ⟨R,o,none⟩) l.length c))=zaE true (l.take k):=zaJ hb6.1 (by show zaE true (l.take k)<_;omega)
  have dx:(zbu l.length k (zaE false (l.take k)) (zaE true (l.take k)) 0 X false undef (.slice (some ⟨R,o,none⟩) l.length c)).b 0=X.wr:=rfl
  have dv:(zbu l.length k (zaE false (l.take k)) (zaE true (l.take k)) 0 X false undef (.slice (some ⟨R,o,none⟩) l.length c)).v 1= .slice (some ⟨R,o,none⟩) l.length c:=rfl
  have hsx: ∀j:J,j 1=some ⟨R,o+3*k,0,none⟩→Dw.R (zbu l.length k (zaE false (l.take k)) (zaE true (l.take k)) 0 X false undef (.slice (some ⟨R,o,none⟩) l.length c)) j (sl1 [(lnv 1,1)]) (.slice (some ⟨R,o,none⟩) l.length c):=fun j h=>⟨rfl,_,_,_,rfl,d0.symm,⟨R,o,_,k,rfl,h,rfl,d1,hkl,rfl⟩,trivial⟩
  generalize zbu l.length k (zaE false (l.take k)) (zaE true (l.take k)) 0 X false undef (.slice (some ⟨R,o,none⟩) l.length c)=ρ' at*
  refine wp_mono (zaz (ρ:=ρ') (K:=fun _=>False) (g:=Gho.none) (bl:= [(R,o+3*k)]) mixed zB6 zFN (fun b h=>h.elim)
   ⟨zaX hx (by unfold Sg.cells;simp) (zab (zac d3) (zab (zac d4) (zab (zaq dx) RL.nil))) (fun h=>h),trivial⟩
   ⟨fun h=>(by cases h),trivial⟩ zaK trivial trivial trivial q0 qd ?_ (zaa.2 ⟨by rw [zaQ,d0,d1];simp only [decide_eq_true_eq];omega,zae.2 trivial⟩)) fun ex a2 w2 hh=> ?_
  ·intro t ht
   simp only [zeW,List.mem_cons,List.not_mem_nil,or_false] at ht
   rcases ht with rfl|rfl|rfl|rfl|rfl
   ·rw [q2];exact zac d5
   ·rw [q3];exact zac d6
   ·rw [q9];exact hsx _ rfl
   ·rw [q10];exact zac d0
   ·rw [q11];exact zac d1
  ·obtain ⟨q,hq,hto,lf,hlf,rfl,hsz2,j2,hdf2,he⟩:=hh
   have hb2:=zar he (fun _ h=>h)
   have hws:IntKind.wrap .u64 (zaE false (l.take k)+X.len)=zaE false (l.take k)+X.len:=zbC (by have:=hxo.2.2.1;omega) (by have:=hxo.2.2.2;omega)
   have hws':IntKind.wrap .u64 (zaE true (l.take k)+X.len)=zaE true (l.take k)+X.len:=zbC (by have:=hxo.2.2.1;omega) (by have:=hxo.2.2.2;omega)
   have hwk:=zcN k (by omega)
   unfold zx6 at hq
   simp only [List.mem_cons,List.not_mem_nil,or_false] at hq
   rcases hq with rfl|rfl
   all_goals
    simp only [zaa,zae,zaA,dx,and_true] at hto
    cases hlf
    have hsl2:=zav he.ret
    simp only [AV.valL,AV.val,d0,d1,d4,d5,d6,dv,den_add,zad,hws,hws',hwk,List.map_cons,List.map_nil,List.cons.injEq,and_true] at hsl2
    obtain ⟨p2,p3,p9,p10,p11⟩:=hsl2
    refine ⟨k+1,by omega,by omega,hsz2,hdf2,?_,?_,p9,p10,p11,hb.trans (hb2.mono hb.size)⟩
   ·rw [p2,t5,hto];simp
   ·rw [p3,t6,hto];simp
   ·rw [p2,t5,hto];simp
   ·rw [p3,t6,hto];simp
 ·have hkk:k=l.length:=by omega
  subst hkk
  rw [List.take_length] at q2 q3 hb5 hb6 htk
  have d0:(lnv 0).den (zbu l.length l.length (zaE false l) (zaE true l) 0 ⟨0,0,false⟩ false undef (.slice sa l.length c))=l.length:=zaw (by show (0:Int)≤l.length;omega) (by show ((l.length:Nat):Int)<_;omega)
  have d1:(lnv 1).den (zbu l.length l.length (zaE false l) (zaE true l) 0 ⟨0,0,false⟩ false undef (.slice sa l.length c))=l.length:=zaw (by show (0:Int)≤l.length;omega) (by show ((l.length:Nat):Int)<_;omega)
  have d5:(u64v 5).den (zbu l.length l.length (zaE false l) (zaE true l) 0 ⟨0,0,false⟩ false undef (.slice sa l.length c))=zaE false l:=zaJ hb5.1 (by show zaE false l<_;omega)
  have d6:(u64v 6).den (zbu l.length l.length (zaE false l) (zaE true l) 0 ⟨0,0,false⟩ false undef (.slice sa l.length c))=zaE true l:=zaJ hb6.1 (by show zaE true l<_;omega)
  have hsx:Dw.R (zbu l.length l.length (zaE false l) (zaE true l) 0 ⟨0,0,false⟩ false undef (.slice sa l.length c)) (jOf []) (sl1 []) (.slice sa l.length c):=⟨rfl,_,_,_,rfl,d0.symm,trivial⟩
  generalize zbu l.length l.length (zaE false l) (zaE true l) 0 ⟨0,0,false⟩ false undef (.slice sa l.length c)=ρ' at*
  refine wp_mono (zaz (ρ:=ρ') (K:=fun _=>False) (g:=Gho.none) (bl:= []) mixed zx4 zB5 (fun b h=>h.elim) trivial trivial zaK trivial trivial trivial q0 qd ?_ (zaa.2 ⟨by rw [zaQ,d0,d1];simp,zae.2 trivial⟩)) fun ex a2 w2 hh=> ?_
  ·intro t ht
   simp only [zdQ,List.mem_cons,List.not_mem_nil,or_false] at ht
   rcases ht with rfl|rfl|rfl|rfl|rfl
   ·rw [q2];exact zac d5
   ·rw [q3];exact zac d6
   ·rw [q9];exact hsx
   ·rw [q10];exact zac d0
   ·rw [q11];exact zac d1
  ·obtain ⟨q,hq,hto,lf,hlf,rfl,hsz2,j2,hdf2,he⟩:=hh
   have hb2:=zar he (fun _ h=>h)
   unfold ztw at hq
   simp only [List.mem_cons,List.not_mem_nil,or_false] at hq
   subst hq
   cases hlf
   have hsl2:=zav he.ret
   simp only [AV.valL,AV.val,d5,d6,List.map_cons,List.map_nil,List.cons.injEq,and_true] at hsl2
   obtain ⟨p2,p3⟩:=hsl2
   refine ⟨⟨.lit true,.exit 0,[(2,.int .u64 (u64v 5)),(3,.int .u64 (u64v 6))],0⟩,rfl,rfl,hsz2,hdf2,(fun t ht=>by cases ht),fun s hs=> ?_,hb.trans (hb2.mono hb.size)⟩
   simp only [List.mem_cons,List.not_mem_nil,or_false] at hs
   rcases hs with rfl|rfl
   ·rw [p2];exact zac h5
   ·rw [p3];exact zac h6
theorem Tryz.zeZ {A:Nat→Prop} {w:World} {sa:Option Addr} {c:Nat} {l:List Sg} (h:SegV A w (.slice sa l.length c) l):(segG sa l).G 0 (jOf []) w:=by
 obtain ⟨sa',c',e,hok,hr⟩:=h
 injection e with e1 _ e3
 subst e1
 refine ⟨fun b=>b<w.heap.size,fun b hb=>⟨hb,fun hm=> ?_⟩,?_⟩
 ·obtain ⟨k,L,h1,_⟩:=hm
  cases k<;>cases h1
 ·by_cases h0:l= []
  ·exact .inl h0
  ·rcases hr with h|⟨R,o,e,_,hr⟩
   ·exact .inl h
   ·exact .inr ⟨R,o,e,zdu hr h0,hr⟩
theorem Tryz.zm1 {ρ:Val} {j:J} {sa:Option Addr} {c:Nat} {l:List Sg} (hv:ρ.v 1= .slice sa l.length c) (d0:(lnv 0).den ρ=l.length):Dw.R ρ j (sl1 []) (.slice sa l.length c):=⟨hv.symm,sa,_,c,rfl,d0.symm,trivial⟩
theorem Tryz.zrl {ρ:Val} {w0:World} {K:Nat→Prop} {g:Gho} {sa:Option Addr} {c:Nat} {l:List Sg} (hv:ρ.v 1= .slice sa l.length c) (d0:(lnv 0).den ρ=l.length) (h7:ρ.i 7=za3 l) (hf: ∀w F q,g.fact 0 q F w→SegV (fun _=>False) w (.slice sa l.length c) l):
  zaO prog ρ w0 K g ckE:=
 zay (Dw.enters_of (by kernel_rfl)) (by decide) [.slice sa l.length c] (.int .i64 (za3 l)) (fun j=>zab (zm1 hv d0) RL.nil) (fun j=>zac h7) fun w F q h=>zoA (hf w F q h)
theorem Tryz.zoz {A:Nat→Prop} {w:World} {v:Value} {l:List Sg} (h:SegV A w v l) (hln:l.length<4611686018427387904):
  Calls prog 58 #[v] w fun e w'=>e= .returned (.tuple #[.int .u64 (zbW l).1,.int .u64 (zbW l).2])∧Below w.heap.size w w':=by
 have h0:=h
 obtain ⟨sa,c,rfl,hok,hr⟩:=h
 have hG:=zeZ h0
 have hF:=fun w F q (hf:(segG sa l).fact 0 q F w)=>SegF.v hf hok c
 have d0:(lnv 0).den (zbu l.length 0 (zaE false l) (zaE true l) (za3 l) ⟨0,0,false⟩ false undef (.slice sa l.length c))=l.length:=zaw (by show (0:Int)≤l.length;omega) (by show ((l.length:Nat):Int)<_;omega)
 have h7:(zbu l.length 0 (zaE false l) (zaE true l) (za3 l) ⟨0,0,false⟩ false undef (.slice sa l.length c)).i 7=za3 l:=rfl
 have hv:(zbu l.length 0 (zaE false l) (zaE true l) (za3 l) ⟨0,0,false⟩ false undef (.slice sa l.length c)).v 1= .slice sa l.length c:=rfl
 unfold zbW
 by_cases hE:za3 l=0
 ·have hl:=ze0 hE
  have hb5:=zck false l hok
  have hb6:=zck true l hok
  have d5:(u64v 5).den (zbu l.length 0 (zaE false l) (zaE true l) (za3 l) ⟨0,0,false⟩ false undef (.slice sa l.length c))=zaE false l:=zaJ hb5.1 (by show zaE false l<_;omega)
  have d6:(u64v 6).den (zbu l.length 0 (zaE false l) (zaE true l) (za3 l) ⟨0,0,false⟩ false undef (.slice sa l.length c))=zaE true l:=zaJ hb6.1 (by show zaE true l<_;omega)
  generalize zbu l.length 0 (zaE false l) (zaE true l) (za3 l) ⟨0,0,false⟩ false undef (.slice sa l.length c)=ρ at*
  rw [if_pos hE]
  refine Calls.mono (zhp (ρ:=ρ) (K:=fun _=>False) (g:=segG sa l) (bl:= []) (vals:= [.slice sa l.length c]) mixed zFO zIq (fun b h=>h.elim) trivial trivial hG ⟨zrl hv d0 h7 hF,trivial⟩ ⟨zB8 hl hok hv d0 d5 d6,trivial⟩ trivial (zab (zm1 hv d0) RL.nil) (zae.2 trivial)) fun e w' hh=> ?_
  obtain ⟨p,hpm,hto,lf,hlf,j,he⟩:=hh
  have hb:=zar he (fun _ h=>h)
  unfold zEl at hpm
  simp only [List.mem_cons,List.not_mem_nil,or_false] at hpm
  rcases hpm with rfl|rfl
  all_goals
   simp only [zaa,zae,zcF,zat,zad,h7,hE,and_true] at hto
   cases hlf
  ·exact absurd hto (by decide)
  ·exact ⟨he.ret.trans (by simp only [AV.val,AV.valL,d5,d6]),hb⟩
 ·generalize zbu l.length 0 (zaE false l) (zaE true l) (za3 l) ⟨0,0,false⟩ false undef (.slice sa l.length c)=ρ at*
  rw [if_neg hE]
  refine Calls.mono (zaF (ρ:=ρ) (K:=fun _=>False) (g:=segG sa l) (bl:= []) (vals:= [.slice sa l.length c]) mixed zB9 zFR (fun b h=>h.elim) trivial trivial hG ⟨zrl hv d0 h7 hF,trivial⟩ (zab (zm1 hv d0) RL.nil) (zaa.2 ⟨by rw [zcF,zat,h7,zad];simpa using hE,zae.2 trivial⟩)) fun e w' hh=> ?_
  obtain ⟨_,j,he⟩:=zcg hh
  exact ⟨he.ret,zar he (fun _ h=>h)⟩
def Tryz.zc9 (N:Nat):List Sg→Bool
 | [] => true
 | x::r=>decide (1≤x.len∧x.at1+x.len≤N)&&zc9 N r
def Tryz.zha (N:Nat) (l:List Sg):Int:=if za3 l=0 then (if zc9 N l=true then 0 else 5) else za3 l
set_option maxRecDepth 10000 in
theorem Tryz.zCg {ρ:Val} {w0:World} {K:Nat→Prop} {P L Bs B N:Nat} {g:Nat→Int} {sa:Option Addr} {c:Nat} {l:List Sg} (hN:N≤1048576) (h1:1≤N) (hl:l.length≤64) (hok: ∀x∈l,x.ok) (hRm: ∀R o,sa=some ⟨R,o,none⟩→R≠P∧R≠L∧R≠Bs∧R≠B) (hv0:ρ.v 0= .pointer (some ⟨P,0,none⟩)) (hv1:ρ.v 1= .slice sa l.length c) (hn:(lnv 0).den ρ=l.length) (hb2:ρ.b 2=zc9 N l):
  zrF prog ρ w0 K (zkR P L Bs B N g sa l) zdS:=by
 refine zfS rfl (fun d hd=>by unfold zdS at hd;simp at hd;rcases hd with rfl|rfl<;>rfl) fun cc hc j a w F hsz hdf hsl _ hf _ _=> ?_
 obtain ⟨⟨_,_,_,_,hm⟩,hf⟩:=hf
 have g0:=R_val rfl (hsl (0,.cst 0 none) (by simp [zdS])).2
 have g9:=R_val rfl (hsl (23,sl1 []) (by simp [zdS])).2
 have g10:=R_val rfl (hsl (24,.int .i64 (lnv 0)) (by simp [zdS])).2
 have g11:=R_val rfl (hsl (25,.int .i64 (.lit 0)) (by simp [zdS])).2
 simp only [AV.val,sl1,hv0,hv1,hn,zad] at g0 g9 g10 g11
 have hcc:cc=zaI prog [0,0,1,0,1,1,1,172]:=by
  have:=zhz (P:=prog) (p:= [0,1,0,1,1,1,172]) (by kernel_rfl)
  have hc:zaI prog [0,1,0,1,1,1,172]= .loop cc:=hc
  rw [hc] at this
  injection this
 subst hcc
 have hsz:a.tmps.size=38:=hsz
 refine zbT (fun (k:Nat) a' w'=>k≤l.length∧a'.tmps.size=38∧a'.defers= []∧a'.tmps.getD 0 undef= .pointer (some ⟨P,0,none⟩)∧zc9 N l=zc9 N (l.drop k)∧a'.tmps.getD 23 undef= .slice sa l.length c∧a'.tmps.getD 24 undef= .int .i64 l.length∧a'.tmps.getD 25 undef= .int .i64 k∧Below w.heap.size w w')
  (fun k=>l.length-k) (fun k a1 w1 hI=> ?_) 0 a w ⟨Nat.zero_le _,hsz,hdf,g0,rfl,g9,g10,by rw [g11];rfl,Below.refl _ _⟩
 obtain ⟨hk,q0,qd,q1,qs,q9,q10,q11,hb⟩:=hI
 have hm1:=hm.below hb
 by_cases hkl:k<l.length
 ·rcases hf with h0|⟨R,o,rfl,hFR,hr⟩
  ·rw [h0] at hkl;simp at hkl
  have hR:=zdu hr (by intro h0;rw [h0] at hkl;simp at hkl)
  have hx:=zcP (zaN hr (hb.block R hR)) k hkl
  have hxo:=hok l[k] (List.getElem_mem hkl)
  rw [List.drop_eq_getElem_cons hkl,zc9] at qs
  generalize hX:l[k]=X at hx hxo qs
  generalize hy:decide (1≤X.len∧X.at1+X.len≤N)=y at qs
  have d0:(lnv 0).den (zbu l.length k 0 0 0 X y (.pointer (some ⟨P,0,none⟩)) (.slice (some ⟨R,o,none⟩) l.length c))=l.length:=zaw (by show (0:Int)≤l.length;omega) (by show ((l.length:Nat):Int)<_;omega)
  have d1:(lnv 1).den (zbu l.length k 0 0 0 X y (.pointer (some ⟨P,0,none⟩)) (.slice (some ⟨R,o,none⟩) l.length c))=k:=zaw (by show (0:Int)≤k;omega) (by show (k:Int)<_;omega)
  have d3:(u64v 3).den (zbu l.length k 0 0 0 X y (.pointer (some ⟨P,0,none⟩)) (.slice (some ⟨R,o,none⟩) l.length c))=X.at1:=zaJ hxo.1 hxo.2.1
  have d4:(u32v 4).den (zbu l.length k 0 0 0 X y (.pointer (some ⟨P,0,none⟩)) (.slice (some ⟨R,o,none⟩) l.length c))=X.len:=zbw hxo.2.2.1 hxo.2.2.2
  have dx:(zbu l.length k 0 0 0 X y (.pointer (some ⟨P,0,none⟩)) (.slice (some ⟨R,o,none⟩) l.length c)).b 0=X.wr:=rfl
  have dy:(zbu l.length k 0 0 0 X y (.pointer (some ⟨P,0,none⟩)) (.slice (some ⟨R,o,none⟩) l.length c)).b 2=y:=rfl
  have dv:(zbu l.length k 0 0 0 X y (.pointer (some ⟨P,0,none⟩)) (.slice (some ⟨R,o,none⟩) l.length c)).v 1= .slice (some ⟨R,o,none⟩) l.length c:=rfl
  have dp:(zbu l.length k 0 0 0 X y (.pointer (some ⟨P,0,none⟩)) (.slice (some ⟨R,o,none⟩) l.length c)).v 0= .pointer (some ⟨P,0,none⟩):=rfl
  have hsx: ∀j:J,j 1=some ⟨R,o+3*k,0,none⟩→Dw.R (zbu l.length k 0 0 0 X y (.pointer (some ⟨P,0,none⟩)) (.slice (some ⟨R,o,none⟩) l.length c)) j (sl1 [(lnv 1,1)]) (.slice (some ⟨R,o,none⟩) l.length c):=fun j h=>⟨rfl,_,_,_,rfl,d0.symm,⟨R,o,_,k,rfl,h,rfl,d1,hkl,rfl⟩,trivial⟩
  generalize zbu l.length k 0 0 0 X y (.pointer (some ⟨P,0,none⟩)) (.slice (some ⟨R,o,none⟩) l.length c)=ρ' at*
  have hMn: ∀b,b=P∨b=L∨b=Bs∨b=B→ ¬Mine (jOf [(R,o+3*k)]) b:=fun b hb hmn=>by
   obtain ⟨r1,r2,r3,r4⟩:=hRm R o rfl
   obtain ⟨i,L',e1,_,e3⟩:=hmn
   match i,e1 with
   | 0,e1=>cases e1
   | 1,e1=>
    cases e1
    have e3:R=b:=e3
    rw [e3] at r1 r2 r3 r4
    rcases hb with h|h|h|h<;>contradiction
   | i+2,e1=>cases e1
  refine wp_mono (zaz (ρ:=ρ') (K:=fun _=>False) (g:=memG P L Bs B N [g]) (bl:= [(R,o+3*k)]) mixed zCe zFV (fun b h=>h.elim)
   ⟨zaX hx (by unfold Sg.cells;simp) (zab (zac d3) (zab (zac d4) (zab (zaq dx) RL.nil))) (fun h=>h),trivial⟩
   ⟨fun h=>(by cases h),trivial⟩ (za5 hm1 hMn) ⟨?_,trivial⟩ trivial trivial q0 qd ?_ (zaa.2 ⟨by rw [zaQ,d0,d1];simp only [decide_eq_true_eq];omega,zae.2 trivial⟩)) fun ex a2 w2 hh=> ?_
  ·refine zay (Dw.enters_of (by kernel_rfl)) (by decide) [.pointer (some ⟨P,0,none⟩),.int .u64 X.at1,.int .u64 X.len] (.bool y) (fun j=>zab (zaR dp rfl) (zab (zac d3) (zab (zac d4) RL.nil))) (fun j=>zaq dy) fun w F q hf=> ?_
   obtain ⟨_,_,_,_,g',e,hm'⟩:=hf
   cases e
   rw [←hy]
   exact zA5 P L Bs B N X.at1 X.len g w hm' hN h1 hxo.1 hxo.2.1 hxo.2.2.1
  ·intro t ht
   simp only [zeY,List.mem_cons,List.not_mem_nil,or_false] at ht
   rcases ht with rfl|rfl|rfl|rfl
   ·rw [q1];exact zaR dp rfl
   ·rw [q9];exact hsx _ rfl
   ·rw [q10];exact zac d0
   ·rw [q11];exact zac d1
  ·obtain ⟨q,hq,hto,lf,hlf,rfl,hsz2,j2,hdf2,he⟩:=hh
   have hb3:=zar he (fun _ h=>h)
   have hwk:=zcN k (by omega)
   unfold zyg at hq
   simp only [List.mem_cons,List.not_mem_nil,or_false] at hq
   rcases hq with rfl|rfl
   all_goals
    simp only [zaa,zae,zaA,dy,and_true] at hto
    subst hto
    cases hlf
    have hsl2:=zav he.ret
    simp only [AV.valL,AV.val,d0,d1,d4,dv,dp,den_add,zad,hwk,List.map_cons,List.map_nil,List.cons.injEq,and_true] at hsl2
   ·refine ⟨⟨.lit true,.ret,[(4,.int .i64 (.lit 5))],0⟩,?_,rfl,hsz2,hdf2,(fun t ht=>by cases ht),fun s hs=> ?_,hb.trans (hb3.mono hb.size)⟩
    ·unfold zdS
     rw [zbA,if_neg (by rw [zaA,hb2,qs];simp)]
     rfl
    ·simp only [List.mem_cons,List.not_mem_nil,or_false] at hs
     subst hs
     rw [hsl2];exact zac rfl
   ·obtain ⟨p1,p9,p10,p11⟩:=hsl2
    exact ⟨k+1,by omega,by omega,hsz2,hdf2,p1,by rw [qs];simp,p9,p10,p11,hb.trans (hb3.mono hb.size)⟩
 ·have hkk:k=l.length:=by omega
  subst hkk
  rw [List.drop_length,zc9] at qs
  have d0:(lnv 0).den (zbu l.length l.length 0 0 0 ⟨0,0,false⟩ false (.pointer (some ⟨P,0,none⟩)) (.slice sa l.length c))=l.length:=zaw (by show (0:Int)≤l.length;omega) (by show ((l.length:Nat):Int)<_;omega)
  have d1:(lnv 1).den (zbu l.length l.length 0 0 0 ⟨0,0,false⟩ false (.pointer (some ⟨P,0,none⟩)) (.slice sa l.length c))=l.length:=zaw (by show (0:Int)≤l.length;omega) (by show ((l.length:Nat):Int)<_;omega)
  have dp:(zbu l.length l.length 0 0 0 ⟨0,0,false⟩ false (.pointer (some ⟨P,0,none⟩)) (.slice sa l.length c)).v 0= .pointer (some ⟨P,0,none⟩):=rfl
  have hsx:Dw.R (zbu l.length l.length 0 0 0 ⟨0,0,false⟩ false (.pointer (some ⟨P,0,none⟩)) (.slice sa l.length c)) (jOf []) (sl1 []) (.slice sa l.length c):=⟨rfl,_,_,_,rfl,d0.symm,trivial⟩
  generalize zbu l.length l.length 0 0 0 ⟨0,0,false⟩ false (.pointer (some ⟨P,0,none⟩)) (.slice sa l.length c)=ρ' at*
  refine wp_mono (zaz (ρ:=ρ') (K:=fun _=>False) (g:=Gho.none) (bl:= []) mixed zye zCd (fun b h=>h.elim) trivial trivial zaK trivial trivial trivial q0 qd ?_ (zaa.2 ⟨by rw [zaQ,d0,d1];simp,zae.2 trivial⟩)) fun ex a2 w2 hh=> ?_
  ·intro t ht
   simp only [zdR,List.mem_cons,List.not_mem_nil,or_false] at ht
   rcases ht with rfl|rfl|rfl|rfl
   ·rw [q1];exact zaR dp rfl
   ·rw [q9];exact hsx
   ·rw [q10];exact zac d0
   ·rw [q11];exact zac d1
  ·obtain ⟨q,hq,hto,lf,hlf,rfl,hsz2,j2,hdf2,he⟩:=hh
   have hb3:=zar he (fun _ h=>h)
   unfold ztF at hq
   simp only [List.mem_cons,List.not_mem_nil,or_false] at hq
   subst hq
   cases hlf
   refine ⟨⟨.var 2,.exit 0,[],0⟩,?_,rfl,hsz2,hdf2,(fun t ht=>by cases ht),fun s hs=>(by cases hs),hb.trans (hb3.mono hb.size)⟩
   unfold zdS
   rw [zbA,if_pos (by rw [zaA,hb2,qs])]
theorem Tryz.zrZ {ρ:Val} {w0:World} {K:Nat→Prop} {gh:Gho} {P L Bs B N:Nat} {g:Nat→Int} (hp:ρ.v 0= .pointer (some ⟨P,0,none⟩)) (hf: ∀w F q,gh.fact 0 q F w→GM w P L Bs B N g):zaO prog ρ w0 K gh rd0E:=
 zay (Dw.enters_of (by kernel_rfl)) (by decide) [.pointer (some ⟨P,0,none⟩),.int .u64 0,.int .i64 0] (.tuple #[.slice none 0 0,.int .i64 0]) (fun j=>zab (zaR hp rfl) (zab (zac rfl) (zab (zac rfl) RL.nil))) (fun j=>zc5 (zab rfl (zab (zac rfl) RL.nil))) fun w F q h=>
  Calls.mono (zoH P L Bs B N 0 g w (hf w F q h)) fun e w' hh=>⟨hh.1,hh.2▸Below.refl _ _⟩
theorem Tryz.zyo {A:Nat→Prop} {w:World} {P L Bs B N:Nat} {g:Nat→Int} {sa:Option Addr} {c:Nat} {l:List Sg} (hm:GM w P L Bs B N g) (hN:N≤1048576) (h1:1≤N) (h:SegV A w (.slice sa l.length c) l) (hln:l.length<4611686018427387904)
  (hRm: ∀R o,sa=some ⟨R,o,none⟩→R≠P∧R≠L∧R≠Bs∧R≠B):
  Calls prog 172 #[.pointer (some ⟨P,0,none⟩),.slice sa l.length c] w fun e w'=>e= .returned (.int .i64 (zha N l))∧Below w.heap.size w w':=by
 have h0:=h
 obtain ⟨sa',c',e',hok,hr⟩:=h
 obtain ⟨F0,hF0,hF1⟩:=zeZ h0
 have hG:(zkR P L Bs B N g sa l).G 0 (jOf []) w:=by
  refine ⟨fun b=>F0 b∨b=P∨b=L∨b=Bs∨b=B,fun b hb=>⟨?_,?_⟩,⟨.inr (.inl rfl),.inr (.inr (.inl rfl)),.inr (.inr (.inr (.inl rfl))),.inr (.inr (.inr (.inr rfl))),hm⟩,?_⟩
  ·rcases hb with hb|rfl|rfl|rfl|rfl
   ·exact (hF0 b hb).1
   ·exact hm.pl
   ·exact hm.ll
   ·exact hm.sl
   ·exact hm.bl
  ·rintro ⟨k,L',h1,_⟩
   cases k<;>cases h1
  ·have hF1:SegF F0 w sa l:=hF1
   rcases hF1 with h|⟨R,o,e,hF,hr⟩
   ·exact .inl h
   ·exact .inr ⟨R,o,e,.inl hF,hr⟩
 have hF:=fun w F q (hf:(zkR P L Bs B N g sa l).fact 0 q F w)=>SegF.v hf.2 hok c
 have hM:=fun w F q (hf:(zkR P L Bs B N g sa l).fact 0 q F w)=>hf.1.2.2.2.2
 have d0:(lnv 0).den (zbu l.length 0 0 0 (za3 l) ⟨0,0,false⟩ (zc9 N l) (.pointer (some ⟨P,0,none⟩)) (.slice sa l.length c))=l.length:=zaw (by show (0:Int)≤l.length;omega) (by show ((l.length:Nat):Int)<_;omega)
 have h7:(zbu l.length 0 0 0 (za3 l) ⟨0,0,false⟩ (zc9 N l) (.pointer (some ⟨P,0,none⟩)) (.slice sa l.length c)).i 7=za3 l:=rfl
 have hb2:(zbu l.length 0 0 0 (za3 l) ⟨0,0,false⟩ (zc9 N l) (.pointer (some ⟨P,0,none⟩)) (.slice sa l.length c)).b 2=zc9 N l:=rfl
 have hv0:(zbu l.length 0 0 0 (za3 l) ⟨0,0,false⟩ (zc9 N l) (.pointer (some ⟨P,0,none⟩)) (.slice sa l.length c)).v 0= .pointer (some ⟨P,0,none⟩):=rfl
 have hv:(zbu l.length 0 0 0 (za3 l) ⟨0,0,false⟩ (zc9 N l) (.pointer (some ⟨P,0,none⟩)) (.slice sa l.length c)).v 1= .slice sa l.length c:=rfl
 unfold zha
 generalize zbu l.length 0 0 0 (za3 l) ⟨0,0,false⟩ (zc9 N l) (.pointer (some ⟨P,0,none⟩)) (.slice sa l.length c)=ρ at*
 by_cases hE:za3 l=0
 ·have hl:=ze0 hE
  rw [if_pos hE]
  refine Calls.mono (zhp (ρ:=ρ) (K:=fun _=>False) (g:=zkR P L Bs B N g sa l) (bl:= []) (vals:= [.pointer (some ⟨P,0,none⟩),.slice sa l.length c]) mixed zFW zIu (fun b h=>h.elim) trivial trivial hG ⟨zrl hv d0 h7 hF,zrZ hv0 hM,trivial⟩ ⟨zCg hN h1 hl hok hRm hv0 hv d0 hb2,trivial⟩ trivial (zab (zaR hv0 rfl) (zab (zm1 hv d0) RL.nil)) (zae.2 trivial)) fun e w' hh=> ?_
  obtain ⟨p,hpm,hto,lf,hlf,j,he⟩:=hh
  have hb:=zar he (fun _ h=>h)
  unfold zEr at hpm
  simp only [List.mem_cons,List.not_mem_nil,or_false] at hpm
  rcases hpm with rfl|rfl|rfl
  all_goals
   simp only [zaa,zae,zcF,zaA,zat,zad,h7,hb2,hE,and_true] at hto
   cases hlf
  ·exact absurd hto (by decide)
  ·rw [if_pos hto.2];exact ⟨he.ret,hb⟩
  ·rw [if_neg (by rw [hto.2];decide)];exact ⟨he.ret,hb⟩
 ·rw [if_neg hE]
  refine Calls.mono (zaF (ρ:=ρ) (K:=fun _=>False) (g:=zkR P L Bs B N g sa l) (bl:= []) (vals:= [.pointer (some ⟨P,0,none⟩),.slice sa l.length c]) mixed zCh zFZ (fun b h=>h.elim) trivial trivial hG ⟨zrl hv d0 h7 hF,zrZ hv0 hM,trivial⟩ (zab (zaR hv0 rfl) (zab (zm1 hv d0) RL.nil)) (zaa.2 ⟨by rw [zcF,zat,h7,zad];simpa using hE,zae.2 trivial⟩)) fun e w' hh=> ?_
  obtain ⟨_,j,he⟩:=zcg hh
  exact ⟨he.ret.trans (by simp only [AV.val,zat,h7]),zar he (fun _ h=>h)⟩
end Go.Proofs
namespace Go.Dw
open Go.RowKit
structure EntW where
 e:Ent
 rows:List (Nat×List AV×List AV)
def isVar (H:Heap) (n:Nat) (row row':List AV):Bool:=
 match H.m.get n with
 | some (.cells v 0 g none false true)=>(match Nat.beq g n,Nat.beq v.n row.length,Nat.beq row'.length row.length with
  | true,true,true=>AV.beqL (v.list 0 v.n) row
  | _,_,_=>false)
 | _=>false
def znP (H:Heap):List (Nat×List AV×List AV)→Bool
 | [] => true
 | r::l=>match isVar H r.1 r.2.1 r.2.2 with|true=>znP H l|false=>false
def zdU (H:Heap):List (Nat×List AV×List AV)→Heap
 | [] => H
 | r::l=>zdU (H.upd r.1 (.cells (Vec.ofList r.2.2) 0 r.1 none false true)) l
def zdV:List (Nat×List AV×List AV)→List Nat
 | [] => []
 | r::l=>r.1::zdV l
def ziy:List (Nat×List AV×List AV)→List (Nat×List AV)
 | [] => []
 | r::l=>(r.1,r.2.1)::ziy l
def subN:List Nat→List Nat→Bool
 | [], _=>true
 | a::l,m=>match m.any (Nat.beq a) with|true=>subN l m|false=>false
def EntW.fits (e:EntW) (f:FuncId) (args:List AV) (H:Heap):Bool:=
 match e.e.fits f args H,znP H e.rows,zcl H (ziy e.rows),subN (zdV e.rows) (AV.namesL args) with
 | true,true,true,true=>zgE (zdV e.rows)
 | _,_,_,_=>false
theorem zhW: ∀ {l:List (Nat×List AV×List AV)} {r},r∈l→(r.1,r.2.1)∈ziy l
 | [], r,h=>by cases h
 | x::l,r,h=>by
  unfold ziy
  rcases List.mem_cons.1 h with rfl|h
  ·exact List.mem_cons_self ..
  ·exact List.mem_cons_of_mem _ (zhW h)
theorem zmW: ∀ {l m:List Nat},subN l m=true→ ∀a∈l,a∈m
 | [], _,_,a,h=>by cases h
 | x::l,m,hs,a,h=>by
  unfold subN at hs
  split at hs
  case h_2=>cases hs
  rename_i h1
  rcases List.mem_cons.1 h with rfl|h
  ·obtain ⟨y,h2,h3⟩:=List.any_eq_true.1 h1
   rw [zax h3];exact h2
  ·exact zmW hs a h
def ziO:List EntW→FuncId→List AV→Heap→Option (List (AV×Heap))
 | [], _,_,_=>none
 | e::l,f,args,H=>match e.fits f args H with
  | true=>some [(e.e.res,zdU (e.e.heap H) e.rows)]
  | false=>ziO l f args H
def zkv (l:List Ent) (m:List EntW):FuncId→List AV→Heap→Option (List (AV×Heap)):=fun f args H=>
 match zau l f args H with
 | some r=>some r
 | none=>ziO m f args H
def zk4 (j:J) (rows:List (Nat×List AV×List AV)) (b:Nat):Prop:= ∃r∈rows,∃L,j r.1=some L∧b=L.blk
def zJB (P:Program) (ρ:Val) (w0:World) (K:Nat→Prop) (g:Gho) (e:EntW):Prop:=
 Enters P e.e.f∧ ∀(j:J) (w:World) (vals:List Value) (F:Nat→Prop) (n:Nat),RL ρ j e.e.args vals→(∀k,n≤k→j k=none)→(e.e.nopq≠0→n=e.e.base)→(∀b,F b→b<w.heap.size)→w0.heap.size≤w.heap.size→
  (∀ r∈e.rows,∃L vs,j r.1=some L∧L.off=0∧(w0.heap.size≤L.blk∨K L.blk)∧ ¬F L.blk∧RL ρ j r.2.1 vs∧Own w L.blk vs)→
  (∀ r∈e.rows,∀r'∈e.rows,r.1≠r'.1→ ∀L L',j r.1=some L→j r'.1=some L'→L.blk≠L'.blk)→g.fact e.e.gs (opqs j) F w→
   Calls P e.e.f vals.toArray w fun en w'=> ∃u qs F',en= .returned u∧qs.length=e.e.nopq∧R ρ (jq j n qs) e.e.res u∧g.fact e.e.gs' (opqs (jq j n qs)) F' w'∧(∀b,F' b→b<w'.heap.size∧(F b∨w.heap.size≤b))∧
    (∀ r∈e.rows,∀L,j r.1=some L→ ∃vs,RL ρ (jq j n qs) r.2.2 vs∧Own w' L.blk vs)∧Mv (fun b=>(F b∧(w0.heap.size≤b∨K b))∨zk4 j e.rows b) w w'
def zxK (P:Program) (ρ:Val) (w0:World) (K:Nat→Prop) (g:Gho):List EntW→Prop
 | [] => True
 | e::l=>zJB P ρ w0 K g e∧zxK P ρ w0 K g l
def zf0:List (Nat×List AV×List AV)→Bool
 | [] => true
 | r::l=>match AV.smallL r.2.1,AV.smallL r.2.2 with|true,true=>zf0 l|_,_=>false
def zdq:List EntW→Bool
 | [] => true
 | e::l=>match AV.smallL e.e.args,e.e.res.small,zf0 e.rows with|true,true,true=>zdq l|_,_,_=>false
theorem zdO: ∀ {l:List (Nat×List AV×List AV)},zf0 l=true→ ∀r∈l,AV.smallL r.2.1=true∧AV.smallL r.2.2=true
 | [], _,r,h=>by cases h
 | x::l,hl,r,h=>by
  unfold zf0 at hl
  split at hl
  ·rename_i h1 h2
   rcases List.mem_cons.1 h with rfl|h
   ·exact ⟨h1,h2⟩
   ·exact zdO hl r h
  ·cases hl
theorem zDC {H:Heap} {n:Nat} {row row':List AV} (h:isVar H n row row'=true): ∃v,H.m.get n=some (.cells v 0 n none false true)∧v.n=row.length∧row'.length=row.length∧v.list 0 v.n=row:=by
 unfold isVar at h
 split at h
 case h_2=>cases h
 rename_i v g hm
 split at h
 case h_2=>cases h
 rename_i h1 h2 h3
 have h1:=zax h1
 subst h1
 exact ⟨v,hm,zax h2,zax h3,AV.beqL_eq h⟩
theorem zkH {H:Heap}: ∀ {l:List (Nat×List AV×List AV)},znP H l=true→ ∀r∈l,isVar H r.1 r.2.1 r.2.2=true
 | [], _,r,h=>by cases h
 | x::l,hl,r,h=>by
  unfold znP at hl
  split at hl
  ·rename_i h1
   rcases List.mem_cons.1 h with rfl|h
   ·exact h1
   ·exact zkH hl r h
  ·cases hl
theorem zsE {n:Nat} {l:List Nat} (h:zgE (n::l)=true):n∉l∧zgE l=true:=by
 unfold zgE at h
 split at h
 ·cases h
 ·rename_i hh
  refine ⟨fun hm=> ?_,h⟩
  have:l.any (Nat.beq n)=true:=List.any_eq_true.2 ⟨n,hm,by simp⟩
  rw [this] at hh
  cases hh
theorem zfI: ∀ {l:List (Nat×List AV×List AV)} {r},r∈l→r.1∈zdV l
 | [], r,h=>by cases h
 | x::l,r,h=>by
  unfold zdV
  rcases List.mem_cons.1 h with rfl|h
  ·exact List.mem_cons_self ..
  ·exact List.mem_cons_of_mem _ (zfI h)
theorem Inv.turns {ρ:Val} {x:Cx} {j:J} {w':World}: ∀(rows:List (Nat×List AV×List AV)) {H:Heap} {wm:World},Inv ρ x j H wm→zgE (zdV rows)=true→
  (∀ r∈rows,∃v L vs,H.m.get r.1=some (.cells v 0 r.1 none false true)∧v.n=r.2.2.length∧j r.1=some L∧L.off=0∧RL ρ j r.2.2 vs∧Own w' L.blk vs)→
  (∀ r∈rows,∀r'∈rows,r.1≠r'.1→ ∀L L',j r.1=some L→j r'.1=some L'→L.blk≠L'.blk)→
  (∃ hp:Array Go.Obj,wm= { w' with heap:=hp })→wm.heap.size=w'.heap.size→(∀b,¬zk4 j rows b→wm.heap[b]? =w'.heap[b]?)→
  Inv ρ x j (zdU H rows) w'
 | [], H,wm,hi,_,_,_,⟨hp,hw⟩,hsz,hout=>by
  have:hp=w'.heap:=by
   apply Array.ext_getElem?
   intro i
   have:=hout i (by rintro ⟨r,h,_⟩;cases h)
   rw [hw] at this
   exact this
  subst this
  rw [hw] at hi
  exact hi
 | r::rows,H,wm,hi,hnd,hr,hne,⟨hp,hw⟩,hsz,hout=>by
  obtain ⟨hn1,hn2⟩:=zsE hnd
  obtain ⟨v,L,vs,h1,h2,h3,h4,h5,arr,e,h6,h7⟩:=hr r (List.mem_cons_self ..)
  have hlt:L.blk<wm.heap.size:=hi.blk _ _ h3 (hi.qrow h3 h1)
  have hb:=(hi.obj _ _ h3)
  let w1:World:= { w' with heap:=wm.heap.setIfInBounds L.blk (.cells arr e (0,0)) }
  have hset:w1.heap[L.blk]? =some (.cells arr e (0,0)):=by
   show (wm.heap.setIfInBounds L.blk _)[L.blk]? =_
   rw [Array.getElem?_setIfInBounds_self_of_lt hlt]
  have hoth: ∀k,k≠L.blk→w1.heap[k]? =wm.heap[k]? :=fun k hk=>by
   show (wm.heap.setIfInBounds L.blk _)[k]? =_
   rw [Array.getElem?_setIfInBounds_ne (fun h=>hk h.symm)]
  have hlen:=RL.length h5
  have hcell: ∀i a,r.2.2[i]? =some a→ ∃x,arr[L.off+i]? =some x∧R ρ j a x:=fun i a hi'=>by
   obtain ⟨x,q1,q2⟩:=h5.get i a hi'
   exact ⟨x,by rw [h4,Nat.zero_add];exact h7 i x q1,q2⟩
  have hn:L.off+v.n≤arr.size:=by
   rcases Nat.eq_zero_or_pos v.n with h0|h0
   ·omega
   ·obtain ⟨x,q1,_⟩:=hcell (v.n-1) _ (List.getElem?_eq_getElem (by omega))
    have:=(Array.getElem?_eq_some_iff.1 q1).1
    omega
  have hi1:=hi.turned h3 h1 h2.symm hset hoth (by show (wm.heap.setIfInBounds L.blk _).size=_;simp) (by rw [hw]) (by rw [hw]) (by rw [hw]) hn hcell
  unfold zdU
  rw [Heap.upd_eq]
  refine Inv.turns rows hi1 hn2 (fun r' hr'=> ?_) (fun r1 h1' r2 h2'=>hne r1 (List.mem_cons_of_mem _ h1') r2 (List.mem_cons_of_mem _ h2')) ⟨_,rfl⟩ (by show (wm.heap.setIfInBounds L.blk _).size=_;simp [hsz]) (fun b hb=> ?_)
  ·obtain ⟨v',L',vs',g1,g2⟩:=hr r' (List.mem_cons_of_mem _ hr')
   have hne':r'.1≠r.1:=fun h=>hn1 (h▸zfI hr')
   exact ⟨v',L',vs',by show (H.m.set r.1 _).get r'.1=_;rw [T.get_set_ne _ _ hne'];exact g1,g2⟩
  ·by_cases hbl:b=L.blk
   ·subst hbl;rw [hset,h6]
   ·rw [hoth b hbl]
    refine hout b ?_
    rintro ⟨r',hr',L',g1,g2⟩
    rcases List.mem_cons.1 hr' with rfl|hr'
    ·rw [h3] at g1;cases g1;exact hbl g2
    ·exact hb ⟨r',hr',L',g1,g2⟩
theorem zhO: ∀(rows:List (Nat×List AV×List AV)) (H:Heap),(zdU H rows).nx=H.nx∧(zdU H rows).gw=H.gw∧ ∀k,k∉zdV rows→(zdU H rows).m.get k=H.m.get k
 | [], H=>⟨rfl,rfl,fun _ _=>rfl⟩
 | r::rows,H=>by
  unfold zdU
  rw [Heap.upd_eq]
  obtain ⟨h1,h2,h3⟩:=zhO rows ⟨H.m.set r.1 (.cells (Vec.ofList r.2.2) 0 r.1 none false true),H.nx,H.gw⟩
  refine ⟨h1,h2,fun k hk=> ?_⟩
  unfold zdV at hk
  rw [h3 k (fun h=>hk (List.mem_cons_of_mem _ h))]
  exact T.get_set_ne _ _ (fun h=>hk (h▸List.mem_cons_self ..))
theorem zwf {P:Program} {ρ:Val} {w0:World} {K:Nat→Prop} {g:Gho} (m:Nat→Bool) {l:List EntW} (hs:zdq l=true) (h:zxK P ρ w0 K g l):zfY P (ρ.mark m) (cxOf w0 K g) (ziO l):=by
  intro f args H r hr
  induction l with
  | nil=>cases hr
  | cons e l ih=>
    unfold zdq at hs
    split at hs
    case h_2=>cases hs
    rename_i s1 s2 s3
    unfold ziO at hr
    split at hr
    case h_2=>exact ih hs h.2 hr
    rename_i hf
    cases hr
    unfold EntW.fits at hf
    split at hf
    case h_2=>cases hf
    rename_i hf1 hf2 hf3 hf4
    unfold Ent.fits at hf1
    split at hf1
    · cases hf1
    rename_i hff
    have hff:=zax hff
    subst hff
    split at hf1
    case h_2=>cases hf1
    rename_i ha hgs
    have ha:=AV.beqL_eq ha
    have hgs:=zax hgs
    subst ha
    obtain ⟨h1,h2⟩:=h.1
    refine ⟨h1,fun k hk j w vals hi hv=> ?_⟩
    have hk:Ob.den (ρ.mark m) (k e.e.res (zdU (e.e.heap H) e.rows)):=hk
    have hG:=hi.gho
    rw [hgs] at hG
    obtain ⟨F,g1,g2⟩:=hG
    have hnone: ∀k,H.nx≤k→j k=none:=fun k hk=>by
      cases hjk:j k with
      | none=>rfl
      | some L=>have:=hi.dom k L hjk;omega
    have hbase:e.e.nopq≠0→H.nx=e.e.base:=fun hn=>by
      split at hf1
      · rename_i h0;exact absurd h0 hn
      · exact zax hf1
    have hpl: ∀r∈e.rows,∃L,j r.1=some L:=fun r hr=>⟨_,namesL_some hv r.1 (zmW hf4 _ (zfI hr))⟩
    have hrow: ∀r∈e.rows,∃v L vs arr t,H.m.get r.1=some (.cells v 0 r.1 none false true)∧v.n=r.2.1.length∧r.2.2.length=r.2.1.length∧j r.1=some L∧L.q=none∧L.off=0∧(cxOf w0 K g).own L.blk∧w.heap[L.blk]? =some (.cells arr t (0,0))∧RL ρ j r.2.1 vs∧ ∀(i:Nat) (y:Value),vs[i]? =some y→arr[i]? =some y:=fun r hr=>by
      obtain ⟨v,q1,q2,q3,_⟩:=zDC (zkH hf2 r hr)
      obtain ⟨L,hL⟩:=hpl r hr
      have hq:=hi.qrow hL q1
      have h0:=hi.off0 _ _ _ _ _ _ hL q1
      obtain ⟨o,k1,k2⟩:=hi.obj _ _ hL
      rw [q1] at k1;cases k1
      have hown:=k2.2.1
      rw [if_pos rfl] at hown
      obtain ⟨vals,arr,t,fr,p1,p2,p3,_⟩:=hi.rowOut hL (zb7 hf3 (zhW hr))
      have:=hi.fz _ _ hL hq hown _ _ _ p1
      subst this
      exact ⟨v,L,vals,arr,t,q1,q2,q3,hL,hq,h0,hown,p1,(RL_mark m (zdO s3 r hr).1).1 p2,fun i y hy=>by have:=p3 i y hy;rwa [h0,Nat.zero_add] at this⟩
    have hFr: ∀r∈e.rows,∀L,j r.1=some L→ ¬F L.blk:=fun r hr L hL hF=>by
      obtain ⟨v,L',vs,arr,t,q1,q2,q3,q4,q5,_⟩:=hrow r hr
      rw [hL] at q4;cases q4
      exact (g1 _ hF).2 ⟨r.1,L,hL,q5,rfl⟩
    have hne: ∀r∈e.rows,∀r'∈e.rows,r.1≠r'.1→ ∀L L',j r.1=some L→j r'.1=some L'→L.blk≠L'.blk:=fun r hr r' hr' hne L L' hL hL' hb=>by
      obtain ⟨v,L1,vs,arr,t,q1,q2,q3,q4,q5,_⟩:=hrow r hr
      obtain ⟨v',L2,vs',arr',t',q1',q2',q3',q4',q5',_⟩:=hrow r' hr'
      rw [hL] at q4;cases q4
      rw [hL'] at q4';cases q4'
      obtain ⟨vn,en,gn,cn,sn,on,vm,em,gm,cm,sm,om,k1,k2,k3,k4⟩:=hi.sep r.1 r'.1 L L' hne hL hL' q5 q5' hb
      rw [q1] at k1;cases k1
      rw [q1'] at k2;cases k2
      exact hne (k4 rfl).1
    refine Calls.mono (h2 j w vals F H.nx ((RL_mark m s1).1 hv) hnone hbase (fun b hF=>(g1 b hF).1) hi.fr.size (fun r hr=> ?_) hne g2) fun en w' he=> ?_
    · obtain ⟨v,L,vs,arr,t,q1,q2,q3,q4,q5,q6,q7,q8,q9,q10⟩:=hrow r hr
      exact ⟨L,vs,q4,q6,q7,hFr r hr L q4,q9,arr,t,q8,q10⟩
    · obtain ⟨u,qs,F',rfl,e2,e3,e4,e5,e6,e7⟩:=he
      classical
      let hp:Array Go.Obj:=Array.ofFn (n:=w'.heap.size) fun i=>if zk4 j e.rows i.val then (w.heap[i.val]?).getD w'.heap[i] else w'.heap[i]
      let wm:World:= { w' with heap:=hp }
      have hT: ∀b,zk4 j e.rows b→b<w.heap.size∧Mine j b∧(cxOf w0 K g).own b:=fun b hb=>by
        obtain ⟨r,hr,L,hL,rfl⟩:=hb
        obtain ⟨v,L',vs,arr,t,q1,q2,q3,q4,q5,q6,q7,q8,_⟩:=hrow r hr
        rw [hL] at q4;cases q4
        exact ⟨hi.blk _ _ hL q5,⟨r.1,L,hL,q5,rfl⟩,q7⟩
      have hhp: ∀b,b<w'.heap.size→wm.heap[b]? =if zk4 j e.rows b then w.heap[b]? else w'.heap[b]? :=fun b hb=>by
        show hp[b]? =_
        rw [Array.getElem?_eq_getElem (by simp [hp];exact hb)]
        simp only [hp,Array.getElem_ofFn]
        by_cases ht:zk4 j e.rows b
        · rw [if_pos ht,if_pos ht]
          rw [Array.getElem?_eq_getElem (hT b ht).1]
          rfl
        · rw [if_neg ht,if_neg ht,Array.getElem?_eq_getElem hb]
          rfl
      have hsz:wm.heap.size=w'.heap.size:=by show hp.size=_;simp [hp]
      have hmv:Mv (fun b=> ¬Mine j b∧(cxOf w0 K g).own b) w wm:=⟨e7.os,e7.tape,e7.output,by rw [hsz];exact e7.size,fun b hb hnb=>by
        rw [hhp b (Nat.lt_of_lt_of_le hb e7.size)]
        by_cases ht:zk4 j e.rows b
        · rw [if_pos ht]
        · rw [if_neg ht]
          refine e7.block b hb ?_
          rintro (⟨hF,ho⟩|h)
          · exact hnb ⟨(g1 b hF).2,ho⟩
          · exact ht h⟩
      have hFn: ∀b,F' b→ ¬zk4 j e.rows b:=fun b hF' ht=>by
        rcases (e5 b hF').2 with hF|hF
        · exact (g1 b hF).2 (hT b ht).2.1
        · have:=(hT b ht).1;omega
      have hns:(cxOf w0 K g).G e.e.gs' (jq j H.nx qs) wm:=⟨F',fun b hF'=>⟨by rw [hsz];exact (e5 b hF').1,fun hm=>by
        have hm:=zni hnone hm
        rcases (e5 b hF').2 with hF|hF
        · exact (g1 b hF).2 hm
        · obtain ⟨k,L,k1,k2,k3⟩:=hm
          have:=hi.blk k L k1 k2
          omega⟩,g.loc _ _ _ _ _ _ e4 (fun _ _ h=>h) (fun b hb=>by rw [hhp b (e5 b hb).1,if_neg (hFn b hb)]) (by omega)⟩
      obtain ⟨i1,i2⟩:=Inv.ent (e:=e.e) hi hgs e2 hns hmv
      have hjq: ∀r∈e.rows,jq j H.nx qs r.1=j r.1:=fun r hr=>by
        obtain ⟨L,hL⟩:=hpl r hr
        rw [hL];exact zEj hi qs _ _ hL
      have hTq: ∀b,zk4 (jq j H.nx qs) e.rows b↔zk4 j e.rows b:=fun b=>by
        constructor
        · rintro ⟨r,hr,L,hL,hb⟩;exact ⟨r,hr,L,(hjq r hr)▸hL,hb⟩
        · rintro ⟨r,hr,L,hL,hb⟩;exact ⟨r,hr,L,(hjq r hr).symm▸hL,hb⟩
      obtain ⟨z1,z2,z3,z4,z5⟩:=e.e.heap_eq H hi.nx0 hgs
      have hobj: ∀r∈e.rows,(e.e.heap H).m.get r.1=H.m.get r.1:=fun r hr=>by
        obtain ⟨L,hL⟩:=hpl r hr
        have:=hi.dom _ _ hL
        have hn0:=hi.ne0 hL
        rw [z4 r.1 (by omega),if_neg (by omega)]
      have i3:=Inv.turns e.rows (w':=w') i1 hf (fun r hr=>by
        obtain ⟨v,L,vs,arr,t,q1,q2,q3,q4,q5,q6,_⟩:=hrow r hr
        obtain ⟨vs',k1,k2⟩:=e6 r hr L q4
        exact ⟨v,L,vs',by rw [hobj r hr];exact q1,by omega,by rw [hjq r hr];exact q4,q6,(RL_mark m (zdO s3 r hr).2).2 k1,k2⟩)
        (fun r hr r' hr' hh L L' hL hL'=>hne r hr r' hr' hh L L' ((hjq r hr)▸hL) ((hjq r' hr')▸hL')) ⟨hp,rfl⟩ hsz (fun b hb=>by
          rw [hTq] at hb
          by_cases hlt:b<w'.heap.size
          · rw [hhp b hlt,if_neg hb]
          · rw [Array.getElem?_eq_none (by omega),Array.getElem?_eq_none (by omega)])
      obtain ⟨y1,y2,y3⟩:=zhO e.rows (e.e.heap H)
      refine ⟨u,rfl,e.e.res,_,_,(R_mark m s2).2 e3,i3,⟨i2.sub,i2.fresh,fun n hp hn hlt=> ?_,by rw [y1];exact i2.nx⟩,hk⟩
      have hnr:n∉zdV e.rows:=fun hm=>by
        have:=namesL_some hv n (zmW hf4 _ hm)
        rw [hn] at this;cases this
      rw [y3 n hnr,y2]
      exact i2.keep n hp hn hlt
theorem zxy {P:Program} {ρ:Val} {x:Cx} {l:List Ent} {m:List EntW} (h1:zfY P ρ x (zau l)) (h2:zfY P ρ x (ziO m)):zfY P ρ x (zkv l m):=by
 intro f args H r hr
 unfold zkv at hr
 split at hr
 ·rename_i r' h;cases hr;exact h1 f args H _ h
 ·exact h2 f args H r hr
theorem zxd {P:Program} {ρ:Val} {w:World} {K:Nat→Prop} {g:Gho} {bl:List (Nat×Nat)} {shs:List Sh} {gs:Nat} {ents:List Ent} {wents:List EntW} {lents:List LEnt} {aents:List AEnt} {n:Nat} {f:FuncId} {args:List AV} {vals:List Value} {ls:List Leaf} {asm:List (SB×Bool)} {ps:List (List (SB×Bool)×Nat)}
  (hmo:P.follows .mixedOrders=true)
  (h:(evL P (zkv ents wents) (zaD lents) (zaC aents) n (.call f args (zas gs shs) (zaM ls 0))).ways asm=some ps)
  (hs:(zah shs&&zaf ents&&zdq wents&&zak lents&&zal aents&&AV.smallL args&&zam ls)=true)
  (hK: ∀b,K b→b<w.heap.size) (ho:ShsOk ρ (jOf bl) (cxOf w K g) bl shs) (hap:apart bl shs) (hG:g.G gs (jOf bl) w) (he:zmC P ρ w K g ents) (hw:zxK P ρ w K g wents) (hl:zqA P ρ w K g lents) (haa:zrt P ρ w K g aents) (ha:RL ρ (jOf bl) args vals) (ht:Told ρ asm):
  Calls P f vals.toArray w fun e w'=> ∃p∈ps,Told ρ p.1∧ ∃l,ls[p.2]? =some l∧ ∃j,znV ρ w K g bl l e w' j:=by
 simp only [Bool.and_eq_true] at hs
 obtain ⟨⟨⟨⟨⟨⟨s1,s2⟩,sw⟩,s5⟩,s9⟩,s3⟩,s4⟩:=hs
 unfold Ob.ways at h
 cases hps:(evL P (zkv ents wents) (zaD lents) (zaC aents) n (.call f args (zas gs shs) (zaM ls 0))).paths asm with
 | none=>rw [hps] at h;cases h
 | some ps0=>
 rw [hps] at h
 cases h
 have h:=hps
 refine Calls.mono (zqq (x:=cxOf w K g) hmo (fun m=>zxy (zgX (zc0 m s2 he)) (zwf m sw hw)) (fun m=>zhA m s5 hl) (fun m=>zhK m s9 haa) (fun m=>zgS hK (zdN m s1 ho) hap hG) (fun m=>(RL_mark m s3).2 ha) ht h) fun e w' hh=> ?_
 obtain ⟨p,hp,hto,l,hl,m,u,v,j',H',rfl,h1,h2,h3,h4⟩:=hh
 obtain ⟨x1,x2,x3,x4⟩:=zb3 s4 hl
 exact ⟨(p.1.drop asm.length,p.2),zc2 hp,fun c hc=>hto c (List.mem_of_mem_drop hc),l,hl,j',ziH x1 x2 x3 x4 h1 h2 h3 h4⟩
end Go.Dw
namespace Go.Proofs
open Go.Dw Go.RowKit
def Tryz.zkB (n:Nat):Nat→List AV
 | 0=> []
 | k+1=> .int .u8 (u8v n)::zkB (n+1) k
def Tryz.sl16:AV:= .sx 0 (.lit 16) 1 [(.lit 0,1)]
def Tryz.zJo:Ent:=⟨179,[.cst 0 none,.int .u64 (u64v 10),.int .u64 (u32v 11)],0,0,0,.bool (.var 2),0⟩
def Tryz.inE:Ent:=⟨172,[.cst 0 none,sl1 []],0,0,0,.int .i64 (.var 8),0⟩
end Go.Proofs
namespace Go.Proofs
open Go.Dw
def Tryz.zk7:List Ent:= [zJo]
def Tryz.zn0:List Sh:= []
def Tryz.zk8:List AV:= [.cst 0 none,.int .u64 (u64v 10),.int .u32 (u32v 11)]
def Tryz.zxR:List (SB×Bool):= []
def Tryz.ztn:List Leaf:= [
 ⟨.tup [.int .i64 (.lit 0),.int .i64 (.lit 4)],[],[],0,[]⟩,
 ⟨.tup [.int .i64 (.lit 0),.int .i64 (.lit 5)],[],[],0,[]⟩,
 ⟨.tup [.int .i64 (.flds [⟨11,0,4294967295,4,28,0⟩] 0),.int .i64 (.lit 0)],[],[],0,[]⟩]
def Tryz.ztm:List (List (SB×Bool)×Nat):= [
 ([((.cmp .eql (u32v 11) (.lit 0)),true)],0),
 ([((.cmp .eql (u32v 11) (.lit 0)),false),((.cmp .neq (.flds [⟨11,0,4294967295,0,4,0⟩] 0) (.lit 0)),true)],0),
 ([((.cmp .eql (u32v 11) (.lit 0)),false),((.cmp .neq (.flds [⟨11,0,4294967295,0,4,0⟩] 0) (.lit 0)),false),((.cmp .gtr (.flds [⟨11,0,4294967295,4,28,0⟩] 0) (.lit 64)),true)],0),
 ([((.cmp .eql (u32v 11) (.lit 0)),false),((.cmp .neq (.flds [⟨11,0,4294967295,0,4,0⟩] 0) (.lit 0)),false),((.cmp .gtr (.flds [⟨11,0,4294967295,4,28,0⟩] 0) (.lit 64)),false),(.var 2,false)],1),
 ([((.cmp .eql (u32v 11) (.lit 0)),false),((.cmp .neq (.flds [⟨11,0,4294967295,0,4,0⟩] 0) (.lit 0)),false),((.cmp .gtr (.flds [⟨11,0,4294967295,4,28,0⟩] 0) (.lit 64)),false),(.var 2,true)],2)]
theorem Tryz.zxQ:(ev prog (zau zk7) 100000 (.call 178 zk8 (zas 0 zn0) (zaM ztn 0))).ways zxR=some ztm:=by kernel_rfl
theorem Tryz.zBY:(zah zn0&&zaf zk7&&AV.smallL zk8&&zam ztn)=true:=by kernel_rfl
def Tryz.zk5:List Ent:= [ckE,inE]
def Tryz.znY:List Sh:= []
def Tryz.zk6:List AV:= [.cst 0 none,sl1 []]
def Tryz.zxO:List (SB×Bool):= []
def Tryz.ztl:List Leaf:= [
 ⟨.tup [.nils,.int .i64 (.lit 4)],[],[],0,[]⟩,
 ⟨.tup [.nils,.int .i64 (.var 8)],[],[],0,[]⟩,
 ⟨.tup [.sx 1 ((lnv 0)) 3 [],.int .i64 (.lit 0)],[],[],0,[]⟩]
def Tryz.ztk:List (List (SB×Bool)×Nat):= [
 ([((.cmp .eql (lnv 0) (.lit 0)),true)],0),
 ([((.cmp .eql (lnv 0) (.lit 0)),false),((.cmp .neq (.var 7) (.lit 0)),true)],0),
 ([((.cmp .eql (lnv 0) (.lit 0)),false),((.cmp .neq (.var 7) (.lit 0)),false),((.cmp .neq (.var 8) (.lit 0)),true)],1),
 ([((.cmp .eql (lnv 0) (.lit 0)),false),((.cmp .neq (.var 7) (.lit 0)),false),((.cmp .neq (.var 8) (.lit 0)),false)],2)]
theorem Tryz.zxN:(ev prog (zau zk5) 100000 (.call 156 zk6 (zas 0 znY) (zaM ztl 0))).ways zxO=some ztk:=by kernel_rfl
theorem Tryz.zBW:(zah znY&&zaf zk5&&AV.smallL zk6&&zam ztl)=true:=by kernel_rfl
open Go.RowKit
def Tryz.zkA (i s:Nat):Nat→List Fld
 | 0=> []
 | k+1=>⟨i,0,255,0,8,s⟩::zkA (i+1) (s+8) k
theorem Tryz.zwc (g:Nat→Int) (a k:Nat):zap g a (k+1)=g a+256*zap g (a+1) k:=by
 induction k with
 | zero=>simp [zap]
 | succ k ih=>
  rw [zap,ih]
  conv=>rhs;rw [zap]
  rw [show a+1+k=a+(k+1) by omega,Int.pow_succ,Int.mul_add]
  have:g (a+(k+1))*(256^k*256)=256*(g (a+(k+1))*256^k):=by
   rw [←Int.mul_assoc,Int.mul_comm _ 256]
  omega
theorem Tryz.zbx (g:Nat→Int) (hg: ∀j,0≤g j∧g j<256) (a k:Nat):0≤zap g a k∧zap g a k<256^k:=zcr g hg a k
theorem Tryz.zrm {ρ:Val} {g:Nat→Int} (hg: ∀j,0≤g j∧g j<256): ∀(k i s a:Nat),(∀t,t<k→ρ.i (i+t)=g (a+t))→zaj ρ (zkA i s k) 0=(zap g a k).toNat*2^s
 | 0,i,s,a,_=>by simp [zkA,zaj,zap]
 | k+1,i,s,a,h=>by
  have h0:=h 0 (by omega)
  rw [Nat.add_zero,Nat.add_zero] at h0
  have ih:=zrm hg k (i+1) (s+8) (a+1) fun t ht=>by
   have:=h (t+1) (by omega)
   rw [show i+1+t=i+(t+1) by omega,show a+1+t=a+(t+1) by omega];exact this
  obtain ⟨b0,b1⟩:=hg a
  obtain ⟨x,hx⟩:=Int.eq_ofNat_of_zero_le b0
  obtain ⟨y,hy⟩:=Int.eq_ofNat_of_zero_le (zbx g hg (a+1) k).1
  rw [hx] at b1
  unfold zkA zaj
  rw [ih,zwc,hx,hy]
  simp only [Fld.den,h0,hx,Int.toNat_natCast,Nat.shiftRight_zero]
  have e1:max 0 (min x 255)=x:=by omega
  rw [e1,Nat.mod_eq_of_lt (by omega)]
  have e2:((x:Int)+256*(y:Int)).toNat=x+256*y:=by omega
  rw [e2,Nat.shiftLeft_eq,Nat.or_comm,Nat.pow_add]
  have e3:y*(2^s*2^8)=y<<<(s+8):=by rw [Nat.shiftLeft_eq,Nat.pow_add]
  rw [e3,←Nat.shiftLeft_add_eq_or_of_lt (by rw [Nat.pow_add,Nat.mul_comm];exact Nat.mul_lt_mul_of_pos_left (by omega) (Nat.pow_pos (by decide))),Nat.shiftLeft_eq,Nat.pow_add,Nat.add_mul]
  have:y*(2^s*2^8)=256*y*2^s:=by rw [Nat.mul_comm (2^s),←Nat.mul_assoc,Nat.mul_comm y]
  omega
theorem Tryz.zfs {ρ:Val} {g:Nat→Int} (hg: ∀j,0≤g j∧g j<256) (k i a:Nat) (h: ∀t,t<k→ρ.i (i+t)=g (a+t)):SE.den ρ (.flds (zkA i 0 k) 0)=zap g a k:=by
 show ((zaj ρ (zkA i 0 k) 0:Nat):Int)=_
 rw [zrm hg k i 0 a h]
 have:=(zbx g hg a k).1
 simp
 omega
def Tryz.brho (g:Nat→Int) (a:Nat) (v:Value):Val:=⟨fun i=>g (a+(i-20)),fun _=>false,fun _=>v⟩
theorem Tryz.zmR {ρ:Val} {j:J} {g:Nat→Int} (hg: ∀j,0≤g j∧g j<256): ∀(k i a:Nat),(∀t,t<k→ρ.i (i+t)=g (a+t))→RL ρ j (zkB i k) (row g a k)
 | 0,i,a,_=>by unfold zkB row;exact RL.nil
 | k+1,i,a,h=>by
  have h0:=h 0 (by omega)
  rw [Nat.add_zero,Nat.add_zero] at h0
  have e:row g a (k+1)= .int .u8 (g a)::row g (a+1) k:=by
   unfold row
   rw [List.range_succ_eq_map,List.map_cons,List.map_map]
   congr 1
   apply List.map_congr_left
   intro t _
   show Value.int .u8 (g (a+(t+1)))= .int .u8 (g (a+1+t))
   rw [show a+(t+1)=a+1+t by omega]
  rw [e]
  unfold zkB
  obtain ⟨b0,b1⟩:=hg a
  refine zab (zac ?_) (zmR hg k (i+1) (a+1) fun t ht=>by
   have:=h (t+1) (by omega)
   rw [show i+1+t=i+(t+1) by omega,show a+1+t=a+(t+1) by omega];exact this)
  rw [zJv (by rw [h0];exact b0) (by rw [h0];exact b1),h0]
theorem Tryz.zbe {ρ:Val} {i lo hi fr n sh:Nat} (h0:(lo:Int)≤ρ.i i) (h1:ρ.i i≤(hi:Int)):SE.den ρ (.flds [⟨i,lo,hi,fr,n,sh⟩] 0)=(ρ.i i/(2^fr:Nat)%(2^n:Nat))*(2^sh:Nat):=by
 obtain ⟨x,hx⟩:=Int.eq_ofNat_of_zero_le (Int.le_trans (Int.natCast_nonneg lo) h0)
 rw [hx] at h0 h1
 simp only [SE.den,zaj,Fld.den,hx,Int.toNat_natCast,Nat.or_zero]
 have e:max lo (min x hi)=x:=by omega
 rw [e,Nat.shiftRight_eq_div_pow,Nat.shiftLeft_eq]
 show ((x/2^fr%2^n*2^sh:Nat):Int)=_
 push_cast
 rfl
def Tryz.entN (N:Nat) (at1 n:Int):Int×Int:=if n=0∨ ¬n%16=0∨64<n/16 then (0,4) else if at1+n≤N then (n/16,0) else (0,5)
def Tryz.erho (at1 n:Int) (b2:Bool) (p:Value):Val:=vof [0,0,0,0,0,0,0,0,0,0,at1,n] [false,false,b2] [p]
theorem Tryz.zs6 {P L Bs B N:Nat} {A n:Int} {g:Nat→Int} {w:World} (st:GM w P L Bs B N g) (hN:N≤1048576) (h1:1≤N) (ha0:0≤A) (ha1:A<18446744073709551616) (hn0:0≤n) (hn1:n<4294967296):
  Calls prog 178 #[.pointer (some ⟨P,0,none⟩),.int .u64 A,.int .u32 n] w fun e w'=>e= .returned (.tuple #[.int .i64 (entN N A n).1,.int .i64 (entN N A n).2])∧Below w.heap.size w w':=by
 have dA:(u64v 10).den (erho A n (decide (1≤n∧A+n≤N)) (.pointer (some ⟨P,0,none⟩)))=A:=zaJ ha0 ha1
 have dn:(u32v 11).den (erho A n (decide (1≤n∧A+n≤N)) (.pointer (some ⟨P,0,none⟩)))=n:=zbw hn0 hn1
 have d4:SE.den (erho A n (decide (1≤n∧A+n≤N)) (.pointer (some ⟨P,0,none⟩))) (.flds [⟨11,0,4294967295,0,4,0⟩] 0)=n%16:=(zbe hn0 (by show n≤_;omega)).trans (by show n/((2^0:Nat):Int)%((2^4:Nat):Int)*((2^0:Nat):Int)=_;have e1:((2^0:Nat):Int)=1:=rfl;have e2:((2^4:Nat):Int)=16:=rfl;rw [e1,e2];omega)
 have d28:SE.den (erho A n (decide (1≤n∧A+n≤N)) (.pointer (some ⟨P,0,none⟩))) (.flds [⟨11,0,4294967295,4,28,0⟩] 0)=n/16:=(zbe hn0 (by show n≤_;omega)).trans (by show n/((2^4:Nat):Int)%((2^28:Nat):Int)*((2^0:Nat):Int)=_;have e1:((2^0:Nat):Int)=1:=rfl;have e2:((2^4:Nat):Int)=16:=rfl;have e3:((2^28:Nat):Int)=268435456:=rfl;rw [e1,e2,e3];omega)
 have dp:(erho A n (decide (1≤n∧A+n≤N)) (.pointer (some ⟨P,0,none⟩))).v 0= .pointer (some ⟨P,0,none⟩):=rfl
 have db:(erho A n (decide (1≤n∧A+n≤N)) (.pointer (some ⟨P,0,none⟩))).b 2=decide (1≤n∧A+n≤N):=rfl
 generalize erho A n (decide (1≤n∧A+n≤N)) (.pointer (some ⟨P,0,none⟩))=ρ at*
 refine Calls.mono (zaF (ρ:=ρ) (K:=fun _=>False) (g:=memG P L Bs B N [g]) (bl:= []) (vals:= [.pointer (some ⟨P,0,none⟩),.int .u64 A,.int .u32 n]) mixed zxQ zBY (fun b h=>h.elim) trivial trivial
  (za5 st fun b _ hm=>by obtain ⟨k,L',h1,_⟩:=hm;cases k<;>cases h1) ⟨?_,trivial⟩ (zab (zaR dp rfl) (zab (zac dA) (zab (zac dn) RL.nil))) (zae.2 trivial)) fun e w' hh=> ?_
 ·refine zay (Dw.enters_of (by kernel_rfl)) (by decide) [.pointer (some ⟨P,0,none⟩),.int .u64 A,.int .u64 n] (.bool (decide (1≤n∧A+n≤N))) (fun j=>zab (zaR dp rfl) (zab (zac dA) (zab (zac dn) RL.nil))) (fun j=>zaq db) fun w F q hf=> ?_
  obtain ⟨_,_,_,_,g',e,hm'⟩:=hf
  cases e
  exact zA5 P L Bs B N A n g w hm' hN h1 ha0 ha1 hn0
 ·obtain ⟨p,hpm,hto,l,hl,j,he⟩:=hh
  have hb:=zar he (fun _ h=>h)
  unfold ztm at hpm
  simp only [List.mem_cons,List.not_mem_nil,or_false] at hpm
  unfold entN
  rcases hpm with rfl|rfl|rfl|rfl|rfl
  all_goals
   simp only [zaa,zae,zbb,zcF,zaY,zaA,dn,d4,d28,db,zad,decide_eq_true_eq,decide_eq_false_iff_not,and_true,beq_iff_eq,bne_iff_ne,ne_eq,beq_eq_false_iff_ne,bne_eq_false_iff_eq] at hto
   cases hl
   refine ⟨he.ret.trans ?_,hb⟩
   simp only [AV.val,AV.valL,d28,zad]
  ·rw [if_pos (.inl hto)]
  ·rw [if_pos (.inr (.inl hto.2))]
  ·rw [if_pos (.inr (.inr (by omega)))]
  ·rw [if_neg (by omega),if_neg (by omega)]
  ·rw [if_neg (by omega),if_pos hto.2.2.2.2]
def Tryz.zc8 (N:Nat) (l:List Sg):Int:=if l= []∨ ¬za3 l=0 then 4 else zha N l
def Tryz.lrho (n e i:Int) (p sl:Value):Val:=vof [n,0,0,0,0,0,0,e,i] [] [p,sl]
theorem Tryz.zxk {A:Nat→Prop} {w:World} {P L Bs B N:Nat} {g:Nat→Int} {sa:Option Addr} {c:Nat} {l:List Sg} (hm:GM w P L Bs B N g) (hN:N≤1048576) (h1:1≤N) (h:SegV A w (.slice sa l.length c) l) (hln:l.length<4611686018427387904)
  (hRm: ∀R o,sa=some ⟨R,o,none⟩→R≠P∧R≠L∧R≠Bs∧R≠B):
  Calls prog 156 #[.pointer (some ⟨P,0,none⟩),.slice sa l.length c] w fun e w'=>e= .returned (.tuple #[if zc8 N l=0 then .slice sa l.length c else .slice none 0 0,.int .i64 (zc8 N l)])∧Below w.heap.size w w':=by
 have h0:=h
 obtain ⟨sa',c',e',hok,hr⟩:=h
 obtain ⟨F0,hF0,hF1⟩:=zeZ h0
 have hG:(zkR P L Bs B N g sa l).G 0 (jOf []) w:=by
  refine ⟨fun b=>F0 b∨b=P∨b=L∨b=Bs∨b=B,fun b hb=>⟨?_,?_⟩,⟨.inr (.inl rfl),.inr (.inr (.inl rfl)),.inr (.inr (.inr (.inl rfl))),.inr (.inr (.inr (.inr rfl))),hm⟩,?_⟩
  ·rcases hb with hb|rfl|rfl|rfl|rfl
   ·exact (hF0 b hb).1
   ·exact hm.pl
   ·exact hm.ll
   ·exact hm.sl
   ·exact hm.bl
  ·rintro ⟨k,L',h1,_⟩
   cases k<;>cases h1
  ·have hF1:SegF F0 w sa l:=hF1
   rcases hF1 with h|⟨R,o,e,hF,hr⟩
   ·exact .inl h
   ·exact .inr ⟨R,o,e,.inl hF,hr⟩
 have hF:=fun w F q (hf:(zkR P L Bs B N g sa l).fact 0 q F w)=>SegF.v hf.2 hok c
 have hM:=fun w F q (hf:(zkR P L Bs B N g sa l).fact 0 q F w)=>hf.1.2.2.2.2
 have d0:(lnv 0).den (lrho l.length (za3 l) (zha N l) (.pointer (some ⟨P,0,none⟩)) (.slice sa l.length c))=l.length:=zaw (by show (0:Int)≤l.length;omega) (by show ((l.length:Nat):Int)<_;omega)
 have h7:(lrho l.length (za3 l) (zha N l) (.pointer (some ⟨P,0,none⟩)) (.slice sa l.length c)).i 7=za3 l:=rfl
 have h8:(lrho l.length (za3 l) (zha N l) (.pointer (some ⟨P,0,none⟩)) (.slice sa l.length c)).i 8=zha N l:=rfl
 have hv0:(lrho l.length (za3 l) (zha N l) (.pointer (some ⟨P,0,none⟩)) (.slice sa l.length c)).v 0= .pointer (some ⟨P,0,none⟩):=rfl
 have hv:(lrho l.length (za3 l) (zha N l) (.pointer (some ⟨P,0,none⟩)) (.slice sa l.length c)).v 1= .slice sa l.length c:=rfl
 generalize lrho l.length (za3 l) (zha N l) (.pointer (some ⟨P,0,none⟩)) (.slice sa l.length c)=ρ at*
 refine Calls.mono (zaF (ρ:=ρ) (K:=fun _=>False) (g:=zkR P L Bs B N g sa l) (bl:= []) (vals:= [.pointer (some ⟨P,0,none⟩),.slice sa l.length c]) mixed zxN zBW (fun b h=>h.elim) trivial trivial hG
  ⟨zrl hv d0 h7 hF,?_,trivial⟩ (zab (zaR hv0 rfl) (zab (zm1 hv d0) RL.nil)) (zae.2 trivial)) fun e w' hh=> ?_
 ·exact zay (Dw.enters_of (by kernel_rfl)) (by decide) [.pointer (some ⟨P,0,none⟩),.slice sa l.length c] (.int .i64 (zha N l)) (fun j=>zab (zaR hv0 rfl) (zab (zm1 hv d0) RL.nil)) (fun j=>zac h8) fun w F q hf=>zyo (hM w F q hf) hN h1 (hF w F q hf) hln hRm
 ·obtain ⟨p,hpm,hto,lf,hlf,j,he⟩:=hh
  have hb:=zar he (fun _ h=>h)
  have hne:l= []↔((l.length:Nat):Int)=0:=by rw [←List.length_eq_zero_iff];omega
  unfold ztk at hpm
  simp only [List.mem_cons,List.not_mem_nil,or_false] at hpm
  rcases hpm with rfl|rfl|rfl|rfl
  all_goals
   simp only [zaa,zae,zbb,zcF,zat,d0,h7,h8,zad,and_true,beq_iff_eq,bne_iff_ne,ne_eq,beq_eq_false_iff_ne,bne_eq_false_iff_eq] at hto
   cases hlf
   refine ⟨he.ret.trans ?_,hb⟩
   simp only [AV.val,AV.valL,hv,h8,zat,zad]
  ·have hE:zc8 N l=4:=by unfold zc8;exact if_pos (.inl (hne.2 hto))
   rw [hE,if_neg (by decide)]
  ·have hE:zc8 N l=4:=by unfold zc8;exact if_pos (.inr hto.2)
   rw [hE,if_neg (by decide)]
  ·have hE:zc8 N l=zha N l:=by unfold zc8;exact if_neg (by rintro (h|h);exact hto.1 (hne.1 h);exact h hto.2.1)
   rw [hE,if_neg hto.2.2]
  ·have hE:zc8 N l=zha N l:=by unfold zc8;exact if_neg (by rintro (h|h);exact hto.1 (hne.1 h);exact h hto.2.1)
   rw [hE,if_pos hto.2.2,hto.2.2]
structure Tryz.PgOk (r:Rg):Prop where
 bnd:1≤r.n∧r.n≤16
 d:r.d=4096
 v:r.v=4096+16*r.n
 c:r.c=4100+16*r.n
def Tryz.Rg.pval (r:Rg):Value:= .agg #[.bool true,.int .i64 r.n,.int .u64 r.d,.int .u64 r.v,.int .u64 r.c]
structure Tryz.PTk where
 ct:Int
 sg:List Sg
def Tryz.zbQ (k:Int):List (Int×PTk)→Option PTk
 | [] => none
 | e::r=>if k=e.1 then some e.2 else zbQ k r
def Tryz.zcH (k:Int):List (Int×PTk)→List (Int×PTk)
 | [] => []
 | e::r=>if k=e.1 then r else e::zcH k r
def Tryz.zeB:List (Int×PTk)→Int
 | [] => 0
 | e::r=>e.2.ct+zeB r
structure Tryz.PS where
 ev:Bool
 tb:Bool
 nx:Int
 nw:Bool
 us:Int
 uw:Bool
 tk:List (Int×PTk)
 ou:Int
 ph:Nat
 op:Int
 nn:Bool
 hd:Int
 sg:List Sg
 wr:Int
 it:Bool
 dn:Bool
 br:Bool
def Tryz.PS.row (s:PS) (r:Rg) (P M:Nat) (sv:Value):List Value:=
 [.pointer (some ⟨P,0,.none⟩),.bool true,.int .i64 r.n,.int .u64 r.d,.int .u64 r.v,.int .u64 r.c,.bool s.ev,.bool s.tb,.bool true,.int .i64 s.nx,.bool s.nw,.int .i64 s.us,.bool s.uw,.map (some M),.int .i64 s.ou,.int .i64 s.ph,
  .int .i64 s.op,.bool s.nn,.int .i64 s.hd,sv,.int .u32 s.wr,.bool s.it,.bool s.dn,.bool s.br]
def Tryz.PS.goto (s:PS) (k:Nat):PS:= { s with ph:=k,dn:=false,br:=false }
def Tryz.PS.stop (s:PS):PS:= { s with ph:=0,dn:=true,br:=false }
def Tryz.PS.brk (s:PS):PS:= { s with br:=true,ph:=0,op:=0,nn:=false,hd:=0,sg:= [],wr:=0,it:=false }
def Tryz.zaW (n at0:Int) (wr:Bool) (by0:Int):Int×Bool:=if at0+by0<n then (at0+by0,wr) else (at0+by0-n,!wr)
def Tryz.zcz (f:Int) (wr:Bool):Bool:=(decide (f/128%2=1)==wr)&&(decide (f/32768%2=1) !=wr)
structure Tryz.PCh where
 id:Int
 ct:Int
 sg:List Sg
 e:Int
def Tryz.pSeg (g:Nat→Int) (a:Nat):Sg:=⟨zap g a 8,zap g (a+8) 4,zap g (a+14) 2/2%2*2 !=0⟩
def Tryz.zkZ (g:Nat→Int) (a:Nat):Nat→List Sg→List Sg×Int
 | 0,l=>(l,0)
 | k+1,l=>if zap g (a+14) 2/4%2=1 then ([],4) else zkZ g (a+16) k (l++ [pSeg g a])
def Tryz.zbp (N:Nat) (g:Nat→Int) (at1 n:Int):List Sg×Int:=
 if (entN N at1 n).2≠0 then ([],(entN N at1 n).2) else zkZ g at1.toNat (entN N at1 n).1.toNat []
def Tryz.zbM (N:Nat) (g:Nat→Int) (n:Int) (tb:Bool):Nat→Int→Int→List Sg→Int→PCh
 | 0,_,ct,l,id=>⟨id,ct,l,4⟩
 | k+1,at0,ct,l,_=>
  let a:=(4096+16*at0).toNat
  let f:=zap g (a+14) 2
  let id:=zap g (a+12) 2
  if f/4%2=1 then
   if tb=false∨1<ct+1∨f%2=1 then ⟨id,ct+1,l,4⟩
   else ⟨id,ct+1,(zbp N g (zap g a 8) (zap g (a+8) 4)).1,(zbp N g (zap g a 8) (zap g (a+8) 4)).2⟩
  else if f%2=0 then ⟨id,ct+1,l++ [pSeg g a],0⟩
  else zbM N g n tb k (zaW n at0 true 1).1 (ct+1) (l++ [pSeg g a]) id
def Tryz.zbZ (N:Nat) (g:Nat→Int) (n:Int) (at0:Int) (tb:Bool):PCh:=
 let t:=zbM N g n tb n.toNat at0 0 [] 0
 if t.e≠0 then ⟨0,0,[],t.e⟩ else if n≤t.id then ⟨0,0,[],4⟩ else if zc8 N t.sg≠0 then ⟨0,0,[],zc8 N t.sg⟩ else t
def Tryz.posW (at0:Int) (wr:Bool):Int:=at0+if wr then 32768 else 0
def Tryz.znh (n ea:Int) (ew:Bool) (na:Int) (nw:Bool) (by0:Int):Bool:=decide ((na-(if ew=nw then ea else ea-n)-1)%65536<by0%65536)
def Tryz.zdt (n us:Int) (uw:Bool) (ct w:Int) (it0:Bool):Bool:=
 if w/65536%4=0 then true
 else if w/65536%4=2 then
  (if w%32768<n then znh n (w%32768) (decide (w/32768%2=1)) us uw ct else true)
 else it0
def Tryz.zib (g:Nat→Int) (s:PS):Bool:=zcz (zap g (4096+16*s.nx+14).toNat 2) s.nw
def Tryz.zdc (N:Nat) (r:Rg) (s:PS) (g:Nat→Int) (ph:Nat):Value×Int×PS×(Nat→Int):=
 let acc:=fun (k what i:Int)=>Value.agg #[.int .i64 k,.int .i64 what,.int .i64 i]
 match ph with
 | 1=>(acc 2 1 s.nx,0,if zib g s then s.goto 5 else if s.ev then s.goto 2 else ({ s with nn:=true }:PS).stop,g)
 | 2=>(acc 3 11 0,0,s.goto 3,putW g r.c.toNat 4 (posW s.nx s.nw+131072))
 | 3=>(acc 4 0 0,0,s.goto 4,g)
 | 4=>(acc 2 1 s.nx,0,if zib g s then s.goto 5 else ({ s with nn:=true }:PS).stop,g)
 | 5=>(acc 4 0 0,0,s.goto 6,g)
 | 6=>
  let t:=zbZ N g r.n s.nx s.tb
  if t.e≠0∨zbQ t.id s.tk≠none∨r.n<t.ct+s.ou then (acc 1 0 0,4,s.brk,g)
  else (acc 1 0 0,0,({ s with tk:=s.tk++ [(t.id,⟨t.ct,t.sg⟩)],ou:=s.ou+t.ct,nx:=(zaW r.n s.nx s.nw t.ct).1,nw:=(zaW r.n s.nx s.nw t.ct).2,hd:=t.id,sg:=t.sg }:PS).stop,g)
 | 7=>(acc 3 1 s.us,0,s.goto 8,putW (putW g (4096+16*s.us+8).toNat 4 s.wr) (4096+16*s.us+12).toNat 2 s.hd)
 | 8=>(acc 4 0 0,0,s.goto 9,g)
 | 9=>(acc 3 1 s.us,0,s.goto 10,putW g (4096+16*s.us+14).toNat 2 ((if 0<s.wr then 2 else 0)+if s.uw then 32896 else 0))
 | 10=>(acc 4 0 0,0,s.goto 11,g)
 | _=>
  let w:=zap g r.v.toNat 4
  let ct:=match zbQ s.hd s.tk with|some t=>t.ct|none=>0
  let u:=zaW r.n s.us s.uw ct
  (acc 2 10 0,0,({ s with us:=u.1,uw:=u.2,it:=zdt r.n u.1 u.2 ct w s.it,tk:=zcH s.hd s.tk,ou:=s.ou-ct }:PS).stop,g)
def Tryz.zba (N:Nat) (r:Rg) (s:PS) (g:Nat→Int):Value×Int×PS×(Nat→Int):=
 if s.br then (.agg #[.int .i64 0,.int .i64 0,.int .i64 0],4,s,g) else if s.ph=0 then (.agg #[.int .i64 0,.int .i64 0,.int .i64 0],8,s,g) else zdc N r s g s.ph
def Tryz.zbh (s:PS):Int×PS:=
 if s.br then (4,s) else if s.ph≠0 then (8,s) else (0,({ s with op:=3,nn:=false,hd:=0,sg:= [],wr:=0,it:=false }:PS).goto 1)
def Tryz.zci (s:PS) (h wr:Int):Int×PS:=
 if s.br then (4,s) else if s.ph≠0 then (8,s) else
  match zbQ h s.tk with
  | none=>(6,s)
  | some t=>if (zbW t.sg).2<wr then (2,s) else (0,({ s with op:=4,nn:=false,hd:=h,sg:= [],wr:=wr,it:=false }:PS).goto 7)
def Tryz.posA (i b:Nat):AV:= .agg [.int .i64 (lnv i),.bool (.var b)]
end Go.Proofs
namespace Go.Proofs
open Go.Dw
def Tryz.ztM:List Ent:= []
def Tryz.zyl:List Sh:= []
def Tryz.ztN:List AV:= [posA 4 0,.int .i64 (lnv 5),.int .i64 (szv 0)]
def Tryz.zF3:List (SB×Bool):= []
def Tryz.zEu:List Leaf:= [
 ⟨.tup [.agg [.int .i64 (.lit 0),.bool (.lit false)],.int .i64 (.lit 2)],[],[],0,[]⟩,
 ⟨.tup [.agg [.int .i64 (.bin .sub .i64 (.bin .add .i64 (lnv 4) (lnv 5)) (szv 0)),.bool (.not (.var 0))],.int .i64 (.lit 0)],[],[],0,[]⟩,
 ⟨.tup [.agg [.int .i64 (.bin .add .i64 (lnv 4) (lnv 5)),.bool (.var 0)],.int .i64 (.lit 0)],[],[],0,[]⟩]
def Tryz.zEt:List (List (SB×Bool)×Nat):= [
 ([((.cmp .geq (lnv 4) (szv 0)),true)],0),
 ([((.cmp .geq (lnv 4) (szv 0)),false),((.cmp .gtr (lnv 5) (szv 0)),true)],0),
 ([((.cmp .geq (lnv 4) (szv 0)),false),((.cmp .gtr (lnv 5) (szv 0)),false),((.cmp .geq (.bin .add .i64 (lnv 4) (lnv 5)) (szv 0)),true)],1),
 ([((.cmp .geq (lnv 4) (szv 0)),false),((.cmp .gtr (lnv 5) (szv 0)),false),((.cmp .geq (.bin .add .i64 (lnv 4) (lnv 5)) (szv 0)),false)],2)]
theorem Tryz.zF2:(ev prog (zau ztM) 100000 (.call 123 ztN (zas 0 zyl) (zaM zEu 0))).ways zF3=some zEt:=by kernel_rfl
theorem Tryz.zIv:(zah zyl&&zaf ztM&&AV.smallL ztN&&zam zEu)=true:=by kernel_rfl
def Tryz.ztD:List Ent:= []
def Tryz.zyd:List Sh:= []
def Tryz.ztE:List AV:= [posA 4 0,posA 6 1,.int .i64 (lnv 5),.int .i64 (szv 0)]
def Tryz.zFU:List (SB×Bool):= []
def Tryz.zEp:List Leaf:= [
 ⟨.tup [.bool (.lit false),.int .i64 (.lit 2)],[],[],0,[]⟩,
 ⟨.tup [.bool (.cmp .lss (.bin .sub .u16 (.bin .sub .u16 (.flds [⟨6,0,4611686018427387903,0,16,0⟩] 0) (.wrap .u16 (.bin .sub .i64 (lnv 4) (szv 0)))) (.lit 1)) (.bin .sub .u16 (.flds [⟨6,0,4611686018427387903,0,16,0⟩] 0) (.wrap .u16 (.bin .sub .i64 (lnv 6) (lnv 5))))),.int .i64 (.lit 0)],[],[],0,[]⟩,
 ⟨.tup [.bool (.cmp .lss (.bin .sub .u16 (.bin .sub .u16 (.flds [⟨6,0,4611686018427387903,0,16,0⟩] 0) (.flds [⟨4,0,4611686018427387903,0,16,0⟩] 0)) (.lit 1)) (.bin .sub .u16 (.flds [⟨6,0,4611686018427387903,0,16,0⟩] 0) (.wrap .u16 (.bin .sub .i64 (lnv 6) (lnv 5))))),.int .i64 (.lit 0)],[],[],0,[]⟩]
def Tryz.zEo:List (List (SB×Bool)×Nat):= [
 ([((.cmp .geq (lnv 4) (szv 0)),true)],0),
 ([((.cmp .geq (lnv 4) (szv 0)),false),((.cmp .geq (lnv 6) (szv 0)),true)],0),
 ([((.cmp .geq (lnv 4) (szv 0)),false),((.cmp .geq (lnv 6) (szv 0)),false),((.cmp .gtr (lnv 5) (szv 0)),true)],0),
 ([((.cmp .geq (lnv 4) (szv 0)),false),((.cmp .geq (lnv 6) (szv 0)),false),((.cmp .gtr (lnv 5) (szv 0)),false),((.beq (.var 0) (.var 1)),false)],1),
 ([((.cmp .geq (lnv 4) (szv 0)),false),((.cmp .geq (lnv 6) (szv 0)),false),((.cmp .gtr (lnv 5) (szv 0)),false),((.beq (.var 0) (.var 1)),true)],2)]
theorem Tryz.zFT:(ev prog (zau ztD) 100000 (.call 129 ztE (zas 0 zyd) (zaM zEp 0))).ways zFU=some zEo:=by kernel_rfl
theorem Tryz.zIt:(zah zyd&&zaf ztD&&AV.smallL ztE&&zam zEp)=true:=by kernel_rfl
def Tryz.ztt:List Ent:= []
def Tryz.zx2:List Sh:= []
def Tryz.ztu:List AV:= [posA 4 0]
def Tryz.zFL:List (SB×Bool):= []
def Tryz.zEi:List Leaf:= [
 ⟨.int .u16 (.flds [⟨4,0,4611686018427387903,0,15,0⟩] 32768),[],[],0,[]⟩,
 ⟨.int .u16 (.flds [⟨4,0,4611686018427387903,0,15,0⟩] 0),[],[],0,[]⟩]
def Tryz.zEh:List (List (SB×Bool)×Nat):= [
 ([(.var 0,true)],0),
 ([(.var 0,false)],1)]
theorem Tryz.zFK:(ev prog (zau ztt) 100000 (.call 121 ztu (zas 0 zx2) (zaM zEi 0))).ways zFL=some zEh:=by kernel_rfl
theorem Tryz.zIp:(zah zx2&&zaf ztt&&AV.smallL ztu&&zam zEi)=true:=by kernel_rfl
def Tryz.zvK:List Ent:= []
def Tryz.zBm:List Sh:= []
def Tryz.zvL:List AV:= [.int .u16 (u16v 11),.bool (.var 0)]
def Tryz.zH0:List (SB×Bool):= []
def Tryz.zFo:List Leaf:= [
 ⟨.bool (.not (.beq (.cmp .neq (.flds [⟨11,0,65535,15,1,15⟩] 0) (.lit 0)) (.var 0))),[],[],0,[]⟩,
 ⟨.bool (.lit false),[],[],0,[]⟩]
def Tryz.zFn:List (List (SB×Bool)×Nat):= [
 ([((.beq (.cmp .neq (.flds [⟨11,0,65535,7,1,7⟩] 0) (.lit 0)) (.var 0)),true)],0),
 ([((.beq (.cmp .neq (.flds [⟨11,0,65535,7,1,7⟩] 0) (.lit 0)) (.var 0)),false)],1)]
theorem Tryz.zHZ:(ev prog (zau zvK) 100000 (.call 152 zvL (zas 0 zBm) (zaM zFo 0))).ways zH0=some zFn:=by kernel_rfl
theorem Tryz.zJx:(zah zBm&&zaf zvK&&AV.smallL zvL&&zam zFo)=true:=by kernel_rfl
def Tryz.zrc:List Ent:= []
def Tryz.zvH:List Sh:= []
def Tryz.zrd:List AV:= [.int .u16 (.lit 0),.bool (.var 0),.bool (.lit true)]
def Tryz.zDN:List (SB×Bool):= []
def Tryz.zBh:List Leaf:= [
 ⟨.int .u16 (.lit 32896),[],[],0,[]⟩,
 ⟨.int .u16 (.lit 0),[],[],0,[]⟩]
def Tryz.zBg:List (List (SB×Bool)×Nat):= [
 ([(.var 0,true)],0),
 ([(.var 0,false)],1)]
theorem Tryz.zDM:(ev prog (zau zrc) 100000 (.call 126 zrd (zas 0 zvH) (zaM zBh 0))).ways zDN=some zBg:=by kernel_rfl
theorem Tryz.zHX:(zah zvH&&zaf zrc&&AV.smallL zrd&&zam zBh)=true:=by kernel_rfl
def Tryz.zra:List Ent:= []
def Tryz.zvG:List Sh:= []
def Tryz.zrb:List AV:= [.int .u16 (.lit 2),.bool (.var 0),.bool (.lit true)]
def Tryz.zDL:List (SB×Bool):= []
def Tryz.zBf:List Leaf:= [
 ⟨.int .u16 (.lit 32898),[],[],0,[]⟩,
 ⟨.int .u16 (.lit 2),[],[],0,[]⟩]
def Tryz.zBe:List (List (SB×Bool)×Nat):= [
 ([(.var 0,true)],0),
 ([(.var 0,false)],1)]
theorem Tryz.zDK:(ev prog (zau zra) 100000 (.call 126 zrb (zas 0 zvG) (zaM zBf 0))).ways zDL=some zBe:=by kernel_rfl
theorem Tryz.zHW:(zah zvG&&zaf zra&&AV.smallL zrb&&zam zBf)=true:=by kernel_rfl
def Tryz.ztR:List Ent:= []
def Tryz.zys:List Sh:= []
def Tryz.ztS:List AV:= [posA 4 0,.int .i64 (lnv 5),.int .i64 (szv 0)]
def Tryz.zGb:List (SB×Bool):= []
def Tryz.zEw:List Leaf:= [
 ⟨.tup [.agg [.int .i64 (.lit 0),.bool (.lit false)],.int .i64 (.lit 2)],[],[],0,[]⟩,
 ⟨.tup [.agg [.int .i64 (.bin .sub .i64 (.bin .add .i64 (lnv 4) (lnv 5)) (szv 0)),.bool (.not (.var 0))],.int .i64 (.lit 0)],[],[],0,[]⟩,
 ⟨.tup [.agg [.int .i64 (.bin .add .i64 (lnv 4) (lnv 5)),.bool (.var 0)],.int .i64 (.lit 0)],[],[],0,[]⟩]
def Tryz.zEv:List (List (SB×Bool)×Nat):= [
 ([((.cmp .geq (lnv 4) (szv 0)),true)],0),
 ([((.cmp .geq (lnv 4) (szv 0)),false),((.cmp .gtr (lnv 5) (szv 0)),true)],0),
 ([((.cmp .geq (lnv 4) (szv 0)),false),((.cmp .gtr (lnv 5) (szv 0)),false),((.cmp .geq (.bin .add .i64 (lnv 4) (lnv 5)) (szv 0)),true)],1),
 ([((.cmp .geq (lnv 4) (szv 0)),false),((.cmp .gtr (lnv 5) (szv 0)),false),((.cmp .geq (.bin .add .i64 (lnv 4) (lnv 5)) (szv 0)),false)],2)]
theorem Tryz.zGa:(ev prog (zau ztR) 100000 (.call 20 ztS (zas 0 zys) (zaM zEw 0))).ways zGb=some zEv:=by kernel_rfl
theorem Tryz.zID:(zah zys&&zaf ztR&&AV.smallL ztS&&zam zEw)=true:=by kernel_rfl
open Go.RowKit
theorem Tryz.zBl {ρ:Val} {a b:SB}:SB.den ρ (.beq a b)=(a.den ρ==b.den ρ):=rfl
theorem Tryz.zBD {ρ:Val} {i s:Nat} {f:Int} (e:ρ.i i=f) (h:0≤f∧f<65536):SE.den ρ (.flds [⟨i,0,65535,s,1,s⟩] 0)=f/(2^s:Nat)%2*(2^s:Nat):=by
 have:=zbe (ρ:=ρ) (i:=i) (lo:=0) (hi:=65535) (fr:=s) (n:=1) (sh:=s) (by rw [e];exact h.1) (by rw [e];show f≤65535;omega)
 rw [e] at this
 exact this
theorem Tryz.znI {ρ:Val} {i hi n k:Nat} {f:Int} (e:ρ.i i=f) (h0:0≤f) (h1:f≤(hi:Int)) (h2:f<((2^n:Nat):Int)) {c:Nat} (hc:c=k<<<n):SE.den ρ (.flds [⟨i,0,hi,0,n,0⟩] c)=f+((k*2^n:Nat):Int):=by
 subst hc
 obtain ⟨x,hx⟩:=Int.eq_ofNat_of_zero_le h0
 subst hx
 simp only [SE.den,zaj,Fld.den,e,Int.toNat_natCast]
 have e1:max 0 (min x hi)=x:=by omega
 have h2:x<2^n:=by omega
 rw [e1,Nat.shiftRight_zero,Nat.mod_eq_of_lt h2,Nat.shiftLeft_zero,Nat.or_comm,←Nat.shiftLeft_add_eq_or_of_lt h2,Nat.shiftLeft_eq]
 show ((k*2^n+x:Nat):Int)=x+((k*2^n:Nat):Int)
 omega
theorem Tryz.zFt {f:Int} {b:Bool} (h:0≤f∧f<65536) (w:World):Calls prog 152 #[.int .u16 f,.bool b] w fun e w'=>e= .returned (.bool (zcz f b))∧Below w.heap.size w w':=by
 have e11:(vof [0,0,0,0,0,0,0,0,0,0,0,f] [b] []).i 11=f:=rfl
 have d11:(u16v 11).den (vof [0,0,0,0,0,0,0,0,0,0,0,f] [b] [])=f:=zbq h.1 h.2
 have b0:(vof [0,0,0,0,0,0,0,0,0,0,0,f] [b] []).b 0=b:=rfl
 generalize vof [0,0,0,0,0,0,0,0,0,0,0,f] [b] []=ρ at e11 d11 b0
 have q7:=zBD (s:=7) e11 h
 have q15:=zBD (s:=15) e11 h
 refine Calls.mono (zaF (ρ:=ρ) (K:=fun _=>False) (g:=Gho.none) (bl:= []) (vals:= [.int .u16 f,.bool b]) mixed zHZ zJx (fun b h=>h.elim) trivial trivial zaK trivial (zab (zac d11) (zab (zaq b0) RL.nil)) (zae.2 trivial)) fun e w' hh=> ?_
 obtain ⟨p,hpm,hto,l,hl,j,he⟩:=hh
 have hb:=zar he (fun _ h=>h)
 have e1:(f/((2^7:Nat):Int)%2*((2^7:Nat):Int) !=0)=decide (f/128%2=1):=by
  have:((2^7:Nat):Int)=128:=rfl
  rw [this]
  by_cases hh:f/128%2=1
  ·rw [hh];rfl
  ·rw [show f/128%2=0 by omega];rfl
 have e2:(f/((2^15:Nat):Int)%2*((2^15:Nat):Int) !=0)=decide (f/32768%2=1):=by
  have:((2^15:Nat):Int)=32768:=rfl
  rw [this]
  by_cases hh:f/32768%2=1
  ·rw [hh];rfl
  ·rw [show f/32768%2=0 by omega];rfl
 unfold zFn at hpm
 simp only [List.mem_cons,List.not_mem_nil,or_false] at hpm
 unfold zcz
 rcases hpm with rfl|rfl
 all_goals
  simp only [zaa,zae,zBl,zcF,zaA,q7,b0,zad,e1,and_true] at hto
  cases hl
  refine ⟨he.ret.trans ?_,hb⟩
  simp only [AV.val,zBk,zBl,zcF,zaA,zbO,q15,b0,zad,e2]
  rw [hto]
  simp [bne]
def Tryz.zAd (n a c b:Int) (x y:Bool):Val:=vof [n,0,0,0,a,c,b] [x,y] []
structure Tryz.PcD (ρ:Val) (n a c b:Int) (x y:Bool):Prop where
 d0:(szv 0).den ρ=n
 d4:(lnv 4).den ρ=a
 d5:(lnv 5).den ρ=c
 d6:(lnv 6).den ρ=b
 i4:ρ.i 4=a
 i6:ρ.i 6=b
 b0:ρ.b 0=x
 b1:ρ.b 1=y
theorem Tryz.pcD {n a c b:Int} {x y:Bool} (hn:1≤n∧n≤32768) (ha:0≤a∧a<32768) (hc:0≤c∧c≤32768) (hb:0≤b∧b<32768):PcD (zAd n a c b x y) n a c b x y:=
 ⟨zdo hn.1 hn.2,zaw ha.1 (by show a<_;omega),zaw hc.1 (by show c<_;omega),zaw hb.1 (by show b<_;omega),rfl,rfl,rfl,rfl⟩
def Tryz.posV (a:Int) (x:Bool):Value:= .agg #[.int .i64 a,.bool x]
theorem Tryz.zmy {n a c:Int} {x:Bool} (hn:1≤n∧n≤32768) (ha:0≤a∧a<n) (hc:0≤c∧c≤n) (w:World):
  Calls prog 123 #[posV a x,.int .i64 c,.int .i64 n] w fun e w'=>e= .returned (.tuple #[posV (zaW n a x c).1 (zaW n a x c).2,.int .i64 0])∧Below w.heap.size w w':=by
 have D:=pcD (n:=n) (a:=a) (c:=c) (b:=0) (x:=x) (y:=false) hn ⟨ha.1,by omega⟩ ⟨hc.1,by omega⟩ ⟨by decide,by decide⟩
 generalize zAd n a c 0 x false=ρ at D
 refine Calls.mono (zaF (ρ:=ρ) (K:=fun _=>False) (g:=Gho.none) (bl:= []) (vals:= [posV a x,.int .i64 c,.int .i64 n]) mixed zF2 zIv (fun b h=>h.elim) trivial trivial zaK trivial (zab (zbj (zab (zac D.d4) (zab (zaq D.b0) RL.nil))) (zab (zac D.d5) (zab (zac D.d0) RL.nil))) (zae.2 trivial)) fun e w' hh=> ?_
 obtain ⟨p,hpm,hto,l,hl,j,he⟩:=hh
 have hb:=zar he (fun _ h=>h)
 have w1:IntKind.wrap .i64 (a+c)=a+c:=zbF (by omega) (by omega)
 have w2:IntKind.wrap .i64 (a+c-n)=a+c-n:=zbF (by omega) (by omega)
 unfold zEt at hpm
 simp only [List.mem_cons,List.not_mem_nil,or_false] at hpm
 rcases hpm with rfl|rfl|rfl|rfl
 all_goals
  simp only [zaa,zae,zbP,zaY,den_add,D.d0,D.d4,D.d5,w1,decide_eq_true_eq,decide_eq_false_iff_not,and_true] at hto
  cases hl
  refine ⟨?_,hb⟩
 ·omega
 ·omega
 ·rw [he.ret]
  have e1:zaW n a x c=(a+c-n,!x):=by unfold zaW;rw [if_neg (by omega)]
  rw [e1]
  simp only [AV.val,AV.valL,den_add,za4,zad,zBk,zaA,D.d0,D.d4,D.d5,D.b0,w1,w2]
  rfl
 ·rw [he.ret]
  have e1:zaW n a x c=(a+c,x):=by unfold zaW;rw [if_pos (by omega)]
  rw [e1]
  simp only [AV.val,AV.valL,den_add,zad,zaA,D.d4,D.d5,D.b0,w1]
  rfl
theorem Tryz.zyt {n a c:Int} {x:Bool} (hn:1≤n∧n≤32768) (ha:0≤a∧a<n) (hc:0≤c∧c≤n) (w:World):
  Calls prog 20 #[posV a x,.int .i64 c,.int .i64 n] w fun e w'=>e= .returned (.tuple #[posV (zaW n a x c).1 (zaW n a x c).2,.int .i64 0])∧Below w.heap.size w w':=by
 have D:=pcD (n:=n) (a:=a) (c:=c) (b:=0) (x:=x) (y:=false) hn ⟨ha.1,by omega⟩ ⟨hc.1,by omega⟩ ⟨by decide,by decide⟩
 generalize zAd n a c 0 x false=ρ at D
 refine Calls.mono (zaF (ρ:=ρ) (K:=fun _=>False) (g:=Gho.none) (bl:= []) (vals:= [posV a x,.int .i64 c,.int .i64 n]) mixed zGa zID (fun b h=>h.elim) trivial trivial zaK trivial (zab (zbj (zab (zac D.d4) (zab (zaq D.b0) RL.nil))) (zab (zac D.d5) (zab (zac D.d0) RL.nil))) (zae.2 trivial)) fun e w' hh=> ?_
 obtain ⟨p,hpm,hto,l,hl,j,he⟩:=hh
 have hb:=zar he (fun _ h=>h)
 have w1:IntKind.wrap .i64 (a+c)=a+c:=zbF (by omega) (by omega)
 have w2:IntKind.wrap .i64 (a+c-n)=a+c-n:=zbF (by omega) (by omega)
 unfold zEv at hpm
 simp only [List.mem_cons,List.not_mem_nil,or_false] at hpm
 rcases hpm with rfl|rfl|rfl|rfl
 all_goals
  simp only [zaa,zae,zbP,zaY,den_add,D.d0,D.d4,D.d5,w1,decide_eq_true_eq,decide_eq_false_iff_not,and_true] at hto
  cases hl
  refine ⟨?_,hb⟩
 ·omega
 ·omega
 ·rw [he.ret]
  have e1:zaW n a x c=(a+c-n,!x):=by unfold zaW;rw [if_neg (by omega)]
  rw [e1]
  simp only [AV.val,AV.valL,den_add,za4,zad,zBk,zaA,D.d0,D.d4,D.d5,D.b0,w1,w2]
  rfl
 ·rw [he.ret]
  have e1:zaW n a x c=(a+c,x):=by unfold zaW;rw [if_pos (by omega)]
  rw [e1]
  simp only [AV.val,AV.valL,den_add,zad,zaA,D.d4,D.d5,D.b0,w1]
  rfl
theorem Tryz.zDv {n a b c:Int} {x y:Bool} (hn:1≤n∧n≤32768) (ha:0≤a∧a<n) (hb:0≤b∧b<n) (hc:0≤c∧c≤n) (w:World):
  Calls prog 129 #[posV a x,posV b y,.int .i64 c,.int .i64 n] w fun e w'=>e= .returned (.tuple #[.bool (znh n a x b y c),.int .i64 0])∧Below w.heap.size w w':=by
 have D:=pcD (n:=n) (a:=a) (c:=c) (b:=b) (x:=x) (y:=y) hn ⟨ha.1,by omega⟩ ⟨hc.1,by omega⟩ ⟨hb.1,by omega⟩
 generalize zAd n a c b x y=ρ at D
 refine Calls.mono (zaF (ρ:=ρ) (K:=fun _=>False) (g:=Gho.none) (bl:= []) (vals:= [posV a x,posV b y,.int .i64 c,.int .i64 n]) mixed zFT zIt (fun b h=>h.elim) trivial trivial zaK trivial (zab (zbj (zab (zac D.d4) (zab (zaq D.b0) RL.nil))) (zab (zbj (zab (zac D.d6) (zab (zaq D.b1) RL.nil))) (zab (zac D.d5) (zab (zac D.d0) RL.nil)))) (zae.2 trivial)) fun e w' hh=> ?_
 obtain ⟨p,hpm,hto,l,hl,j,he⟩:=hh
 have hbl:=zar he (fun _ h=>h)
 have q4:SE.den ρ (.flds [⟨4,0,4611686018427387903,0,16,0⟩] 0)=a:=(zbe (by rw [D.i4];exact ha.1) (by rw [D.i4];show a≤4611686018427387903;omega)).trans (by rw [D.i4];show a/1%65536*1=a;omega)
 have q6:SE.den ρ (.flds [⟨6,0,4611686018427387903,0,16,0⟩] 0)=b:=(zbe (by rw [D.i6];exact hb.1) (by rw [D.i6];show b≤4611686018427387903;omega)).trans (by rw [D.i6];show b/1%65536*1=b;omega)
 have w1:IntKind.wrap .i64 (a-n)=a-n:=zbF (by omega) (by omega)
 have w2:IntKind.wrap .i64 (b-c)=b-c:=zbF (by omega) (by omega)
 unfold zEo at hpm
 simp only [List.mem_cons,List.not_mem_nil,or_false] at hpm
 rcases hpm with rfl|rfl|rfl|rfl|rfl
 all_goals
  simp only [zaa,zae,zbP,zaY,zBl,zaA,D.d0,D.d4,D.d5,D.d6,D.b0,D.b1,decide_eq_true_eq,decide_eq_false_iff_not,beq_iff_eq,beq_eq_false_iff_ne,ne_eq,and_true] at hto
  cases hl
  refine ⟨?_,hbl⟩
 ·omega
 ·omega
 ·omega
 ·rw [he.ret]
  simp only [AV.val,AV.valL,zaQ,za4,zvJ,zad,D.d0,D.d4,D.d5,D.d6,q4,q6,w1,w2,znX]
  unfold znh
  rw [if_neg hto.2.2.2]
  congr 5
  exact decide_eq_decide.2 (by omega)
 ·rw [he.ret]
  simp only [AV.val,AV.valL,zaQ,za4,zvJ,zad,D.d0,D.d4,D.d5,D.d6,q4,q6,w1,w2,znX]
  unfold znh
  rw [if_pos hto.2.2.2]
  congr 5
  exact decide_eq_decide.2 (by omega)
theorem Tryz.zC3 {a:Int} {x:Bool} (ha:0≤a∧a<32768) (w:World):
  Calls prog 121 #[posV a x] w fun e w'=>e= .returned (.int .u16 (posW a x))∧Below w.heap.size w w':=by
 have D:=pcD (n:=1) (a:=a) (c:=0) (b:=0) (x:=x) (y:=false) ⟨by decide,by decide⟩ ha ⟨by decide,by decide⟩ ⟨by decide,by decide⟩
 generalize zAd 1 a 0 0 x false=ρ at D
 refine Calls.mono (zaF (ρ:=ρ) (K:=fun _=>False) (g:=Gho.none) (bl:= []) (vals:= [posV a x]) mixed zFK zIp (fun b h=>h.elim) trivial trivial zaK trivial (zab (zbj (zab (zac D.d4) (zab (zaq D.b0) RL.nil))) RL.nil) (zae.2 trivial)) fun e w' hh=> ?_
 obtain ⟨p,hpm,hto,l,hl,j,he⟩:=hh
 have hbl:=zar he (fun _ h=>h)
 unfold zEh at hpm
 simp only [List.mem_cons,List.not_mem_nil,or_false] at hpm
 rcases hpm with rfl|rfl
 all_goals
  simp only [zaa,zae,zaA,D.b0,and_true] at hto
  cases hl
  refine ⟨?_,hbl⟩
  rw [he.ret]
  simp only [AV.val]
 ·rw [znI (k:=1) (n:=15) (hi:=4611686018427387903) (c:=32768) D.i4 ha.1 (by show a≤4611686018427387903;omega) ha.2 rfl,hto];rfl
 ·rw [znI (k:=0) (n:=15) (hi:=4611686018427387903) (c:=0) D.i4 ha.1 (by show a≤4611686018427387903;omega) ha.2 rfl,hto];rfl
theorem Tryz.zvh {f:Int} {x:Bool} (hf:f=0∨f=2) (w:World):
  Calls prog 126 #[.int .u16 f,.bool x,.bool true] w fun e w'=>e= .returned (.int .u16 (f+if x then 32896 else 0))∧Below w.heap.size w w':=by
 have b0:(vof [] [x] []).b 0=x:=rfl
 generalize vof [] [x] []=ρ at b0
 rcases hf with rfl|rfl
 ·refine Calls.mono (zaF (ρ:=ρ) (K:=fun _=>False) (g:=Gho.none) (bl:= []) (vals:= [.int .u16 0,.bool x,.bool true]) mixed zDM zHX (fun b h=>h.elim) trivial trivial zaK trivial (zab (zac rfl) (zab (zaq b0) (zab (zaq rfl) RL.nil))) (zae.2 trivial)) fun e w' hh=> ?_
  obtain ⟨p,hpm,hto,l,hl,j,he⟩:=hh
  have hbl:=zar he (fun _ h=>h)
  unfold zBg at hpm
  simp only [List.mem_cons,List.not_mem_nil,or_false] at hpm
  rcases hpm with rfl|rfl
  all_goals
   simp only [zaa,zae,zaA,b0,and_true] at hto
   cases hl
   exact ⟨he.ret.trans (by rw [hto];rfl),hbl⟩
 ·refine Calls.mono (zaF (ρ:=ρ) (K:=fun _=>False) (g:=Gho.none) (bl:= []) (vals:= [.int .u16 2,.bool x,.bool true]) mixed zDK zHW (fun b h=>h.elim) trivial trivial zaK trivial (zab (zac rfl) (zab (zaq b0) (zab (zaq rfl) RL.nil))) (zae.2 trivial)) fun e w' hh=> ?_
  obtain ⟨p,hpm,hto,l,hl,j,he⟩:=hh
  have hbl:=zar he (fun _ h=>h)
  unfold zBe at hpm
  simp only [List.mem_cons,List.not_mem_nil,or_false] at hpm
  rcases hpm with rfl|rfl
  all_goals
   simp only [zaa,zae,zaA,b0,and_true] at hto
   cases hl
   exact ⟨he.ret.trans (by rw [hto];rfl),hbl⟩
def Tryz.prg:AV:= .agg [.bool (.lit true),.int .i64 (szv 0),.int .u64 (u64v 1),.int .u64 (u64v 2),.int .u64 (u64v 3)]
def Tryz.prow (ph:Int) (br:SB):List AV:=
  [.cst 0 none,.bool (.lit true),.int .i64 (szv 0),.int .u64 (u64v 1),.int .u64 (u64v 2),.int .u64 (u64v 3),.bool (.var 0),.bool (.var 1),.bool (.lit true),.int .i64 (lnv 4),.bool (.var 2),.int .i64 (lnv 5),.bool (.var 6),.map 2,.int .i64 (lnv 9),.int .i64 (.lit ph),
   .int .i64 (.var 6),.bool (.var 3),.int .i64 (u16v 7),.cst 1 none,.int .u32 (u32v 8),.bool (.var 4),.bool (.var 5),.bool br]
def Tryz.pshs (ph:Int):List Sh:= [.own (prow ph (.lit false)),.mapx []]
def Tryz.zpd (ph:Int) (k:AV) (v:Option AV):List Sh:= [.own (prow ph (.lit false)),.mapx [(k,v)]]
def Tryz.dplc (i:Nat) (k:Int):SE:= .bin .add .u64 (.bin .add .u64 (u64v 1) (.bin .mul .u64 (.lit 16) (lnv i))) (.lit k)
def Tryz.pld2 (a:SE):Ent:=⟨53,[.cst 0 none,.int .u64 a,.int .i64 (.lit 2)],0,0,0,.tup [.int .u64 (u16v 11),.int .i64 (.lit 0)],0⟩
def Tryz.pld4 (a:SE):Ent:=⟨53,[.cst 0 none,.int .u64 a,.int .i64 (.lit 4)],0,0,0,.tup [.int .u64 (u32v 11),.int .i64 (.lit 0)],0⟩
def Tryz.pst (a:SE) (k:Int) (v:SE):Ent:=⟨25,[.cst 0 none,.int .u64 a,.int .i64 (.lit k),.int .u64 v],0,0,0,.int .i64 (.lit 0),1⟩
def Tryz.ppkE (e:SE):Ent:=⟨122,[.cst 0 none,prg,.agg [.int .i64 (lnv 4),.bool (.var 2)],.bool (.var 1)],0,9,1,.tup [.agg [.int .i64 (u16v 13),.int .i64 (lnv 14),.opq 9 none],.int .i64 e],1⟩
def Tryz.pclE:Ent:=⟨57,[.opq 9 none],1,11,1,.opq 11 none,2⟩
def Tryz.pswE:Ent:=⟨121,[.agg [.int .i64 (lnv 4),.bool (.var 2)]],0,0,0,.int .u16 (u16v 18),0⟩
def Tryz.pavE:Ent:=⟨152,[.int .u16 (u16v 11),.bool (.var 2)],0,0,0,.bool (.var 7),0⟩
def Tryz.pmkE (f:Int):Ent:=⟨126,[.int .u16 (.lit f),.bool (.var 6),.bool (.lit true)],0,0,0,.int .u16 (u16v 18),0⟩
def Tryz.pgoE (k:Nat) (at0 wr ct:Nat):Ent:=⟨123,[.agg [.int .i64 (lnv at0),.bool (.var wr)],.int .i64 (lnv ct),.int .i64 (szv 0)],k,0,0,.tup [.agg [.int .i64 (lnv 15),.bool (.var 8)],.int .i64 (.lit 0)],k⟩
def Tryz.pneE:Ent:=⟨129,[.agg [.int .i64 (.flds [⟨11,0,4294967295,0,15,0⟩] 0),.bool (.cmp .eql (.flds [⟨11,0,4294967295,15,1,0⟩] 0) (.lit 1))],.agg [.int .i64 (lnv 15),.bool (.var 8)],.int .i64 (lnv 14),.int .i64 (szv 0)],0,0,0,.tup [.bool (.var 9),.int .i64 (.lit 0)],0⟩
end Go.Proofs
namespace Go.Proofs
open Go.Dw
def Tryz.zlV:List Ent:= [pld2 (dplc 4 14),pavE]
def Tryz.zpB:List Sh:=pshs 1
def Tryz.zlW:List AV:= [.ptr 1 0]
def Tryz.zzE:List (SB×Bool):= []
def Tryz.zuF:List Leaf:= [
 ⟨.tup [.agg [.int .i64 (.lit 2),.int .i64 (.lit 1),.int .i64 (lnv 4)],.int .i64 (.lit 0)],[(1,[.cst 0 none,.bool (.lit true),.int .i64 (szv 0),.int .u64 (u64v 1),.int .u64 (u64v 2),.int .u64 (u64v 3),.bool (.var 0),.bool (.var 1),.bool (.lit true),.int .i64 (lnv 4),.bool (.var 2),.int .i64 (lnv 5),.bool (.var 6),.map 2,.int .i64 (lnv 9),.int .i64 (.lit 5),.int .i64 (.var 6),.bool (.var 3),.int .i64 (u16v 7),.cst 1 none,.int .u32 (u32v 8),.bool (.var 4),.bool (.lit false),.bool (.lit false)])],[(2,[])],0,[1]⟩,
 ⟨.tup [.agg [.int .i64 (.lit 2),.int .i64 (.lit 1),.int .i64 (lnv 4)],.int .i64 (.lit 0)],[(1,[.cst 0 none,.bool (.lit true),.int .i64 (szv 0),.int .u64 (u64v 1),.int .u64 (u64v 2),.int .u64 (u64v 3),.bool (.var 0),.bool (.var 1),.bool (.lit true),.int .i64 (lnv 4),.bool (.var 2),.int .i64 (lnv 5),.bool (.var 6),.map 2,.int .i64 (lnv 9),.int .i64 (.lit 2),.int .i64 (.var 6),.bool (.var 3),.int .i64 (u16v 7),.cst 1 none,.int .u32 (u32v 8),.bool (.var 4),.bool (.lit false),.bool (.lit false)])],[(2,[])],0,[1]⟩,
 ⟨.tup [.agg [.int .i64 (.lit 2),.int .i64 (.lit 1),.int .i64 (lnv 4)],.int .i64 (.lit 0)],[(1,[.cst 0 none,.bool (.lit true),.int .i64 (szv 0),.int .u64 (u64v 1),.int .u64 (u64v 2),.int .u64 (u64v 3),.bool (.var 0),.bool (.var 1),.bool (.lit true),.int .i64 (lnv 4),.bool (.var 2),.int .i64 (lnv 5),.bool (.var 6),.map 2,.int .i64 (lnv 9),.int .i64 (.lit 0),.int .i64 (.var 6),.bool (.lit true),.int .i64 (u16v 7),.cst 1 none,.int .u32 (u32v 8),.bool (.var 4),.bool (.lit true),.bool (.lit false)])],[(2,[])],0,[1]⟩]
def Tryz.zuE:List (List (SB×Bool)×Nat):= [
 ([(.var 7,true)],0),
 ([(.var 7,false),(.var 0,true)],1),
 ([(.var 7,false),(.var 0,false)],2)]
theorem Tryz.zzD:(ev prog (zau zlV) 100000 (.call 27 zlW (zas 0 zpB) (zaM zuF 0))).ways zzE=some zuE:=by kernel_rfl
theorem Tryz.zDa:(zah zpB&&zaf zlV&&AV.smallL zlW&&zam zuF)=true:=by kernel_rfl
def Tryz.zjU:List Ent:= [pswE,pst (u64v 3) 4 (.flds [⟨18,0,65535,0,16,0⟩] 131072)]
def Tryz.zmf:List Sh:=pshs 2
def Tryz.zjV:List AV:= [.ptr 1 0]
def Tryz.zwZ:List (SB×Bool):= []
def Tryz.zp2:List Leaf:= [
 ⟨.tup [.agg [.int .i64 (.lit 3),.int .i64 (.lit 11),.int .i64 (.lit 0)],.int .i64 (.lit 0)],[(1,[.cst 0 none,.bool (.lit true),.int .i64 (szv 0),.int .u64 (u64v 1),.int .u64 (u64v 2),.int .u64 (u64v 3),.bool (.var 0),.bool (.var 1),.bool (.lit true),.int .i64 (lnv 4),.bool (.var 2),.int .i64 (lnv 5),.bool (.var 6),.map 2,.int .i64 (lnv 9),.int .i64 (.lit 3),.int .i64 (.var 6),.bool (.var 3),.int .i64 (u16v 7),.cst 1 none,.int .u32 (u32v 8),.bool (.var 4),.bool (.lit false),.bool (.lit false)])],[(2,[])],1,[1]⟩]
def Tryz.zp1:List (List (SB×Bool)×Nat):= [
 ([], 0)]
theorem Tryz.zwY:(ev prog (zau zjU) 100000 (.call 27 zjV (zas 0 zmf) (zaM zp2 0))).ways zwZ=some zp1:=by kernel_rfl
theorem Tryz.zz7:(zah zmf&&zaf zjU&&AV.smallL zjV&&zam zp2)=true:=by kernel_rfl
def Tryz.zjO:List Ent:= []
def Tryz.zma:List Sh:=pshs 3
def Tryz.zjP:List AV:= [.ptr 1 0]
def Tryz.zwV:List (SB×Bool):= []
def Tryz.zpX:List Leaf:= [
 ⟨.tup [.agg [.int .i64 (.lit 4),.int .i64 (.lit 0),.int .i64 (.lit 0)],.int .i64 (.lit 0)],[(1,[.cst 0 none,.bool (.lit true),.int .i64 (szv 0),.int .u64 (u64v 1),.int .u64 (u64v 2),.int .u64 (u64v 3),.bool (.var 0),.bool (.var 1),.bool (.lit true),.int .i64 (lnv 4),.bool (.var 2),.int .i64 (lnv 5),.bool (.var 6),.map 2,.int .i64 (lnv 9),.int .i64 (.lit 4),.int .i64 (.var 6),.bool (.var 3),.int .i64 (u16v 7),.cst 1 none,.int .u32 (u32v 8),.bool (.var 4),.bool (.lit false),.bool (.lit false)])],[(2,[])],0,[1]⟩]
def Tryz.zpW:List (List (SB×Bool)×Nat):= [
 ([], 0)]
theorem Tryz.zwU:(ev prog (zau zjO) 100000 (.call 27 zjP (zas 0 zma) (zaM zpX 0))).ways zwV=some zpW:=by kernel_rfl
theorem Tryz.zz6:(zah zma&&zaf zjO&&AV.smallL zjP&&zam zpX)=true:=by kernel_rfl
def Tryz.zj2:List Ent:= [pld2 (dplc 4 14),pavE]
def Tryz.zmk:List Sh:=pshs 4
def Tryz.zj3:List AV:= [.ptr 1 0]
def Tryz.zxa:List (SB×Bool):= []
def Tryz.zql:List Leaf:= [
 ⟨.tup [.agg [.int .i64 (.lit 2),.int .i64 (.lit 1),.int .i64 (lnv 4)],.int .i64 (.lit 0)],[(1,[.cst 0 none,.bool (.lit true),.int .i64 (szv 0),.int .u64 (u64v 1),.int .u64 (u64v 2),.int .u64 (u64v 3),.bool (.var 0),.bool (.var 1),.bool (.lit true),.int .i64 (lnv 4),.bool (.var 2),.int .i64 (lnv 5),.bool (.var 6),.map 2,.int .i64 (lnv 9),.int .i64 (.lit 0),.int .i64 (.var 6),.bool (.lit true),.int .i64 (u16v 7),.cst 1 none,.int .u32 (u32v 8),.bool (.var 4),.bool (.lit true),.bool (.lit false)])],[(2,[])],0,[1]⟩,
 ⟨.tup [.agg [.int .i64 (.lit 2),.int .i64 (.lit 1),.int .i64 (lnv 4)],.int .i64 (.lit 0)],[(1,[.cst 0 none,.bool (.lit true),.int .i64 (szv 0),.int .u64 (u64v 1),.int .u64 (u64v 2),.int .u64 (u64v 3),.bool (.var 0),.bool (.var 1),.bool (.lit true),.int .i64 (lnv 4),.bool (.var 2),.int .i64 (lnv 5),.bool (.var 6),.map 2,.int .i64 (lnv 9),.int .i64 (.lit 5),.int .i64 (.var 6),.bool (.var 3),.int .i64 (u16v 7),.cst 1 none,.int .u32 (u32v 8),.bool (.var 4),.bool (.lit false),.bool (.lit false)])],[(2,[])],0,[1]⟩]
def Tryz.zqk:List (List (SB×Bool)×Nat):= [
 ([(.var 7,false)],0),
 ([(.var 7,true)],1)]
theorem Tryz.zw9:(ev prog (zau zj2) 100000 (.call 27 zj3 (zas 0 zmk) (zaM zql 0))).ways zxa=some zqk:=by kernel_rfl
theorem Tryz.zAk:(zah zmk&&zaf zj2&&AV.smallL zj3&&zam zql)=true:=by kernel_rfl
def Tryz.zh3:List Ent:= []
def Tryz.zjR:List Sh:=pshs 5
def Tryz.zh4:List AV:= [.ptr 1 0]
def Tryz.zss:List (SB×Bool):= []
def Tryz.zme:List Leaf:= [
 ⟨.tup [.agg [.int .i64 (.lit 4),.int .i64 (.lit 0),.int .i64 (.lit 0)],.int .i64 (.lit 0)],[(1,[.cst 0 none,.bool (.lit true),.int .i64 (szv 0),.int .u64 (u64v 1),.int .u64 (u64v 2),.int .u64 (u64v 3),.bool (.var 0),.bool (.var 1),.bool (.lit true),.int .i64 (lnv 4),.bool (.var 2),.int .i64 (lnv 5),.bool (.var 6),.map 2,.int .i64 (lnv 9),.int .i64 (.lit 6),.int .i64 (.var 6),.bool (.var 3),.int .i64 (u16v 7),.cst 1 none,.int .u32 (u32v 8),.bool (.var 4),.bool (.lit false),.bool (.lit false)])],[(2,[])],0,[1]⟩]
def Tryz.zmd:List (List (SB×Bool)×Nat):= [
 ([], 0)]
theorem Tryz.zsr:(ev prog (zau zh3) 100000 (.call 27 zh4 (zas 0 zjR) (zaM zme 0))).ways zss=some zmd:=by kernel_rfl
theorem Tryz.zwX:(zah zjR&&zaf zh3&&AV.smallL zh4&&zam zme)=true:=by kernel_rfl
def Tryz.zjY:List Ent:= [ppkE (.lit 0),pclE,pgoE 1 4 2 14]
def Tryz.zmh:List Sh:=zpd 6 (.int .i64 (u16v 13)) none
def Tryz.zjZ:List AV:= [.ptr 1 0]
def Tryz.zw3:List (SB×Bool):= []
def Tryz.zqa:List Leaf:= [
 ⟨.tup [.agg [.int .i64 (.lit 1),.int .i64 (.lit 0),.int .i64 (.lit 0)],.int .i64 (.lit 4)],[(1,[.cst 0 none,.bool (.lit true),.int .i64 (szv 0),.int .u64 (u64v 1),.int .u64 (u64v 2),.int .u64 (u64v 3),.bool (.var 0),.bool (.var 1),.bool (.lit true),.int .i64 (lnv 4),.bool (.var 2),.int .i64 (lnv 5),.bool (.var 6),.map 2,.int .i64 (lnv 9),.int .i64 (.lit 0),.int .i64 (.lit 0),.bool (.lit false),.int .i64 (.lit 0),.nils,.int .u32 (.lit 0),.bool (.lit false),.bool (.var 5),.bool (.lit true)])],[(2,[])],1,[1]⟩,
 ⟨.tup [.agg [.int .i64 (.lit 1),.int .i64 (.lit 0),.int .i64 (.lit 0)],.int .i64 (.lit 0)],[(1,[.cst 0 none,.bool (.lit true),.int .i64 (szv 0),.int .u64 (u64v 1),.int .u64 (u64v 2),.int .u64 (u64v 3),.bool (.var 0),.bool (.var 1),.bool (.lit true),.int .i64 (lnv 15),.bool (.var 8),.int .i64 (lnv 5),.bool (.var 6),.map 2,.int .i64 (.bin .add .i64 (lnv 9) (lnv 14)),.int .i64 (.lit 0),.int .i64 (.var 6),.bool (.var 3),.int .i64 (u16v 13),.opq 11 none,.int .u32 (u32v 8),.bool (.var 4),.bool (.lit true),.bool (.lit false)])],[(2,[(.int .i64 (u16v 13),some (.agg [.int .i64 (u16v 13),.int .i64 (lnv 14),.opq 9 none]))])],2,[1]⟩]
def Tryz.zp9:List (List (SB×Bool)×Nat):= [
 ([((.cmp .gtr (.bin .add .i64 (lnv 14) (lnv 9)) (szv 0)),true)],0),
 ([((.cmp .gtr (.bin .add .i64 (lnv 14) (lnv 9)) (szv 0)),false)],1)]
theorem Tryz.zw2:(ev prog (zau zjY) 100000 (.call 27 zjZ (zas 0 zmh) (zaM zqa 0))).ways zw3=some zp9:=by kernel_rfl
theorem Tryz.zAa:(zah zmh&&zaf zjY&&AV.smallL zjZ&&zam zqa)=true:=by kernel_rfl
def Tryz.zh9:List Ent:= [ppkE (.var 17)]
def Tryz.zj1:List Sh:=pshs 6
def Tryz.zia:List AV:= [.ptr 1 0]
def Tryz.zsC:List (SB×Bool):= [(.cmp .neq (.var 17) (.lit 0),true)]
def Tryz.zmj:List Leaf:= [
 ⟨.tup [.agg [.int .i64 (.lit 1),.int .i64 (.lit 0),.int .i64 (.lit 0)],.int .i64 (.lit 4)],[(1,[.cst 0 none,.bool (.lit true),.int .i64 (szv 0),.int .u64 (u64v 1),.int .u64 (u64v 2),.int .u64 (u64v 3),.bool (.var 0),.bool (.var 1),.bool (.lit true),.int .i64 (lnv 4),.bool (.var 2),.int .i64 (lnv 5),.bool (.var 6),.map 2,.int .i64 (lnv 9),.int .i64 (.lit 0),.int .i64 (.lit 0),.bool (.lit false),.int .i64 (.lit 0),.nils,.int .u32 (.lit 0),.bool (.lit false),.bool (.var 5),.bool (.lit true)])],[(2,[])],1,[1]⟩]
def Tryz.zw7:List (List (SB×Bool)×Nat):= [
 ([], 0)]
theorem Tryz.zsB:(ev prog (zau zh9) 100000 (.call 27 zia (zas 0 zj1) (zaM zmj 0))).ways zsC=some zw7:=by kernel_rfl
theorem Tryz.zw8:(zah zj1&&zaf zh9&&AV.smallL zia&&zam zmj)=true:=by kernel_rfl
def Tryz.zh7:List Ent:= [ppkE (.lit 0)]
def Tryz.zj0:List Sh:=zpd 6 (.int .i64 (u16v 13)) (some (.agg [.int .i64 (u16v 13),.int .i64 (lnv 19),.cst 2 none]))
def Tryz.zh8:List AV:= [.ptr 1 0]
def Tryz.zsA:List (SB×Bool):= []
def Tryz.zmi:List Leaf:= [
 ⟨.tup [.agg [.int .i64 (.lit 1),.int .i64 (.lit 0),.int .i64 (.lit 0)],.int .i64 (.lit 4)],[(1,[.cst 0 none,.bool (.lit true),.int .i64 (szv 0),.int .u64 (u64v 1),.int .u64 (u64v 2),.int .u64 (u64v 3),.bool (.var 0),.bool (.var 1),.bool (.lit true),.int .i64 (lnv 4),.bool (.var 2),.int .i64 (lnv 5),.bool (.var 6),.map 2,.int .i64 (lnv 9),.int .i64 (.lit 0),.int .i64 (.lit 0),.bool (.lit false),.int .i64 (.lit 0),.nils,.int .u32 (.lit 0),.bool (.lit false),.bool (.var 5),.bool (.lit true)])],[(2,[])],1,[1]⟩]
def Tryz.zw5:List (List (SB×Bool)×Nat):= [
 ([], 0)]
theorem Tryz.zsz:(ev prog (zau zh7) 100000 (.call 27 zh8 (zas 0 zj0) (zaM zmi 0))).ways zsA=some zw5:=by kernel_rfl
theorem Tryz.zw6:(zah zj0&&zaf zh7&&AV.smallL zh8&&zam zmi)=true:=by kernel_rfl
def Tryz.zh1:List Ent:= []
def Tryz.zjQ:List Sh:=pshs 8
def Tryz.zh2:List AV:= [.ptr 1 0]
def Tryz.zsp:List (SB×Bool):= []
def Tryz.zmc:List Leaf:= [
 ⟨.tup [.agg [.int .i64 (.lit 4),.int .i64 (.lit 0),.int .i64 (.lit 0)],.int .i64 (.lit 0)],[(1,[.cst 0 none,.bool (.lit true),.int .i64 (szv 0),.int .u64 (u64v 1),.int .u64 (u64v 2),.int .u64 (u64v 3),.bool (.var 0),.bool (.var 1),.bool (.lit true),.int .i64 (lnv 4),.bool (.var 2),.int .i64 (lnv 5),.bool (.var 6),.map 2,.int .i64 (lnv 9),.int .i64 (.lit 9),.int .i64 (.var 6),.bool (.var 3),.int .i64 (u16v 7),.cst 1 none,.int .u32 (u32v 8),.bool (.var 4),.bool (.lit false),.bool (.lit false)])],[(2,[])],0,[1]⟩]
def Tryz.zmb:List (List (SB×Bool)×Nat):= [
 ([], 0)]
theorem Tryz.zso:(ev prog (zau zh1) 100000 (.call 27 zh2 (zas 0 zjQ) (zaM zmc 0))).ways zsp=some zmb:=by kernel_rfl
theorem Tryz.zwW:(zah zjQ&&zaf zh1&&AV.smallL zh2&&zam zmc)=true:=by kernel_rfl
def Tryz.zhZ:List Ent:= [pmkE 0,pst (dplc 5 14) 2 (u16v 18)]
def Tryz.zjN:List Sh:=pshs 9
def Tryz.zh0:List AV:= [.ptr 1 0]
def Tryz.zsm:List (SB×Bool):= [(.cmp .gtr (u32v 8) (.lit 0),false)]
def Tryz.zl9:List Leaf:= [
 ⟨.tup [.agg [.int .i64 (.lit 3),.int .i64 (.lit 1),.int .i64 (lnv 5)],.int .i64 (.lit 0)],[(1,[.cst 0 none,.bool (.lit true),.int .i64 (szv 0),.int .u64 (u64v 1),.int .u64 (u64v 2),.int .u64 (u64v 3),.bool (.var 0),.bool (.var 1),.bool (.lit true),.int .i64 (lnv 4),.bool (.var 2),.int .i64 (lnv 5),.bool (.var 6),.map 2,.int .i64 (lnv 9),.int .i64 (.lit 10),.int .i64 (.var 6),.bool (.var 3),.int .i64 (u16v 7),.cst 1 none,.int .u32 (u32v 8),.bool (.var 4),.bool (.lit false),.bool (.lit false)])],[(2,[])],1,[1]⟩]
def Tryz.zl8:List (List (SB×Bool)×Nat):= [
 ([], 0)]
theorem Tryz.zsl:(ev prog (zau zhZ) 100000 (.call 27 zh0 (zas 0 zjN) (zaM zl9 0))).ways zsm=some zl8:=by kernel_rfl
theorem Tryz.zwT:(zah zjN&&zaf zhZ&&AV.smallL zh0&&zam zl9)=true:=by kernel_rfl
def Tryz.zhX:List Ent:= [pmkE 2,pst (dplc 5 14) 2 (u16v 18)]
def Tryz.zjM:List Sh:=pshs 9
def Tryz.zhY:List AV:= [.ptr 1 0]
def Tryz.zsj:List (SB×Bool):= [(.cmp .gtr (u32v 8) (.lit 0),true)]
def Tryz.zl7:List Leaf:= [
 ⟨.tup [.agg [.int .i64 (.lit 3),.int .i64 (.lit 1),.int .i64 (lnv 5)],.int .i64 (.lit 0)],[(1,[.cst 0 none,.bool (.lit true),.int .i64 (szv 0),.int .u64 (u64v 1),.int .u64 (u64v 2),.int .u64 (u64v 3),.bool (.var 0),.bool (.var 1),.bool (.lit true),.int .i64 (lnv 4),.bool (.var 2),.int .i64 (lnv 5),.bool (.var 6),.map 2,.int .i64 (lnv 9),.int .i64 (.lit 10),.int .i64 (.var 6),.bool (.var 3),.int .i64 (u16v 7),.cst 1 none,.int .u32 (u32v 8),.bool (.var 4),.bool (.lit false),.bool (.lit false)])],[(2,[])],1,[1]⟩]
def Tryz.zl6:List (List (SB×Bool)×Nat):= [
 ([], 0)]
theorem Tryz.zsi:(ev prog (zau zhX) 100000 (.call 27 zhY (zas 0 zjM) (zaM zl7 0))).ways zsj=some zl6:=by kernel_rfl
theorem Tryz.zwS:(zah zjM&&zaf zhX&&AV.smallL zhY&&zam zl7)=true:=by kernel_rfl
def Tryz.zgu:List Ent:= []
def Tryz.zh5:List Sh:=pshs 10
def Tryz.zgv:List AV:= [.ptr 1 0]
def Tryz.zpZ:List (SB×Bool):= []
def Tryz.zjT:List Leaf:= [
 ⟨.tup [.agg [.int .i64 (.lit 4),.int .i64 (.lit 0),.int .i64 (.lit 0)],.int .i64 (.lit 0)],[(1,[.cst 0 none,.bool (.lit true),.int .i64 (szv 0),.int .u64 (u64v 1),.int .u64 (u64v 2),.int .u64 (u64v 3),.bool (.var 0),.bool (.var 1),.bool (.lit true),.int .i64 (lnv 4),.bool (.var 2),.int .i64 (lnv 5),.bool (.var 6),.map 2,.int .i64 (lnv 9),.int .i64 (.lit 11),.int .i64 (.var 6),.bool (.var 3),.int .i64 (u16v 7),.cst 1 none,.int .u32 (u32v 8),.bool (.var 4),.bool (.lit false),.bool (.lit false)])],[(2,[])],0,[1]⟩]
def Tryz.zjS:List (List (SB×Bool)×Nat):= [
 ([], 0)]
theorem Tryz.zpY:(ev prog (zau zgu) 100000 (.call 27 zgv (zas 0 zh5) (zaM zjT 0))).ways zpZ=some zjS:=by kernel_rfl
theorem Tryz.zsv:(zah zh5&&zaf zgu&&AV.smallL zgv&&zam zjT)=true:=by kernel_rfl
def Tryz.zjf:List Ent:= [pld4 (u64v 2),pgoE 0 5 6 14]
def Tryz.zlB:List Sh:=zpd 11 (.int .i64 (u16v 7)) (some (.agg [.int .i64 (u16v 7),.int .i64 (lnv 14),.cst 2 none]))
def Tryz.zjg:List AV:= [.ptr 1 0]
def Tryz.zwy:List (SB×Bool):= [(.cmp .eql (.flds [⟨11,0,4294967295,16,2,0⟩] 0) (.lit 0),true)]
def Tryz.zo2:List Leaf:= [
 ⟨.tup [.agg [.int .i64 (.lit 2),.int .i64 (.lit 10),.int .i64 (.lit 0)],.int .i64 (.lit 0)],[(1,[.cst 0 none,.bool (.lit true),.int .i64 (szv 0),.int .u64 (u64v 1),.int .u64 (u64v 2),.int .u64 (u64v 3),.bool (.var 0),.bool (.var 1),.bool (.lit true),.int .i64 (lnv 4),.bool (.var 2),.int .i64 (lnv 15),.bool (.var 8),.map 2,.int .i64 (.bin .sub .i64 (lnv 9) (lnv 14)),.int .i64 (.lit 0),.int .i64 (.var 6),.bool (.var 3),.int .i64 (u16v 7),.cst 1 none,.int .u32 (u32v 8),.bool (.lit true),.bool (.lit true),.bool (.lit false)])],[(2,[(.int .i64 (u16v 7),none)])],0,[1]⟩]
def Tryz.zo1:List (List (SB×Bool)×Nat):= [
 ([], 0)]
theorem Tryz.zwx:(ev prog (zau zjf) 100000 (.call 27 zjg (zas 0 zlB) (zaM zo2 0))).ways zwy=some zo1:=by kernel_rfl
theorem Tryz.zyV:(zah zlB&&zaf zjf&&AV.smallL zjg&&zam zo2)=true:=by kernel_rfl
def Tryz.zhS:List Ent:= [pld4 (u64v 2),pgoE 0 5 6 14]
def Tryz.zjd:List Sh:=zpd 11 (.int .i64 (u16v 7)) (some (.agg [.int .i64 (u16v 7),.int .i64 (lnv 14),.cst 2 none]))
def Tryz.zhT:List AV:= [.ptr 1 0]
def Tryz.zr4:List (SB×Bool):= [(.cmp .eql (.flds [⟨11,0,4294967295,16,2,0⟩] 0) (.lit 0),false),(.cmp .eql (.flds [⟨11,0,4294967295,16,2,0⟩] 0) (.lit 2),true),(.cmp .geq (.flds [⟨11,0,4294967295,0,15,0⟩] 0) (szv 0),true)]
def Tryz.zly:List Leaf:= [
 ⟨.tup [.agg [.int .i64 (.lit 2),.int .i64 (.lit 10),.int .i64 (.lit 0)],.int .i64 (.lit 0)],[(1,[.cst 0 none,.bool (.lit true),.int .i64 (szv 0),.int .u64 (u64v 1),.int .u64 (u64v 2),.int .u64 (u64v 3),.bool (.var 0),.bool (.var 1),.bool (.lit true),.int .i64 (lnv 4),.bool (.var 2),.int .i64 (lnv 15),.bool (.var 8),.map 2,.int .i64 (.bin .sub .i64 (lnv 9) (lnv 14)),.int .i64 (.lit 0),.int .i64 (.var 6),.bool (.var 3),.int .i64 (u16v 7),.cst 1 none,.int .u32 (u32v 8),.bool (.lit true),.bool (.lit true),.bool (.lit false)])],[(2,[(.int .i64 (u16v 7),none)])],0,[1]⟩]
def Tryz.zlx:List (List (SB×Bool)×Nat):= [
 ([], 0)]
theorem Tryz.zr3:(ev prog (zau zhS) 100000 (.call 27 zhT (zas 0 zjd) (zaM zly 0))).ways zr4=some zlx:=by kernel_rfl
theorem Tryz.zwv:(zah zjd&&zaf zhS&&AV.smallL zhT&&zam zly)=true:=by kernel_rfl
def Tryz.zhU:List Ent:= [pld4 (u64v 2),pgoE 0 5 6 14,pneE]
def Tryz.zje:List Sh:=zpd 11 (.int .i64 (u16v 7)) (some (.agg [.int .i64 (u16v 7),.int .i64 (lnv 14),.cst 2 none]))
def Tryz.zhV:List AV:= [.ptr 1 0]
def Tryz.zr7:List (SB×Bool):= [(.cmp .eql (.flds [⟨11,0,4294967295,16,2,0⟩] 0) (.lit 0),false),(.cmp .eql (.flds [⟨11,0,4294967295,16,2,0⟩] 0) (.lit 2),true),(.cmp .geq (.flds [⟨11,0,4294967295,0,15,0⟩] 0) (szv 0),false)]
def Tryz.zlA:List Leaf:= [
 ⟨.tup [.agg [.int .i64 (.lit 2),.int .i64 (.lit 10),.int .i64 (.lit 0)],.int .i64 (.lit 0)],[(1,[.cst 0 none,.bool (.lit true),.int .i64 (szv 0),.int .u64 (u64v 1),.int .u64 (u64v 2),.int .u64 (u64v 3),.bool (.var 0),.bool (.var 1),.bool (.lit true),.int .i64 (lnv 4),.bool (.var 2),.int .i64 (lnv 15),.bool (.var 8),.map 2,.int .i64 (.bin .sub .i64 (lnv 9) (lnv 14)),.int .i64 (.lit 0),.int .i64 (.var 6),.bool (.var 3),.int .i64 (u16v 7),.cst 1 none,.int .u32 (u32v 8),.bool (.var 9),.bool (.lit true),.bool (.lit false)])],[(2,[(.int .i64 (u16v 7),none)])],0,[1]⟩]
def Tryz.zlz:List (List (SB×Bool)×Nat):= [
 ([], 0)]
theorem Tryz.zr6:(ev prog (zau zhU) 100000 (.call 27 zhV (zas 0 zje) (zaM zlA 0))).ways zr7=some zlz:=by kernel_rfl
theorem Tryz.zww:(zah zje&&zaf zhU&&AV.smallL zhV&&zam zlA)=true:=by kernel_rfl
def Tryz.zjb:List Ent:= [pld4 (u64v 2),pgoE 0 5 6 14]
def Tryz.zlw:List Sh:=zpd 11 (.int .i64 (u16v 7)) (some (.agg [.int .i64 (u16v 7),.int .i64 (lnv 14),.cst 2 none]))
def Tryz.zjc:List AV:= [.ptr 1 0]
def Tryz.zwt:List (SB×Bool):= [(.cmp .eql (.flds [⟨11,0,4294967295,16,2,0⟩] 0) (.lit 0),false),(.cmp .eql (.flds [⟨11,0,4294967295,16,2,0⟩] 0) (.lit 2),false)]
def Tryz.zo0:List Leaf:= [
 ⟨.tup [.agg [.int .i64 (.lit 2),.int .i64 (.lit 10),.int .i64 (.lit 0)],.int .i64 (.lit 0)],[(1,[.cst 0 none,.bool (.lit true),.int .i64 (szv 0),.int .u64 (u64v 1),.int .u64 (u64v 2),.int .u64 (u64v 3),.bool (.var 0),.bool (.var 1),.bool (.lit true),.int .i64 (lnv 4),.bool (.var 2),.int .i64 (lnv 15),.bool (.var 8),.map 2,.int .i64 (.bin .sub .i64 (lnv 9) (lnv 14)),.int .i64 (.lit 0),.int .i64 (.var 6),.bool (.var 3),.int .i64 (u16v 7),.cst 1 none,.int .u32 (u32v 8),.bool (.var 4),.bool (.lit true),.bool (.lit false)])],[(2,[(.int .i64 (u16v 7),none)])],0,[1]⟩]
def Tryz.zoZ:List (List (SB×Bool)×Nat):= [
 ([], 0)]
theorem Tryz.zws:(ev prog (zau zjb) 100000 (.call 27 zjc (zas 0 zlw) (zaM zo0 0))).ways zwt=some zoZ:=by kernel_rfl
theorem Tryz.zyU:(zah zlw&&zaf zjb&&AV.smallL zjc&&zam zo0)=true:=by kernel_rfl
open Go.RowKit
structure Tryz.PtW (A:Nat→Prop) (w:World) (M:Nat) (n:Int) (tk:List (Int×PTk)):Prop where
 map: ∃arr clock,w.heap[M]? =some (.map arr clock)∧(zdp arr∧Born arr clock)∧ ∀k:Int,(zbQ k tk=none→zbf arr k=none)∧ ∀t,zbQ k tk=some t→ ∃v,zbf arr k=some (.agg #[.int .i64 k,.int .i64 t.ct,v])∧SegV A w v t.sg
 keys:(tk.map (·.1)).Nodup
 rng: ∀e∈tk,(0≤e.1∧e.1<n)∧1≤e.2.ct∧e.2.ct≤n
theorem Tryz.PtW.kept {A:Nat→Prop} {w w':World} {M:Nat} {n:Int} {tk:List (Int×PTk)} (h:PtW A w M n tk) (hM:w'.heap[M]? =w.heap[M]?) (hk: ∀k,k<w.heap.size→ ¬A k→w'.heap[k]? =w.heap[k]?):PtW A w' M n tk:=by
 obtain ⟨arr,clock,h1,h2,h3⟩:=h.map
 refine ⟨⟨arr,clock,hM.trans h1,h2,fun k=>⟨(h3 k).1,fun t ht=> ?_⟩⟩,h.keys,h.rng⟩
 obtain ⟨v,h4,h5⟩:=(h3 k).2 t ht
 exact ⟨v,h4,h5.kept hk⟩
theorem Tryz.zcs {k:Int} {t:PTk}: ∀ {tk:List (Int×PTk)},zbQ k tk=some t→(k,t)∈tk
 | [], h=>by cases h
 | e::r,h=>by
  unfold zbQ at h
  split at h
  ·rename_i he;cases h;exact List.mem_cons.2 (.inl (by rw [he]))
  ·exact List.mem_cons_of_mem _ (zcs h)
theorem Tryz.zlD {k h:Int} {l:PTk}: ∀ {tk:List (Int×PTk)},zbQ h tk=none→zbQ k (tk++ [(h,l)])=if k=h then some l else zbQ k tk
 | [], _=>by simp only [List.nil_append,zbQ]
 | e::r,hn=>by
  unfold zbQ at hn
  split at hn
  ·cases hn
  ·rename_i hne
   simp only [List.cons_append,zbQ]
   rw [zlD hn]
   by_cases hk:k=e.1
   ·rw [if_pos hk,if_neg (fun hh=>hne (by rw [←hh,hk])),if_pos hk]
   ·rw [if_neg hk,if_neg hk]
theorem Tryz.zdX {k:Int}: ∀ {tk:List (Int×PTk)},zbQ k tk=none↔k∉tk.map (·.1)
 | [] => by simp [zbQ]
 | e::r=>by
  unfold zbQ
  by_cases h:k=e.1
  ·simp [h]
  ·rw [if_neg h,zdX (tk:=r)]
   simp [h]
theorem Tryz.zfa (k:Int): ∀(tk:List (Int×PTk)),(zcH k tk).Sublist tk
 | [] => List.Sublist.refl _
 | e::r=>by
  unfold zcH
  split
  ·exact List.sublist_cons_self ..
  ·exact (zfa k r).cons_cons _
theorem Tryz.zo7 {k h:Int}: ∀ {tk:List (Int×PTk)},(tk.map (·.1)).Nodup→zbQ k (zcH h tk)=if k=h then none else zbQ k tk
 | [], _=>by simp [zcH,zbQ]
 | e::r,hn=>by
  rw [List.map_cons,List.nodup_cons] at hn
  unfold zcH
  by_cases hh:h=e.1
  ·rw [if_pos hh]
   by_cases hk:k=h
   ·rw [if_pos hk]
    exact zdX.2 (by rw [hk,hh];exact hn.1)
   ·rw [if_neg hk]
    unfold zbQ
    rw [if_neg (fun e'=>hk (e'.trans hh.symm))]
    cases r<;>simp only [zbQ]
  ·rw [if_neg hh]
   unfold zbQ
   rw [zo7 hn.2]
   by_cases hk:k=e.1
   ·rw [if_pos hk,if_pos hk,if_neg (fun e'=>hh (e'.symm.trans hk))]
   ·rw [if_neg hk,if_neg hk]
theorem Tryz.zlC (h:Int) (t:PTk): ∀tk:List (Int×PTk),zeB (tk++ [(h,t)])=zeB tk+t.ct
 | [] => by simp [zeB]
 | e::r=>by simp only [List.cons_append,zeB,zlC h t r];omega
theorem Tryz.zeA {h:Int} {t:PTk}: ∀ {tk:List (Int×PTk)},zbQ h tk=some t→zeB (zcH h tk)=zeB tk-t.ct
 | [], hh=>by cases hh
 | e::r,hh=>by
  unfold zbQ at hh
  unfold zcH
  by_cases he:h=e.1
  ·rw [if_pos he] at hh ⊢
   cases hh
   simp only [zeB]
   omega
  ·rw [if_neg he] at hh ⊢
   simp only [zeB,zeA hh]
   omega
theorem Tryz.PtW.same {A:Nat→Prop} {w w':World} {M:Nat} {n:Int} {tk:List (Int×PTk)} (h:PtW A w M n tk) (hk: ∀k,k<w.heap.size→ ¬A k→w'.heap[k]? =w.heap[k]?)
  (hm: ∃arr clock arr0 clock0,w'.heap[M]? =some (.map arr clock)∧w.heap[M]? =some (.map arr0 clock0)∧(zdp arr∧Born arr clock)∧ ∀k,zbf arr k=zbf arr0 k):PtW A w' M n tk:=by
 obtain ⟨arr,clock,arr0,clock0,h1,h2,h3,h4⟩:=hm
 obtain ⟨arr1,clock1,g1,g2,g3⟩:=h.map
 rw [g1] at h2;cases h2
 refine ⟨⟨arr,clock,h1,h3,fun k=>⟨fun hk'=>(h4 k).trans ((g3 k).1 hk'),fun t ht=> ?_⟩⟩,h.keys,h.rng⟩
 obtain ⟨v,g4,g5⟩:=(g3 k).2 t ht
 exact ⟨v,(h4 k).trans g4,g5.kept hk⟩
theorem Tryz.PtW.put {A:Nat→Prop} {w w':World} {M:Nat} {n:Int} {tk:List (Int×PTk)} (h:PtW A w M n tk) (hk: ∀k,k<w.heap.size→ ¬A k→w'.heap[k]? =w.heap[k]?) {x:Int} {t:PTk} {v:Value} (hx:zbQ x tk=none) (hx0:(0≤x∧x<n)∧1≤t.ct∧t.ct≤n) (hv:SegV A w' v t.sg)
  (hm: ∃arr clock arr0 clock0,w'.heap[M]? =some (.map arr clock)∧w.heap[M]? =some (.map arr0 clock0)∧(zdp arr∧Born arr clock)∧ ∀k,zbf arr k=if k=x then some (.agg #[.int .i64 x,.int .i64 t.ct,v]) else zbf arr0 k):PtW A w' M n (tk++ [(x,t)]):=by
 obtain ⟨arr,clock,arr0,clock0,h1,h2,h3,h4⟩:=hm
 obtain ⟨arr1,clock1,g1,g2,g3⟩:=h.map
 rw [g1] at h2;cases h2
 refine ⟨⟨arr,clock,h1,h3,fun k=> ?_⟩,?_,fun e he=> ?_⟩
 ·rw [zlD hx,h4]
  by_cases hkx:k=x
  ·rw [if_pos hkx,if_pos hkx]
   exact ⟨fun h=>(by cases h),fun t' ht'=>(by cases ht';exact ⟨v,by rw [hkx],hv⟩)⟩
  ·rw [if_neg hkx,if_neg hkx]
   refine ⟨(g3 k).1,fun t' ht'=> ?_⟩
   obtain ⟨v',g4,g5⟩:=(g3 k).2 t' ht'
   exact ⟨v',g4,g5.kept hk⟩
 ·rw [List.map_append,List.nodup_append]
  refine ⟨h.keys,by simp,fun a ha b hb hab=> ?_⟩
  simp only [List.map_cons,List.map_nil,List.mem_singleton] at hb
  subst hb hab
  exact zdX.1 hx ha
 ·rcases List.mem_append.1 he with he|he
  ·exact h.rng e he
  ·rw [List.mem_singleton] at he;subst he;exact hx0
theorem Tryz.PtW.del {A:Nat→Prop} {w w':World} {M:Nat} {n:Int} {tk:List (Int×PTk)} (h:PtW A w M n tk) (hk: ∀k,k<w.heap.size→ ¬A k→w'.heap[k]? =w.heap[k]?) {x:Int}
  (hm: ∃arr clock arr0 clock0,w'.heap[M]? =some (.map arr clock)∧w.heap[M]? =some (.map arr0 clock0)∧(zdp arr∧Born arr clock)∧ ∀k,zbf arr k=if k=x then none else zbf arr0 k):PtW A w' M n (zcH x tk):=by
 obtain ⟨arr,clock,arr0,clock0,h1,h2,h3,h4⟩:=hm
 obtain ⟨arr1,clock1,g1,g2,g3⟩:=h.map
 rw [g1] at h2;cases h2
 refine ⟨⟨arr,clock,h1,h3,fun k=> ?_⟩,((zfa x tk).map (·.1)).nodup h.keys,fun e he=>h.rng e ((zfa x tk).subset he)⟩
 rw [zo7 h.keys,h4]
 by_cases hkx:k=x
 ·rw [if_pos hkx,if_pos hkx]
  exact ⟨fun _=>rfl,fun t' ht'=>(by cases ht')⟩
 ·rw [if_neg hkx,if_neg hkx]
  refine ⟨(g3 k).1,fun t' ht'=> ?_⟩
  obtain ⟨v',g4,g5⟩:=(g3 k).2 t' ht'
  exact ⟨v',g4,g5.kept hk⟩
structure Tryz.PB (r:Rg) (s:PS):Prop where
 nx:0≤s.nx∧s.nx<r.n
 us:0≤s.us∧s.us<r.n
 ou:s.ou=zeB s.tk∧s.ou≤r.n
 hd:0≤s.hd∧s.hd<65536
 wr:0≤s.wr∧s.wr<4294967296
 ph:s.ph≤11
 ret:7≤s.ph→ ∃t,zbQ s.hd s.tk=some t
structure Tryz.PW (A:Nat→Prop) (w:World) (S P L Bs B M N:Nat) (r:Rg) (s:PS) (g:Nat→Int):Prop where
 obj: ∃sv,Own w S (s.row r P M sv)∧SegV A w sv s.sg
 tk:PtW A w M r.n s.tk
 ne:S≠M
 aS:A S
 aM:A M
 rg:PgOk r
 pb:PB r s
 mem:GM w P L Bs B N g
 hN:N≤1048576
 sd:S≠P∧S≠L∧S≠Bs∧S≠B
 md:M≠P∧M≠L∧M≠Bs∧M≠B
 aB:A B
 lt: ∀b,A b→b<w.heap.size
 fit:4104+16*r.n≤N
section
variable {A:Nat→Prop} {w w':World} {S P L Bs B M N:Nat} {r:Tryz.Rg} {s s':Tryz.PS} {g g':Nat→Int}
theorem Tryz.PW.ltS (h:PW A w S P L Bs B M N r s g):S<w.heap.size:=h.lt _ h.aS
theorem Tryz.PW.ltM (h:PW A w S P L Bs B M N r s g):M<w.heap.size:=h.lt _ h.aM
theorem Tryz.PW.kept (h:PW A w S P L Bs B M N r s g) (hS:w'.heap[S]? =w.heap[S]?) (hM:w'.heap[M]? =w.heap[M]?) (hk: ∀k,k<w.heap.size→ ¬A k→w'.heap[k]? =w.heap[k]?) (hg: ∀k,(k=P∨k=L∨k=Bs∨k=B)→w'.heap[k]? =w.heap[k]?) (hs:w.heap.size≤w'.heap.size):PW A w' S P L Bs B M N r s g:=by
 obtain ⟨sv,h1,h2⟩:=h.obj
 exact ⟨⟨sv,h1.kept hS,h2.kept hk⟩,h.tk.kept hM hk,h.ne,h.aS,h.aM,h.rg,h.pb,h.mem.kept (fun k _ h=>hg k h) hs,h.hN,h.sd,h.md,h.aB,fun b hb=>Nat.lt_of_lt_of_le (h.lt b hb) hs,h.fit⟩
theorem Tryz.PW.below (h:PW A w S P L Bs B M N r s g) (hb:Below w.heap.size w w'):PW A w' S P L Bs B M N r s g:=
 h.kept (hb.block _ h.ltS) (hb.block _ h.ltM) (fun k hk _=>hb.block k hk) (fun k hk=>by rcases hk with rfl|rfl|rfl|rfl;exact hb.block _ h.mem.pl;exact hb.block _ h.mem.ll;exact hb.block _ h.mem.sl;exact hb.block _ h.mem.bl) hb.size
theorem Tryz.PW.kA (h:PW A w S P L Bs B M N r s g) (hm:Dw.Mv (sK S M B) w w'): ∀k,k<w.heap.size→ ¬A k→w'.heap[k]? =w.heap[k]? :=fun k hk ha=>
 hm.block k hk fun hh=>ha (by rcases hh with rfl|rfl|rfl;exact h.aS;exact h.aM;exact h.aB)
theorem Tryz.PW.next (h:PW A w S P L Bs B M N r s g) (hm:Dw.Mv (sK S M B) w w') (hg:GM w' P L Bs B N g') (ho: ∃sv,Own w' S (s'.row r P M sv)∧SegV A w' sv s'.sg) (ht:PtW A w' M r.n s'.tk) (hb:PB r s'):PW A w' S P L Bs B M N r s' g':=
 ⟨ho,ht,h.ne,h.aS,h.aM,h.rg,hb,hg,h.hN,h.sd,h.md,h.aB,fun b hb=>Nat.lt_of_lt_of_le (h.lt b hb) hm.size,h.fit⟩
theorem Tryz.PW.mine (h:PW A w S P L Bs B M N r s g): ∀b,b=P∨b=L∨b=Bs∨b=B→ ¬Mine (jOf [(S,0),(M,0)]) b:=fun b hb hm=>by
 obtain ⟨n,L',h1,_,h3⟩:=hm
 match n,h1 with
 | 0,h1=>cases h1
 | 1,h1=>cases h1;subst h3;rcases hb with e|e|e|e;exact h.sd.1 e;exact h.sd.2.1 e;exact h.sd.2.2.1 e;exact h.sd.2.2.2 e
 | 2,h1=>cases h1;subst h3;rcases hb with e|e|e|e;exact h.md.1 e;exact h.md.2.1 e;exact h.md.2.2.1 e;exact h.md.2.2.2 e
 | n+3,h1=>cases h1
theorem Tryz.PW.apart (h:PW A w S P L Bs B M N r s g) {row:List AV} {kn:List (AV×Option AV)}:apart [(S,0),(M,0)] [.own row,.mapx kn]:=
 ⟨fun _ i b' s' h1 _ _=>(by
  match i,h1 with
  | 0,h1=>cases h1;exact h.ne
  | i+1,h1=>cases h1),⟨fun _ i b' s' h1 _ _=>(by cases h1),trivial⟩⟩
theorem Tryz.PW.kold (h:PW A w S P L Bs B M N r s g): ∀b,sK S M B b→b<w.heap.size:=fun b hb=>by
 rcases hb with rfl|rfl|rfl
 ·exact h.lt _ h.aS
 ·exact h.lt _ h.aM
 ·exact h.lt _ h.aB
theorem Tryz.PW.kmem (h:PW A w S P L Bs B M N r s g): ∀k,(k=P∨k=L∨k=Bs∨k=B)→ ¬(k=S∨k=M):=fun k hk hh=>by
 rcases hh with rfl|rfl
 ·rcases hk with e|e|e|e;exact h.sd.1 e;exact h.sd.2.1 e;exact h.sd.2.2.1 e;exact h.sd.2.2.2 e
 ·rcases hk with e|e|e|e;exact h.md.1 e;exact h.md.2.1 e;exact h.md.2.2.1 e;exact h.md.2.2.2 e
end
theorem Tryz.PgOk.nums {r:Rg} (h:PgOk r):(1≤r.n∧r.n≤32768)∧(0≤r.d∧r.d<18446744073709551616)∧(0≤r.v∧r.v<18446744073709551616)∧(0≤r.c∧r.c<18446744073709551616):=by
 have h1:=h.bnd
 have h2:=h.d
 have h3:=h.v
 have h4:=h.c
 omega
structure Tryz.PDen (ρ:Val) (r:Rg) (s:PS) (p sv:Value):Prop where
 n:(szv 0).den ρ=r.n
 d:(u64v 1).den ρ=r.d
 v:(u64v 2).den ρ=r.v
 c:(u64v 3).den ρ=r.c
 nx:(lnv 4).den ρ=s.nx
 us:(lnv 5).den ρ=s.us
 op:ρ.i 6=s.op
 hd:(u16v 7).den ρ=s.hd
 wr:(u32v 8).den ρ=s.wr
 ou:(lnv 9).den ρ=s.ou
 b0:ρ.b 0=s.ev
 b1:ρ.b 1=s.tb
 b2:ρ.b 2=s.nw
 b3:ρ.b 3=s.nn
 b4:ρ.b 4=s.it
 b5:ρ.b 5=s.dn
 b6:ρ.b 6=s.uw
 p:ρ.v 0=p
 sv:ρ.v 1=sv
def Tryz.prho (r:Rg) (s:PS) (xs:List Int) (bs:List Bool) (p sv x2:Value):Val:=vof (r.n::r.d::r.v::r.c::s.nx::s.us::s.op::s.hd::s.wr::s.ou::xs) (s.ev::s.tb::s.nw::s.nn::s.it::s.dn::s.uw::bs) [p,sv,x2]
theorem Tryz.zbd {n:Int}: ∀ {tk:List (Int×PTk)},(∀e∈tk,(0≤e.1∧e.1<n)∧1≤e.2.ct∧e.2.ct≤n)→0≤zeB tk
 | [], _=>Int.le_refl 0
 | e::t,h=>by
  have h1:=h e (List.mem_cons_self ..)
  have h2:=zbd (tk:=t) fun x hx=>h x (List.mem_cons_of_mem _ hx)
  show 0≤e.2.ct+zeB t
  omega
theorem Tryz.zbc {r:Rg} {s:PS} (hr:PgOk r) (hb:PB r s) (ho:0≤s.ou) (xs:List Int) (bs:List Bool) (p sv x2:Value):PDen (prho r s xs bs p sv x2) r s p sv:=by
 obtain ⟨⟨n1,n2⟩,⟨d1,d2⟩,⟨v1,v2⟩,c1,c2⟩:=hr.nums
 have h1:=hb.nx
 have h2:=hb.us
 have h3:=hb.ou
 exact ⟨zdo n1 n2,zaJ d1 d2,zaJ v1 v2,zaJ c1 c2,zaw h1.1 (by show s.nx<_;omega),zaw h2.1 (by show s.us<_;omega),rfl,zbq hb.hd.1 hb.hd.2,zbw hb.wr.1 hb.wr.2,zaw ho (by show s.ou<_;omega),rfl,rfl,rfl,rfl,rfl,rfl,rfl,rfl,rfl⟩
theorem Tryz.zb2 {ρ:Val} {j:J} {r:Rg} {s:PS} {P M:Nat} {sv:Value} {ph:Int} (hd:PDen ρ r s (.pointer (some ⟨P,0,none⟩)) sv) (hb:s.br=false) (hp:(s.ph:Int)=ph) (hsv:sv.oneCell'=true) (hj:j 2=some ⟨M,0,0,none⟩):RL ρ j (prow ph (.lit false)) (s.row r P M sv):=by
 refine zab (zaR hd.p rfl) (zab (zaq rfl) (zab (zac hd.n) (zab (zac hd.d) (zab (zac hd.v) (zab (zac hd.c) (zab (zaq hd.b0) (zab (zaq hd.b1) (zab (zaq rfl) (zab (zac hd.nx) (zab (zaq hd.b2) (zab (zac hd.us) (zab (zaq hd.b6) (zab (zJD hj) (zab (zac hd.ou) (zab (zac ?_)
  (zab (zac hd.op) (zab (zaq hd.b3) (zab (zac hd.hd) (zab (zaR hd.sv hsv) (zab (zac hd.wr) (zab (zaq hd.b4) (zab (zaq hd.b5) (zab (zaq ?_) RL.nil)))))))))))))))))))))))
 ·exact hp.symm
 ·exact hb.symm
theorem Tryz.zcc {A:Nat→Prop} {w:World} {M:Nat} {n:Int} {tk:List (Int×PTk)} {ρ:Val} {j:J} {K:Nat→Prop} {g:Gho} (h:PtW A w M n tk) (hK:K M):ShOk ρ j (cxOf w K g) (M,0) (.mapx []):=by
 obtain ⟨arr,clock,h1,h2,_⟩:=h.map
 exact ⟨hK,rfl,arr,clock,[],h1,h2,rfl,fun _ _ h=>by cases h⟩
section
variable {ρ:Val} {w0:World} {K:Nat→Prop} {P L Bs B N:Nat} {g:Nat→Int} {gs:List (Nat→Int)}
theorem Tryz.zzG {a:SE} {x:Int} (hN:N≤1048576) (hp:ρ.v 0= .pointer (some ⟨P,0,none⟩)) (ha:a.den ρ=x) (h0:0≤x) (hin:x+2≤N) (hx:(u16v 11).den ρ=zap g x.toNat 2):zaO prog ρ w0 K (memG P L Bs B N (g::gs)) (pld2 a):=
  zay (Dw.enters_of (by kernel_rfl)) (by rfl) [.pointer (some ⟨P,0,none⟩),.int .u64 x,.int .i64 2] (.tuple #[.int .u64 (zap g x.toNat 2),.int .i64 0]) (fun j=>zab (zaR hp rfl) (zab (zac ha) (zab (zac rfl) RL.nil)))
    (fun j=>zc5 (zab (zac hx) (zab (zac rfl) RL.nil))) (fun w F q hf=>by
      obtain ⟨_,_,_,_,g',hg,hm⟩:=hf
      cases hg
      exact zAK hm hN (k:=2) (.inr (.inl rfl)) h0 hin)
theorem Tryz.zm9 {a:SE} {x:Int} (hN:N≤1048576) (hp:ρ.v 0= .pointer (some ⟨P,0,none⟩)) (ha:a.den ρ=x) (h0:0≤x) (hin:x+4≤N) (hx:(u32v 11).den ρ=zap g x.toNat 4):zaO prog ρ w0 K (memG P L Bs B N (g::gs)) (pld4 a):=
  zay (Dw.enters_of (by kernel_rfl)) (by rfl) [.pointer (some ⟨P,0,none⟩),.int .u64 x,.int .i64 4] (.tuple #[.int .u64 (zap g x.toNat 4),.int .i64 0]) (fun j=>zab (zaR hp rfl) (zab (zac ha) (zab (zac rfl) RL.nil)))
    (fun j=>zc5 (zab (zac hx) (zab (zac rfl) RL.nil))) (fun w F q hf=>by
      obtain ⟨_,_,_,_,g',hg,hm⟩:=hf
      cases hg
      exact zAK hm hN (k:=4) (.inr (.inr (.inl rfl))) h0 hin)
theorem Tryz.zy7 {a v:SE} {x y:Int} {k:Nat} (hN:N≤1048576) (hp:ρ.v 0= .pointer (some ⟨P,0,none⟩)) (ha:a.den ρ=x) (h0:0≤x) (hk:k=1∨k=2∨k=4∨k=8) (hin:x+k≤N) (hv:v.den ρ=y) (hK:K B):
    zaO prog ρ w0 K (memG P L Bs B N [g,putW g x.toNat k y]) (pst a k v):=
  zq8 (Dw.enters_of (by kernel_rfl)) (by rfl) [.pointer (some ⟨P,0,none⟩),.int .u64 x,.int .i64 k,.int .u64 y] (.int .i64 0) (fun j=>zab (zaR hp rfl) (zab (zac ha) (zab (zac rfl) (zab (zac hv) RL.nil))))
    (fun j=>zac rfl) (fun w F q hf=>by
      obtain ⟨h1,h2,h3,h4,g',hg,hm⟩:=hf
      cases hg
      exact Calls.mono (ztv hm hN hk y h0 hin) fun e w' ⟨e1,e2,e3⟩=>⟨e1,⟨h1,h2,h3,h4,_,rfl,e2⟩,e3.mono fun b hb=>hb▸⟨h4,hK⟩⟩)
end
theorem Tryz.zgZ {ρ:Val} {i:Nat} {k x:Int} (hd:(u64v 1).den ρ=4096) (hx:(lnv i).den ρ=x) (h0:0≤x∧x<16) (hk:0≤k∧k<16):(dplc i k).den ρ=4096+16*x+k:=by
 unfold dplc
 have e1:IntKind.wrap .u64 (16*x)=16*x:=zbC (by omega) (by omega)
 have e2:IntKind.wrap .u64 (4096+16*x)=4096+16*x:=zbC (by omega) (by omega)
 rw [den_add,den_add,den_mul,zad,zad,hd,hx,e1,e2,zbC (by omega) (by omega)]
end Go.Proofs
namespace Go.Proofs
open Go.Dw Go.RowKit
def Tryz.pdes:AV:= .agg [.int .u64 (u64v 10),.int .u32 (u32v 11),.int .u16 (u16v 12),.int .u16 (u16v 13)]
def Tryz.prdE (q:Nat):Ent:=⟨17,[.cst 0 none,.int .u64 (.bin .add .u64 (u64v 1) (.bin .mul .u64 (.lit 16) (lnv 4))),.int .i64 (.lit 16)],0,q,1,.tup [.opq q none,.int .i64 (.lit 0)],1⟩
def Tryz.pdsE (q:Nat):Ent:=⟨169,[.opq q none],1,0,0,.tup [pdes,.int .i64 (.lit 0)],1⟩
def Tryz.zEQ:List AV:= [.int .u64 (u64v 10),.int .u32 (u32v 11),.bool (.cmp .neq (.flds [⟨13,0,65535,1,1,1⟩] 0) (.lit 0))]
def Tryz.zCL (q:Nat):AEnt:=⟨40,.cst 1 none,1,zEQ,1,q,1,.opq q none,2⟩
def Tryz.pwiE (q:Nat):Ent:=⟨170,[.cst 0 none,.int .u64 (u64v 10),.int .u32 (u32v 11)],1,q,1,.tup [.opq q none,.int .i64 (.var 17)],3⟩
def Tryz.ptg (k:Nat):SE:= .flds [⟨13,0,65535,k,1,k⟩] 0
def Tryz.ziU:List (Nat×AV):= [(0,.cst 0 none),(1,.int .u64 (u64v 1)),(6,.cst 1 none),(7,.int .i64 (.var 17)),(21,.int .i64 (lnv 5)),(22,.int .i64 (lnv 4))]
def Tryz.zdZ:List (Nat×AV):= [(0,.cst 0 none),(3,.bool (.var 0)),(5,.ptr 1 0),(6,.ptr 2 0),(8,.ptr 3 0),(9,.int .i64 (.lit 0))]
def Tryz.znc:List Sh:= [.own [.bool (.lit true),.int .i64 (szv 0),.int .u64 (u64v 1),.int .u64 (u64v 2),.int .u64 (u64v 3)],.own [.int .i64 (lnv 4),.bool (.var 1)],.own [.int .i64 (u16v 6),.int .i64 (lnv 5),.cst 1 none]]
def Tryz.pg1E:Ent:=⟨123,[.agg [.int .i64 (lnv 4),.bool (.var 1)],.int .i64 (.lit 1),.int .i64 (szv 0)],1,0,0,.tup [.agg [.int .i64 (lnv 15),.bool (.var 8)],.int .i64 (.lit 0)],1⟩
end Go.Proofs
namespace Go.Proofs
open Go.Dw
def Tryz.zvE:List Ent:= []
def Tryz.zBd:List Sh:= [.ro (zkB 20 16)]
def Tryz.zvF:List AV:= [sl16]
def Tryz.zHR:List (SB×Bool):= []
def Tryz.zFm:List Leaf:= [
 ⟨.tup [.agg [.int .u64 (.flds [⟨20,0,255,0,8,0⟩,⟨21,0,255,0,8,8⟩,⟨22,0,255,0,8,16⟩,⟨23,0,255,0,8,24⟩,⟨24,0,255,0,8,32⟩,⟨25,0,255,0,8,40⟩,⟨26,0,255,0,8,48⟩,⟨27,0,255,0,8,56⟩] 0),.int .u32 (.flds [⟨28,0,255,0,8,0⟩,⟨29,0,255,0,8,8⟩,⟨30,0,255,0,8,16⟩,⟨31,0,255,0,8,24⟩] 0),.int .u16 (.flds [⟨32,0,255,0,8,0⟩,⟨33,0,255,0,8,8⟩] 0),.int .u16 (.flds [⟨34,0,255,0,8,0⟩,⟨35,0,255,0,8,8⟩] 0)],.int .i64 (.lit 0)],[],[],0,[]⟩]
def Tryz.zJt:List (List (SB×Bool)×Nat):= [
 ([], 0)]
theorem Tryz.zHQ:(ev prog (zau zvE) 100000 (.call 169 zvF (zas 0 zBd) (zaM zFm 0))).ways zHR=some zJt:=by kernel_rfl
theorem Tryz.zJu:(zah zBd&&zaf zvE&&AV.smallL zvF&&zam zFm)=true:=by kernel_rfl
def Tryz.ztq:List Ent:= []
def Tryz.zxV:List Sh:= []
def Tryz.ziS:List (Nat×AV):=ziU
def Tryz.zn4:List LEnt:= []
def Tryz.zn5:List AEnt:= []
def Tryz.zxW:Option AV:=none
def Tryz.zFG:List (SB×Bool):= [(.cmp .lss (lnv 4) (lnv 5),false)]
def Tryz.zEe:List zbg:= [
 ⟨(.exit 0),[6,7],none,⟨.tup [.cst 1 none,.int .i64 (.var 17)],[],[],0,[]⟩⟩]
def Tryz.zEd:List (List (SB×Bool)×Nat):= [
 ([], 0)]
theorem Tryz.zFF:(evL prog (zau ztq) (zaD zn4) (zaC zn5) 100000 (.code (zaI prog [0,0,1,0,1,1,170]) [0,0,1,0,1,1,170] 57 (envS 57 ziS zxW) (zas 0 zxV) (zaH zEe 0))).ways zFG=some zEd:=by kernel_rfl
theorem Tryz.zIn:(zah zxV&&zaf ztq&&zak zn4&&zal zn5&&zan ziS&&zai zEe&&zaG 57 ziS&&Nat.ble 57 zaL&&zaB zxW)=true:=by kernel_rfl
def Tryz.ztr:List Ent:= [prdE 1,pdsE 1]
def Tryz.zxX:List Sh:= []
def Tryz.ziT:List (Nat×AV):=ziU
def Tryz.zn6:List LEnt:= []
def Tryz.zn7:List AEnt:= []
def Tryz.zxY:Option AV:=none
def Tryz.zFI:List (SB×Bool):= [(.cmp .lss (lnv 4) (lnv 5),true),(.cmp .neq (ptg 2) (.lit 0),true)]
def Tryz.zEg:List zbg:= [
 ⟨.ret,[6,7],none,⟨.tup [.nils,.int .i64 (.lit 4)],[],[],1,[]⟩⟩]
def Tryz.zEf:List (List (SB×Bool)×Nat):= [
 ([], 0)]
theorem Tryz.zFH:(evL prog (zau ztr) (zaD zn6) (zaC zn7) 100000 (.code (zaI prog [0,0,1,0,1,1,170]) [0,0,1,0,1,1,170] 57 (envS 57 ziT zxY) (zas 0 zxX) (zaH zEg 0))).ways zFI=some zEf:=by kernel_rfl
theorem Tryz.zIo:(zah zxX&&zaf ztr&&zak zn6&&zal zn7&&zan ziT&&zai zEg&&zaG 57 ziT&&Nat.ble 57 zaL&&zaB zxY)=true:=by kernel_rfl
def Tryz.ztp:List Ent:= [prdE 1,pdsE 1]
def Tryz.zxT:List Sh:= []
def Tryz.ziR:List (Nat×AV):=ziU
def Tryz.zn2:List LEnt:= []
def Tryz.zn3:List AEnt:= [zCL 5]
def Tryz.zxU:Option AV:=none
def Tryz.zFE:List (SB×Bool):= [(.cmp .lss (lnv 4) (lnv 5),true),(.cmp .neq (ptg 2) (.lit 0),false)]
def Tryz.zEc:List zbg:= [
 ⟨.normal,[0,1,6,7,21,22],none,⟨.tup [.cst 0 none,.int .u64 (u64v 1),.opq 5 none,.int .i64 (.var 17),.int .i64 (lnv 5),.int .i64 (.bin .add .i64 (lnv 4) (.lit 1))],[],[],2,[]⟩⟩]
def Tryz.zEb:List (List (SB×Bool)×Nat):= [
 ([], 0)]
theorem Tryz.zFD:(evL prog (zau ztp) (zaD zn2) (zaC zn3) 100000 (.code (zaI prog [0,0,1,0,1,1,170]) [0,0,1,0,1,1,170] 57 (envS 57 ziR zxU) (zas 0 zxT) (zaH zEc 0))).ways zFE=some zEb:=by kernel_rfl
theorem Tryz.zIm:(zah zxT&&zaf ztp&&zak zn2&&zal zn3&&zan ziR&&zai zEc&&zaG 57 ziR&&Nat.ble 57 zaL&&zaB zxU)=true:=by kernel_rfl
def Tryz.zuT:List Ent:= []
def Tryz.zz2:List Sh:=znc
def Tryz.zjK:List (Nat×AV):=zdZ
def Tryz.zpS:List LEnt:= []
def Tryz.zpT:List AEnt:= []
def Tryz.zz3:Option AV:=none
def Tryz.zG2:List (SB×Bool):= [(.cmp .lss (lnv 5) (szv 0),false)]
def Tryz.zE1:List zbg:= [
 ⟨(.exit 0),[0,3,5,6,8,9],none,⟨.tup [.cst 0 none,.bool (.var 0),.ptr 1 0,.ptr 2 0,.ptr 3 0,.int .i64 (.lit 0)],[(1,[.bool (.lit true),.int .i64 (szv 0),.int .u64 (u64v 1),.int .u64 (u64v 2),.int .u64 (u64v 3)]),(2,[.int .i64 (lnv 4),.bool (.var 1)]),(3,[.int .i64 (u16v 6),.int .i64 (lnv 5),.cst 1 none])],[],0,[1,2,3]⟩⟩]
def Tryz.zE0:List (List (SB×Bool)×Nat):= [
 ([], 0)]
theorem Tryz.zG1:(evL prog (zau zuT) (zaD zpS) (zaC zpT) 100000 (.code (zaI prog [0,0,0,1,155]) [0,0,0,1,155] 102 (envS 102 zjK zz3) (zas 0 zz2) (zaH zE1 0))).ways zG2=some zE0:=by kernel_rfl
theorem Tryz.zI3:(zah zz2&&zaf zuT&&zak zpS&&zal zpT&&zan zjK&&zai zE1&&zaG 102 zjK&&Nat.ble 102 zaL&&zaB zz3)=true:=by kernel_rfl
def Tryz.zl3:List Ent:= [prdE 4,pdsE 4,pg1E]
def Tryz.zpM:List Sh:=znc
def Tryz.zfP:List (Nat×AV):=zdZ
def Tryz.zjG:List LEnt:= []
def Tryz.zjH:List AEnt:= []
def Tryz.zpN:Option AV:=none
def Tryz.zzX:List (SB×Bool):= [(.cmp .lss (lnv 5) (szv 0),true),(.cmp .neq (ptg 2) (.lit 0),true),(.var 0,false)]
def Tryz.zuQ:List zbg:= [
 ⟨.ret,[8,9],none,⟨.tup [.ptr 3 0,.int .i64 (.lit 4)],[(1,[.bool (.lit true),.int .i64 (szv 0),.int .u64 (u64v 1),.int .u64 (u64v 2),.int .u64 (u64v 3)]),(2,[.int .i64 (lnv 15),.bool (.var 8)]),(3,[.int .i64 (u16v 12),.int .i64 (.bin .add .i64 (lnv 5) (.lit 1)),.cst 1 none])],[],1,[1,2,3]⟩⟩]
def Tryz.zuP:List (List (SB×Bool)×Nat):= [
 ([], 0)]
theorem Tryz.zzW:(evL prog (zau zl3) (zaD zjG) (zaC zjH) 100000 (.code (zaI prog [0,0,0,1,155]) [0,0,0,1,155] 102 (envS 102 zfP zpN) (zas 0 zpM) (zaH zuQ 0))).ways zzX=some zuP:=by kernel_rfl
theorem Tryz.zDg:(zah zpM&&zaf zl3&&zak zjG&&zal zjH&&zan zfP&&zai zuQ&&zaG 102 zfP&&Nat.ble 102 zaL&&zaB zpN)=true:=by kernel_rfl
def Tryz.zl2:List Ent:= [prdE 4,pdsE 4,pg1E]
def Tryz.zpK:List Sh:=znc
def Tryz.zfO:List (Nat×AV):=zdZ
def Tryz.zjE:List LEnt:= []
def Tryz.zjF:List AEnt:= []
def Tryz.zpL:Option AV:=none
def Tryz.zzV:List (SB×Bool):= [(.cmp .lss (lnv 5) (szv 0),true),(.cmp .neq (ptg 2) (.lit 0),true),(.var 0,true),(.cmp .gtr (.bin .add .i64 (lnv 5) (.lit 1)) (.lit 1),true)]
def Tryz.zuO:List zbg:= [
 ⟨.ret,[8,9],none,⟨.tup [.ptr 3 0,.int .i64 (.lit 4)],[(1,[.bool (.lit true),.int .i64 (szv 0),.int .u64 (u64v 1),.int .u64 (u64v 2),.int .u64 (u64v 3)]),(2,[.int .i64 (lnv 15),.bool (.var 8)]),(3,[.int .i64 (u16v 12),.int .i64 (.bin .add .i64 (lnv 5) (.lit 1)),.cst 1 none])],[],1,[1,2,3]⟩⟩]
def Tryz.zuN:List (List (SB×Bool)×Nat):= [
 ([], 0)]
theorem Tryz.zzU:(evL prog (zau zl2) (zaD zjE) (zaC zjF) 100000 (.code (zaI prog [0,0,0,1,155]) [0,0,0,1,155] 102 (envS 102 zfO zpL) (zas 0 zpK) (zaH zuO 0))).ways zzV=some zuN:=by kernel_rfl
theorem Tryz.zDf:(zah zpK&&zaf zl2&&zak zjE&&zal zjF&&zan zfO&&zai zuO&&zaG 102 zfO&&Nat.ble 102 zaL&&zaB zpL)=true:=by kernel_rfl
def Tryz.zl1:List Ent:= [prdE 4,pdsE 4,pg1E]
def Tryz.zpI:List Sh:=znc
def Tryz.zfN:List (Nat×AV):=zdZ
def Tryz.zjC:List LEnt:= []
def Tryz.zjD:List AEnt:= []
def Tryz.zpJ:Option AV:=none
def Tryz.zzT:List (SB×Bool):= [(.cmp .lss (lnv 5) (szv 0),true),(.cmp .neq (ptg 2) (.lit 0),true),(.var 0,true),(.cmp .gtr (.bin .add .i64 (lnv 5) (.lit 1)) (.lit 1),false),(.cmp .neq (ptg 0) (.lit 0),true)]
def Tryz.zuM:List zbg:= [
 ⟨.ret,[8,9],none,⟨.tup [.ptr 3 0,.int .i64 (.lit 4)],[(1,[.bool (.lit true),.int .i64 (szv 0),.int .u64 (u64v 1),.int .u64 (u64v 2),.int .u64 (u64v 3)]),(2,[.int .i64 (lnv 15),.bool (.var 8)]),(3,[.int .i64 (u16v 12),.int .i64 (.bin .add .i64 (lnv 5) (.lit 1)),.cst 1 none])],[],1,[1,2,3]⟩⟩]
def Tryz.zuL:List (List (SB×Bool)×Nat):= [
 ([], 0)]
theorem Tryz.zzS:(evL prog (zau zl1) (zaD zjC) (zaC zjD) 100000 (.code (zaI prog [0,0,0,1,155]) [0,0,0,1,155] 102 (envS 102 zfN zpJ) (zas 0 zpI) (zaH zuM 0))).ways zzT=some zuL:=by kernel_rfl
theorem Tryz.zDe:(zah zpI&&zaf zl1&&zak zjC&&zal zjD&&zan zfN&&zai zuM&&zaG 102 zfN&&Nat.ble 102 zaL&&zaB zpJ)=true:=by kernel_rfl
def Tryz.zpH:List Ent:= [prdE 4,pdsE 4,pg1E,pwiE 6]
def Tryz.zuJ:List Sh:=znc
def Tryz.zhj:List (Nat×AV):=zdZ
def Tryz.zlZ:List LEnt:= []
def Tryz.zl0:List AEnt:= []
def Tryz.zuK:Option AV:=none
def Tryz.zDd:List (SB×Bool):= [(.cmp .lss (lnv 5) (szv 0),true),(.cmp .neq (ptg 2) (.lit 0),true),(.var 0,true),(.cmp .gtr (.bin .add .i64 (lnv 5) (.lit 1)) (.lit 1),false),(.cmp .neq (ptg 0) (.lit 0),false)]
def Tryz.zzR:List zbg:= [
 ⟨.ret,[8,9],none,⟨.tup [.ptr 3 0,.int .i64 (.var 17)],[(1,[.bool (.lit true),.int .i64 (szv 0),.int .u64 (u64v 1),.int .u64 (u64v 2),.int .u64 (u64v 3)]),(2,[.int .i64 (lnv 15),.bool (.var 8)]),(3,[.int .i64 (u16v 12),.int .i64 (.bin .add .i64 (lnv 5) (.lit 1)),.opq 6 none])],[],3,[1,2,3]⟩⟩]
def Tryz.zzQ:List (List (SB×Bool)×Nat):= [
 ([], 0)]
theorem Tryz.zDc:(evL prog (zau zpH) (zaD zlZ) (zaC zl0) 100000 (.code (zaI prog [0,0,0,1,155]) [0,0,0,1,155] 102 (envS 102 zhj zuK) (zas 0 zuJ) (zaH zzR 0))).ways zDd=some zzQ:=by kernel_rfl
theorem Tryz.zGW:(zah zuJ&&zaf zpH&&zak zlZ&&zal zl0&&zan zhj&&zai zzR&&zaG 102 zhj&&Nat.ble 102 zaL&&zaB zuK)=true:=by kernel_rfl
def Tryz.zuS:List Ent:= [prdE 4,pdsE 4,pg1E]
def Tryz.zz0:List Sh:=znc
def Tryz.zjJ:List (Nat×AV):=zdZ
def Tryz.zpQ:List LEnt:= []
def Tryz.zpR:List AEnt:= [zCL 8]
def Tryz.zz1:Option AV:=none
def Tryz.zG0:List (SB×Bool):= [(.cmp .lss (lnv 5) (szv 0),true),(.cmp .neq (ptg 2) (.lit 0),false),(.cmp .eql (ptg 0) (.lit 0),true)]
def Tryz.zEZ:List zbg:= [
 ⟨.ret,[8,9],none,⟨.tup [.ptr 3 0,.int .i64 (.lit 0)],[(1,[.bool (.lit true),.int .i64 (szv 0),.int .u64 (u64v 1),.int .u64 (u64v 2),.int .u64 (u64v 3)]),(2,[.int .i64 (lnv 15),.bool (.var 8)]),(3,[.int .i64 (u16v 12),.int .i64 (.bin .add .i64 (lnv 5) (.lit 1)),.opq 8 none])],[],2,[1,2,3]⟩⟩]
def Tryz.zEY:List (List (SB×Bool)×Nat):= [
 ([], 0)]
theorem Tryz.zGZ:(evL prog (zau zuS) (zaD zpQ) (zaC zpR) 100000 (.code (zaI prog [0,0,0,1,155]) [0,0,0,1,155] 102 (envS 102 zjJ zz1) (zas 0 zz0) (zaH zEZ 0))).ways zG0=some zEY:=by kernel_rfl
theorem Tryz.zI2:(zah zz0&&zaf zuS&&zak zpQ&&zal zpR&&zan zjJ&&zai zEZ&&zaG 102 zjJ&&Nat.ble 102 zaL&&zaB zz1)=true:=by kernel_rfl
def Tryz.zuR:List Ent:= [prdE 4,pdsE 4,pg1E]
def Tryz.zzY:List Sh:=znc
def Tryz.zjI:List (Nat×AV):=zdZ
def Tryz.zpO:List LEnt:= []
def Tryz.zpP:List AEnt:= [zCL 8]
def Tryz.zzZ:Option AV:=none
def Tryz.zGY:List (SB×Bool):= [(.cmp .lss (lnv 5) (szv 0),true),(.cmp .neq (ptg 2) (.lit 0),false),(.cmp .eql (ptg 0) (.lit 0),false)]
def Tryz.zEX:List zbg:= [
 ⟨.normal,[0,3,5,6,8,9],none,⟨.tup [.cst 0 none,.bool (.var 0),.ptr 1 0,.ptr 2 0,.ptr 3 0,.int .i64 (.lit 0)],[(1,[.bool (.lit true),.int .i64 (szv 0),.int .u64 (u64v 1),.int .u64 (u64v 2),.int .u64 (u64v 3)]),(2,[.int .i64 (lnv 15),.bool (.var 8)]),(3,[.int .i64 (u16v 12),.int .i64 (.bin .add .i64 (lnv 5) (.lit 1)),.opq 8 none])],[],2,[1,2,3]⟩⟩]
def Tryz.zEW:List (List (SB×Bool)×Nat):= [
 ([], 0)]
theorem Tryz.zGX:(evL prog (zau zuR) (zaD zpO) (zaC zpP) 100000 (.code (zaI prog [0,0,0,1,155]) [0,0,0,1,155] 102 (envS 102 zjI zzZ) (zas 0 zzY) (zaH zEX 0))).ways zGY=some zEW:=by kernel_rfl
theorem Tryz.zI1:(zah zzY&&zaf zuR&&zak zpO&&zal zpP&&zan zjI&&zai zEX&&zaG 102 zjI&&Nat.ble 102 zaL&&zaB zzZ)=true:=by kernel_rfl
def Tryz.zuI:List Ent:= []
def Tryz.zzO:List Sh:= [.own [.int .i64 (u16v 6),.int .i64 (lnv 5),.cst 1 none]]
def Tryz.zgt:List (Nat×AV):= [(8,.ptr 1 0),(9,.int .i64 (.lit 0))]
def Tryz.zpF:List LEnt:= []
def Tryz.zpG:List AEnt:= []
def Tryz.zzP:Option AV:=none
def Tryz.zGV:List (SB×Bool):= []
def Tryz.zEV:List zbg:= [
 ⟨.ret,[8,9],none,⟨.tup [.ptr 1 0,.int .i64 (.lit 4)],[(1,[.int .i64 (u16v 6),.int .i64 (lnv 5),.cst 1 none])],[],0,[1]⟩⟩]
def Tryz.zEU:List (List (SB×Bool)×Nat):= [
 ([], 0)]
theorem Tryz.zGU:(evL prog (zau zuI) (zaD zpF) (zaC zpG) 100000 (.code (zaI prog [1,1,155]) [1,1,155] 102 (envS 102 zgt zzP) (zas 0 zzO) (zaH zEV 0))).ways zGV=some zEU:=by kernel_rfl
theorem Tryz.zI0:(zah zzO&&zaf zuI&&zak zpF&&zal zpG&&zan zgt&&zai zEV&&zaG 102 zgt&&Nat.ble 102 zaL&&zaB zzP)=true:=by kernel_rfl
open Go.RowKit
structure Tryz.WS where
 segs:List Sg
 n:Int
 e:Int
def Tryz.OwnSeg (w:World) (b2:Nat) (v:Value) (l:List Sg):Prop:=w.ownsRow b2 43 3 v l.length (zaP l)
theorem Tryz.OwnSeg.kept {w w':World} {b2:Nat} {v:Value} {l:List Sg} (h:OwnSeg w b2 v l) (hb: ∀b,v.ownBlock=some b→w'.heap[b]? =w.heap[b]?):OwnSeg w' b2 v l:=by
 obtain ⟨h1,h2⟩:=h
 refine ⟨h1,?_⟩
 rcases h2 with h2|⟨G,cap,cur,e,h3,h4,h5⟩
 ·exact .inl h2
 ·exact .inr ⟨G,cap,cur,e,h3,by rw [hb G (by rw [e];rfl)];exact h4,h5⟩
theorem Tryz.OwnSeg.lt {w:World} {b2:Nat} {v:Value} {l:List Sg} (h:OwnSeg w b2 v l): ∀b,v.ownBlock=some b→b2≤b∧b<w.heap.size∧ ∃cur e fr,w.heap[b]? =some (.cells cur e fr):=fun b hb=>by
 obtain ⟨h1,h2⟩:=h
 rcases h2 with ⟨rfl,_⟩|⟨G,cap,cur,rfl,h3,h4,h5⟩
 ·cases hb
 ·cases hb;exact ⟨h3,(Array.getElem?_eq_some_iff.1 h4).1,_,_,_,h4⟩
theorem Tryz.OwnSeg.segV {w:World} {b2:Nat} {v:Value} {l:List Sg} (h:OwnSeg w b2 v l) (hok: ∀x∈l,x.ok) {A:Nat→Prop} (hA: ∀b,b2≤b→ ¬A b):SegV A w v l:=by
 obtain ⟨h1,h2⟩:=h
 rcases h2 with ⟨rfl,h2⟩|⟨G,cap,cur,rfl,h3,h4,h5,h6,h7,h8⟩
 ·have:l= []:=List.length_eq_zero_iff.1 h2
  subst this
  exact SegV.none
 ·refine ⟨_,cap,rfl,hok,.inr ⟨G,0,rfl,hA G h3,fun i y hy=> ?_⟩⟩
  have hlt:i<(zaP l).length:=(List.getElem?_eq_some_iff.1 hy).1
  rw [←h8] at hy
  have hi:i<l.length*3:=by rw [zcQ] at hlt;omega
  rw [List.getElem?_take_of_lt hi] at hy
  simp only [World.cell?,h4,Nat.zero_add]
  simpa using hy
theorem Tryz.OwnSeg.one {w:World} {b2:Nat} {v:Value} {l:List Sg} (h:OwnSeg w b2 v l):v.oneCell'=true:=by
 obtain ⟨h1,h2⟩:=h
 rcases h2 with ⟨rfl,h2⟩|⟨G,cap,cur,rfl,_⟩<;>rfl
structure Tryz.V6 where
 E:Nat
 Mb:Nat
 Nn:Nat
 Tb:Nat
 Fb:Nat
 Lc:Nat
def Tryz.vp (b:Nat):Value:= .pointer (some ⟨b,0,none⟩)
theorem Tryz.zbV: ∀ {bl:List (Nat×Nat)} {l:List Sh},(bl.map (·.1)).Nodup→apart bl l
 | [], _,_=>by unfold apart;trivial
 | b::bl,[],_=>by unfold apart;trivial
 | b::bl,s::l,h=>by
  rw [List.map_cons,List.nodup_cons] at h
  refine ⟨fun _ i b' s' h1 _ _ e=>h.1 (e▸List.mem_map_of_mem (List.mem_of_getElem? h1)),zbV h.2⟩
def Tryz.fwOwn (b2:Nat) (v:Value) (l:List Sg) (F:Nat→Prop) (w:World):Prop:=OwnSeg w b2 v l∧ ∀b,v.ownBlock=some b→F b
theorem Tryz.fwOwn.kept {b2:Nat} {v:Value} {l:List Sg} {F:Nat→Prop} {w w':World} (h:fwOwn b2 v l F w) (hb: ∀b,F b→w'.heap[b]? =w.heap[b]?):fwOwn b2 v l F w':=⟨h.1.kept fun b e=>hb b (h.2 b e),h.2⟩
theorem Tryz.zb5 {j:J} {n:Nat} {u:Value}:opqs (jq j n [u]) n=some u:=by
 unfold opqs jq
 rw [if_pos ⟨Nat.le_refl _,by simp⟩]
 simp
section
variable {ρ:Val} {P L Bs B N:Nat} {at0 size k e n A Ln F Nx cnt x rerr e3 n3:Int} {inner table:Bool} {v:Value} {g:Nat→Int} {b2 W0:Nat} {l l3:List Tryz.Sg} {a:Nat} {w0:World} {K:Nat→Prop}
theorem Tryz.zA1:(prog.info? 43).map (fun i=>(i.zero,i.size,i.bytes))=some (some (.agg #[.int .u64 0,.int .u32 0,.bool false]),3,16):=by kernel_rfl
end
end Go.Proofs
namespace Go.Proofs
open Go.Dw Go.RowKit
def Tryz.zG7 (g:Nat→Int) (a:Nat):Value:= .agg #[.int .u64 (zap g a 8),.int .u32 (zap g (a+8) 4),.int .u16 (zap g (a+12) 2),.int .u16 (zap g (a+14) 2)]
theorem Tryz.zkS {g:Nat→Int} (hg: ∀j,0≤g j∧g j<256) (a X o c:Nat) (w:World) (h:w.rangeAt X o (row g a 16)):
  Calls prog 169 #[.slice (some ⟨X,o,none⟩) 16 c] w fun e w'=>e= .returned (.tuple #[zG7 g a,.int .i64 0])∧Below w.heap.size w w':=by
 have hr: ∀k i b,(∀t,t<k→20≤i+t∧b+t=a+(i+t-20))→ ∀t,t<k→(brho g a (.slice (some ⟨X,o,none⟩) 16 c)).i (i+t)=g (b+t):=fun k i b hh t ht=>by
  obtain ⟨h1,h2⟩:=hh t ht
  show g (a+(i+t-20))=_
  rw [h2]
 have hsx:Dw.R (brho g a (.slice (some ⟨X,o,none⟩) 16 c)) (jOf [(X,o)]) sl16 (.slice (some ⟨X,o,none⟩) 16 c):=⟨rfl,_,_,_,rfl,rfl,⟨X,o,_,0,rfl,rfl,rfl,rfl,by decide,rfl⟩,trivial⟩
 refine Calls.mono (zaF (ρ:=brho g a (.slice (some ⟨X,o,none⟩) 16 c)) (K:=fun _=>False) (g:=Gho.none) (bl:= [(X,o)]) (vals:= [.slice (some ⟨X,o,none⟩) 16 c]) mixed zHQ zJu (fun b h=>h.elim)
  ⟨zaX h (by unfold row;simp) (zmR hg 16 20 a (hr 16 20 a fun t _=>⟨by omega,by omega⟩)) (fun h=>h),trivial⟩ ⟨fun h=>(by cases h),trivial⟩ zaK trivial (zab hsx RL.nil) (zae.2 trivial)) fun e w' hh=> ?_
 obtain ⟨_,j,he⟩:=zcg hh
 refine ⟨he.ret.trans ?_,zar he (fun _ h=>h)⟩
 have e1:=zfs hg 8 20 a (hr 8 20 a fun t _=>⟨by omega,by omega⟩)
 have e2:=zfs hg 4 28 (a+8) (hr 4 28 (a+8) fun t _=>⟨by omega,by omega⟩)
 have e3:=zfs hg 2 32 (a+12) (hr 2 32 (a+12) fun t _=>⟨by omega,by omega⟩)
 have e4:=zfs hg 2 34 (a+14) (hr 2 34 (a+14) fun t _=>⟨by omega,by omega⟩)
 simp only [zkA] at e1 e2 e3 e4
 simp only [AV.val,AV.valL,e1,e2,e3,e4,zad]
 rfl
def Tryz.zI4 (g:Nat→Int) (b2 W0:Nat) (v:Value) (l:List Sg) (a:Nat) (l3:List Sg) (q1 q2 q3:Nat) (k:Nat) (q:Nat→Option Value) (F:Nat→Prop) (w:World):Prop:=
 match k with
 | 0=>fwOwn b2 v l F w
 | 1=>fwOwn b2 v l F w∧ ∃R o c,q q1=some (.slice (some ⟨R,o,none⟩) 16 c)∧F R∧w.rangeAt R o (row g a 16)
 | 2=> ∃u,q q2=some u∧fwOwn b2 u (l++ [pSeg g a]) F w∧ ∀b,u.ownBlock=some b→v.ownBlock=some b∨W0≤b
 | _=> ∃u,q q3=some u∧fwOwn b2 u l3 F w∧ ∀b,u.ownBlock=some b→v.ownBlock=some b∨W0≤b
def Tryz.pkG (P L Bs B N:Nat) (g:Nat→Int) (b2 W0:Nat) (v:Value) (l:List Sg) (a:Nat) (l3:List Sg) (q1 q2 q3:Nat):Gho where
 fact k q F w:=(F P∧F L∧F Bs∧F B∧GM w P L Bs B N g)∧zI4 g b2 W0 v l a l3 q1 q2 q3 k q F w
 loc:=fun k q q' F w w' h hq hb hs=>by
  obtain ⟨⟨h1,h2,h3,h4,h5⟩,h6⟩:=h
  refine ⟨⟨h1,h2,h3,h4,h5.kept (fun b _ hb'=>by rcases hb' with rfl|rfl|rfl|rfl<;>exact hb _ (by assumption)) hs⟩,?_⟩
  match k,h6 with
  | 0,h6=>exact fwOwn.kept h6 hb
  | 1,⟨h6,R,o,c,h7,h8,h9⟩=>exact ⟨fwOwn.kept h6 hb,R,o,c,hq _ _ h7,h8,zaN h9 (hb R h8)⟩
  | 2,⟨u,h7,h8,h9⟩=>exact ⟨u,hq _ _ h7,fwOwn.kept h8 hb,h9⟩
  | k+3,⟨u,h7,h8,h9⟩=>exact ⟨u,hq _ _ h7,fwOwn.kept h8 hb,h9⟩
structure Tryz.PkD (ρ:Val) (P:Nat) (n d v c i ct id A Ln Id F nx e:Int) (tb wr nwr:Bool) (sv:Value):Prop where
 dn:(szv 0).den ρ=n
 dd:(u64v 1).den ρ=d
 dv:(u64v 2).den ρ=v
 dc:(u64v 3).den ρ=c
 di:(lnv 4).den ρ=i
 dct:(lnv 5).den ρ=ct
 did:(u16v 6).den ρ=id
 dA:(u64v 10).den ρ=A
 dLn:(u32v 11).den ρ=Ln
 dId:(u16v 12).den ρ=Id
 dF:(u16v 13).den ρ=F
 dF0:(ptg 0).den ρ=F%2
 dF1:(ptg 1).den ρ=F/2%2*2
 dF2:(ptg 2).den ρ=F/4%2*4
 dnx:(lnv 15).den ρ=nx
 de:ρ.i 17=e
 dtb:ρ.b 0=tb
 dwr:ρ.b 1=wr
 dnwr:ρ.b 8=nwr
 dp:ρ.v 0=vp P
 dsv:ρ.v 1=sv
theorem Tryz.zuU {P:Nat} {n d v c i ct id A Ln Id F nx e:Int} {tb wr nwr:Bool} {sv:Value} (hn:1≤n∧n≤32768) (hd:0≤d∧d<18446744073709551616) (hv:0≤v∧v<18446744073709551616) (hc:0≤c∧c<18446744073709551616) (hi:0≤i∧i<4611686018427387904) (hct:0≤ct∧ct<4611686018427387904) (hid:0≤id∧id<65536)
  (h4:0≤A∧A<18446744073709551616) (h5:0≤Ln∧Ln<4294967296) (h7:0≤Id∧Id<65536) (h6:0≤F∧F<65536) (hx:0≤nx∧nx<4611686018427387904):
  ∃ ρ:Val,PkD ρ P n d v c i ct id A Ln Id F nx e tb wr nwr sv:=by
 have part: ∀k:Nat,SE.den (vof [n,d,v,c,i,ct,id,0,0,0,A,Ln,Id,F,0,nx,0,e] [tb,wr,false,false,false,false,false,false,nwr] [vp P,sv]) (ptg k)=F/((2^k:Nat):Int)%2*((2^k:Nat):Int):=fun k=>zbe (i:=13) h6.1 (by show F≤65535;omega)
 refine ⟨vof [n,d,v,c,i,ct,id,0,0,0,A,Ln,Id,F,0,nx,0,e] [tb,wr,false,false,false,false,false,false,nwr] [vp P,sv],zdo hn.1 hn.2,zaJ hd.1 hd.2,zaJ hv.1 hv.2,zaJ hc.1 hc.2,zaw hi.1 hi.2,zaw hct.1 hct.2,zbq hid.1 hid.2,zaJ h4.1 h4.2,zbw h5.1 h5.2,zbq h7.1 h7.2,zbq h6.1 h6.2,?_,?_,?_,zaw hx.1 hx.2,rfl,rfl,rfl,rfl,rfl,rfl⟩
 ·rw [part];show F/1%2*1=_;omega
 ·rw [part];rfl
 ·rw [part];rfl
section
variable {ρ:Val} {P L Bs B N:Nat} {n d v c i ct id nx e:Int} {tb wr nwr:Bool} {sv:Value} {g:Nat→Int} {b2 W0:Nat} {l l3:List Tryz.Sg} {a q1 q2 q3:Nat} {w0:World} {K:Nat→Prop}
theorem Tryz.zsc {A Ln Id F:Int} (hd:PkD ρ P n d v c i ct id A Ln Id F nx e tb wr nwr sv) (hi:0≤i∧i<1000000) (hd0:0≤d) (ha:d+16*i=a) (hN:N≤1048576) (hin:a+16≤N):
  zaO prog ρ w0 K (pkG P L Bs B N g b2 W0 sv l a l3 q1 q2 q3) (prdE q1):=by
 refine ⟨Dw.enters_of (by kernel_rfl),fun j w vals F n hv hn hb hF hsz hf _=> ?_⟩
 have hadr:SE.den ρ (.bin .add .u64 (u64v 1) (.bin .mul .u64 (.lit 16) (lnv 4)))=a:=by
  have e1:IntKind.wrap .u64 (16*i)=16*i:=zbC (by omega) (by omega)
  rw [den_add,den_mul,hd.dd,hd.di,zad,e1,zbC (by omega) (by omega)];exact ha
 have hv:=zch (show AV.exactL [.cst 0 none,.int .u64 (.bin .add .u64 (u64v 1) (.bin .mul .u64 (.lit 16) (lnv 4))),.int .i64 (.lit 16)]=true by decide) hv (zab (zaR (ρ:=ρ) (j:=j) hd.dp rfl) (zab (zac hadr) (zab (zac rfl) RL.nil)))
 subst hv
 have hb:n=q1:=hb (by show (1:Nat)≠0;decide)
 subst hb
 obtain ⟨⟨f1,f2,f3,f4,hm⟩,f6⟩:=hf
 have f6:fwOwn b2 sv l F w:=f6
 refine Calls.mono (zGd P L Bs B N a 16 g w hm hN (by omega) hin) fun en w' hh=> ?_
 obtain ⟨u,rfl,⟨_,hrow⟩,hbl⟩:=hh
 rcases hrow with ⟨_,h⟩|⟨G,cap,cur,rfl,h3,h4,h5,h6,h7,h8⟩
 ·cases h
 have hGlt:G<w'.heap.size:=(Array.getElem?_eq_some_iff.1 h4).1
 refine ⟨_,[.slice (some ⟨G,0,none⟩) 16 cap],fun b=>F b∨b=G,rfl,rfl,?_,⟨⟨.inl f1,.inl f2,.inl f3,.inl f4,hm.below hbl⟩,⟨?_,fun b hb=> .inl (f6.2 b hb)⟩,G,0,cap,zb5,.inr rfl,?_⟩,?_,Dw.Mv.of_below hbl⟩
 ·refine zc5 (zab ⟨⟨⟨0,0,0,some _⟩,?_,rfl⟩,rfl,fun _ h=>by cases h⟩ (zab (zac rfl) RL.nil))
  show jq j n _ n=_
  unfold jq
  rw [if_pos ⟨Nat.le_refl _,by simp⟩]
  simp
 ·exact f6.1.kept fun b hb=>hbl.block b (f6.1.lt b hb).2.1
 ·intro i y hy
  rw [←h8] at hy
  have hlt:i<16:=by
   have:=(List.getElem?_eq_some_iff.1 hy).1
   rw [List.length_take] at this
   omega
  rw [List.getElem?_take_of_lt (by omega)] at hy
  simp only [World.cell?,h4,Nat.zero_add]
  simpa using hy
 ·rintro b (hb|rfl)
  ·exact ⟨Nat.lt_of_lt_of_le (hF b hb) hbl.size,.inl hb⟩
  ·exact ⟨hGlt,.inr h3⟩
theorem Tryz.zsy (hd:PkD ρ P n d v c i ct id (zap g a 8) (zap g (a+8) 4) (zap g (a+12) 2) (zap g (a+14) 2) nx e tb wr nwr sv) (hg: ∀j,0≤g j∧g j<256):
  zaO prog ρ w0 K (pkG P L Bs B N g b2 W0 sv l a l3 q1 q2 q3) (pdsE q1):=
 zgW (Dw.enters_of (by kernel_rfl)) fun j w vals F hv hf=>by
  obtain ⟨_,_,R,o,c,hq,_,hr⟩:=hf
  obtain ⟨u,m,rfl,⟨⟨Lq,hj,hu⟩,_⟩,hm⟩:=hv
  have hm:m= []:=hm
  subst hm
  have hu:u= .slice (some ⟨R,o,none⟩) 16 c:=by
   unfold opqs at hq
   rw [hj] at hq
   simp only [Option.bind_some] at hq
   rw [hu] at hq
   exact Option.some.inj hq
  subst hu
  refine Calls.mono (zkS hg a R o c w hr) fun en w' hh=>⟨_,hh.1,?_,hh.2⟩
  exact zc5 (zab (zbj (zab (zac hd.dA) (zab (zac hd.dLn) (zab (zac hd.dId) (zab (zac hd.dF) RL.nil))))) (zab (zac rfl) RL.nil))
theorem Tryz.zG6 {A Ln Id F:Int} {G:Gho} (hd:PkD ρ P n d v c i ct id A Ln Id F (zaW n i wr 1).1 e tb wr (zaW n i wr 1).2 sv) (hn:1≤n∧n≤32768) (hi:0≤i∧i<n):zaO prog ρ w0 K G pg1E:=
 zay (Dw.enters_of (by kernel_rfl)) (by rfl) [posV i wr,.int .i64 1,.int .i64 n] (.tuple #[posV (zaW n i wr 1).1 (zaW n i wr 1).2,.int .i64 0]) (fun j=>zab (zbj (zab (zac hd.di) (zab (zaq hd.dwr) RL.nil))) (zab (zac rfl) (zab (zac hd.dn) RL.nil)))
  (fun j=>zc5 (zab (zbj (zab (zac hd.dnx) (zab (zaq hd.dnwr) RL.nil))) (zab (zac rfl) RL.nil))) (fun w F q hf=>zmy hn hi ⟨by decide,by omega⟩ w)
set_option maxRecDepth 10000 in
theorem Tryz.zm8 {Id:Int} (hd:PkD ρ P n d v c i ct id (zap g a 8) (zap g (a+8) 4) Id (zap g (a+14) 2) nx e tb wr nwr sv) (hlo:P<b2∧L<b2∧Bs<b2∧B<b2) (hW:W0=w0.heap.size) (hb2:b2≤W0) (hK: ∀b,sv.ownBlock=some b→K b) (hl:l.length≤1000000):
    zIl prog ρ w0 K (pkG P L Bs B N g b2 W0 sv l a l3 q1 q2 q3) (zCL q2):=by
  intro j w F n us bb o cap vals ty hus hcells hxs hnone hbase hF hsz hf
  have hb:n=q2:=hbase (by show (1:Nat)≠0;decide)
  subst hb
  obtain ⟨⟨f1,f2,f3,f4,hm⟩,⟨f5,f6⟩,_⟩:=hf
  have hus:=R_val (by rfl) hus
  have hus:us=sv:=by rw [hus];exact hd.dsv
  subst hus
  have hxs:=zch (show AV.exactL zEQ=true by decide) hxs (zab (zac hd.dA) (zab (zac hd.dLn) (zab (zaq rfl) RL.nil)))
  have hvals:vals=(pSeg g a).cells:=by
    rw [hxs]
    unfold pSeg Sg.cells
    rw [show SB.den ρ (.cmp .neq (.flds [⟨13,0,65535,1,1,1⟩] 0) (.lit 0))=(zap g (a+14) 2/2%2*2 !=0) from by rw [zcF,show SE.den ρ (.flds [⟨13,0,65535,1,1,1⟩] 0)=_ from hd.dF1,zad]]
  subst hvals
  have hinfo:=zA1
  cases hi:prog.info? 43 with
  | none=>rw [hi] at hinfo;cases hinfo
  | some i=>
  rw [hi] at hinfo
  simp only [Option.map_some,Option.some.injEq,Prod.mk.injEq] at hinfo
  obtain ⟨i1,i2,i3⟩:=hinfo
  obtain ⟨u,w',h1,h2,h3,h4,h5⟩:=run_append_own_at (P:=prog) w b2 40 ty 43 i _ 3 16 (by kernel_rfl) hi i1 i2 i3 rfl (by decide) us l.length (zaP l) f5 ⟨bb,o,none⟩ 1 cap (pSeg g a).cells rfl
    (fun q y hy=>by
      rw [Dw.addr_add]
      exact hcells q y hy) (fun y hy=>by simp only [Sg.cells,List.mem_cons,List.not_mem_nil,or_false] at hy;rcases hy with rfl|rfl|rfl<;>rfl) (by unfold maxLen;omega) (by omega) (by omega)
  have hseg:zaP l++(pSeg g a).cells=zaP (l++ [pSeg g a]):=by simp [zaP]
  have hown:OwnSeg w' b2 u (l++ [pSeg g a]):=by
    unfold OwnSeg
    rw [←hseg,List.length_append]
    exact h2
  have hub:=hown.lt
  have hub1: ∀b,u.ownBlock=some b→us.ownBlock=some b∨w.heap.size≤b:=fun b hb=>by
    rcases h5 with h5|h5
    · exact .inl (h5▸hb)
    · rw [hb] at h5;cases h5;exact .inr (Nat.le_refl _)
  have hmv:Dw.Mv (fun b=>us.ownBlock=some b) w w':=⟨h3.os,h3.tape,h3.output,h3.size,fun b hb hn=>h3.block b hb (fun e=>hn e.symm)⟩
  have hvP: ∀b,us.ownBlock=some b→b≠P∧b≠L∧b≠Bs∧b≠B:=fun b hb=>by
    have:=(f5.lt b hb).1
    omega
  refine ⟨u,w',[u],fun b=>F b∨u.ownBlock=some b,h1,rfl,⟨⟨⟨0,0,0,some u⟩,?_,rfl⟩,hown.one,fun _ h=>(by cases h)⟩,⟨⟨.inl f1,.inl f2,.inl f3,.inl f4,hm.kept (fun b hb hb'=>hmv.block b hb (fun e=>by
      obtain ⟨r1,r2,r3,r4⟩:=hvP b e
      rcases hb' with h|h|h|h<;>contradiction)) hmv.size⟩,u,zb5,⟨hown,fun b hb=> .inr hb⟩,fun b hb=> ?_⟩,?_,hmv.mono fun b hb=>⟨f6 b hb,.inr (hK b hb)⟩⟩
  · show jq j n _ n=_
    unfold jq
    rw [if_pos ⟨Nat.le_refl _,by simp⟩]
    simp
  · rcases hub1 b hb with h|h
    · exact .inl h
    · exact .inr (by omega)
  · rintro b (hb|hb)
    · exact ⟨Nat.lt_of_lt_of_le (hF b hb) hmv.size,.inl hb⟩
    · refine ⟨(hub b hb).2.1,?_⟩
      rcases hub1 b hb with h|h
      · exact .inl (f6 b h)
      · exact .inr h
end
end Go.Proofs
namespace Go.Proofs
open Go.Dw Go.RowKit
theorem Tryz.zx1 (a m:Int) (hm:0<m):((if a.tmod m<0 then a.tmod m+m else a.tmod m)=a%m)∧ -m<a.tmod m∧a.tmod m<m:=by
 rw [Int.tmod_eq_emod]
 have h1:=Int.emod_nonneg a (Int.ne_of_gt hm)
 have h2:=Int.emod_lt_of_pos a hm
 have h3:((m.natAbs:Nat):Int)=m:=Int.natAbs_of_nonneg (Int.le_of_lt hm)
 by_cases h:0≤a∨m ∣ a
 ·rw [if_pos h];simp only [Int.sub_zero,Int.ofNat_zero];refine ⟨?_,?_,?_⟩<;>first|omega|(split<;>omega)
 ·rw [if_neg h,h3]
  have h4:a%m≠0:=fun h0=>h (.inr (Int.dvd_of_emod_eq_zero h0))
  refine ⟨?_,?_,?_⟩<;>first|omega|(split<;>omega)
set_option maxRecDepth 100000 in
theorem Tryz.ziz (a m:Int) (hm:1≤m∧m≤1000000) (w:World):
  Calls prog 7 #[.int .i64 a,.int .i64 m] w fun e w'=>e= .returned (.int .i64 (a%m))∧w'=w:=by
 obtain ⟨hr,hlo,hhi⟩:=zx1 a m (by omega)
 have hq:IntKind.i64.wrap (a.tmod m)=a.tmod m:=zbF (by omega) (by omega)
 have hm0:m≠0:=by omega
 have hm1: ¬m<1:=by omega
 by_cases h0:a.tmod m<0
 ·rw [if_pos h0] at hr
  have hq2:IntKind.i64.wrap (a.tmod m+m)=a.tmod m+m:=zbF (by omega) (by omega)
  rw [←hr]
  go_enter func7,ntmps7
  go_wp2
  go_ret
  exact ⟨rfl,rfl⟩
 ·rw [if_neg h0] at hr
  rw [←hr]
  go_enter func7,ntmps7
  go_wp2
  go_ret
  exact ⟨rfl,rfl⟩
theorem Tryz.zde {bl:List (Nat×Nat)} {b:Nat} (h:Mine (jOf bl) b):b∈bl.map (·.1):=by
 obtain ⟨k,L,h1,_,h3⟩:=h
 match k,h1 with
 | 0,h1=>cases h1
 | k+1,h1=>
  have h1:(bl[k]?).map (fun b=>(⟨b.1,b.2,0,none⟩:Dw.Loc))=some L:=h1
  cases hk:bl[k]? with
  | none=>rw [hk] at h1;cases h1
  | some p=>
   rw [hk] at h1
   cases h1
   exact List.mem_map.2 ⟨p,List.mem_of_getElem? hk,h3⟩
section
variable {w:World} {a:Act} {P L Bs B N:Nat} {g:Nat→Int} {b2:Nat} {x:Tryz.V6} {table:Bool} {v:Value} {s:Tryz.WS} {M:Nat} {at0 size k:Int} {inner:Bool} {seen:List Int} {ρ:Val} {A Ln F Nx cnt xx rerr e3 n3:Int} {l3:List Tryz.Sg} {aa:Nat}
theorem Tryz.zDl {ρ:Val} {j:J} {w:World} {b:Nat} {row:List AV} {vs:List Value} (h:Own w b vs) (hx:AV.exactL row=true) (hr:RL ρ j row vs):Own w b (AV.valL ρ (lcOf j) row):=(RL_val hx hr)▸h
end
end Go.Proofs
namespace Go.Proofs
open Go.Dw Go.RowKit
section
variable {w:World} {a:Act} {P L Bs B N:Nat} {g:Nat→Int} {b2:Nat} {x:Tryz.V6} {table:Bool} {v:Value} {s:Tryz.WS} {M:Nat} {at0 size k:Int} {inner:Bool} {seen:List Int} {f:Nat} {tab:Int→Int→Int→Tryz.WS→Tryz.WS}
theorem Tryz.zd2 {ρ:Val} {j:J} {n:Nat} {u:Value} (hu:opqs j n=some u):(AV.opq n none).val ρ (lcOf j)=u:=by
 unfold opqs at hu
 show (lcOf j n).q.getD undef=u
 unfold lcOf
 cases hj:j n with
 | none=>rw [hj] at hu;cases hu
 | some Lq=>
  rw [hj] at hu
  have hu:Lq.q=some u:=hu
  show Lq.q.getD undef=u
  rw [hu];rfl
end
end Go.Proofs
namespace Go.Proofs
open Go.Dw Go.RowKit
theorem Tryz.OwnSeg.nil (w:World) (b2:Nat):OwnSeg w b2 (.slice none 0 0) []:=⟨rfl,.inl ⟨rfl,rfl⟩⟩
theorem Tryz.OwnSeg.mono {w:World} {b1 b2:Nat} {v:Value} {l:List Sg} (h:OwnSeg w b2 v l) (hb:b1≤b2):OwnSeg w b1 v l:=by
 obtain ⟨h1,h2⟩:=h
 refine ⟨h1,?_⟩
 rcases h2 with h2|⟨G,cap,cur,e,h3,h4⟩
 ·exact .inl h2
 ·exact .inr ⟨G,cap,cur,e,Nat.le_trans hb h3,h4⟩
open Go.Maps Go.Sort
section
variable {A:Nat→Prop} {w:World} {S P M:Nat} {r:Tryz.Rg} {s:Tryz.SS}
end
end Go.Proofs
namespace Go.Proofs
open Go.Dw Go.RowKit
section
variable {A:Nat→Prop} {w:World} {S P L Bs B M N:Nat} {r:Tryz.Rg} {s:Tryz.SS} {g:Nat→Int}
theorem Tryz.zoy {l:List Sg} (hok: ∀x∈l,x.ok):0≤(zbW l).1∧(zbW l).1<18446744073709551616∧0≤(zbW l).2∧(zbW l).2<18446744073709551616:=by
 unfold zbW
 by_cases hE:za3 l=0
 ·rw [if_pos hE]
  have hl:=ze0 hE
  have h1:=zck false l hok
  have h2:=zck true l hok
  refine ⟨h1.1,?_,h2.1,?_⟩
  ·show zaE false l<_;omega
  ·show zaE true l<_;omega
 ·rw [if_neg hE];decide
end
end Go.Proofs
end
