/-
  Proved: laws on the way to 'PserveTakesProof' (texts DwLoop WkA WkB SoI SoJ SoK SoL SoM SoN WkC WkD WkE WkF0 WkF WkG DwTurn WkH0 WkH WkI0 WkI WkJ WkK PsA PsB0 PsB PsC PsD0 PsD PsE PsG0 PsG WkL WkM PsH XaA WkN WkO WkP WkQ WkR WkS0 WkS1 WkS WkT); no condition.
-/
import Derived.Test.YtfoggkodmjnmcaaGreatM2
import Derived.KernelRfl
import Derived.Defers
import Derived.BigFrame
import Derived.Recover
set_option linter.unusedSimpArgs false
set_option linter.unusedVariables false
set_option maxHeartbeats 4000000
noncomputable section
namespace Go.Dw
open Go.RowKit
structure LEnd where
 test:SB
 ex:Ex
 slots:List (Nat×AV)
 gs:Nat
structure LEnt where
 p:List Nat
 n:Nat
 gs:Nat
 slots:List (Nat×AV)
 keep:List Nat
 rows:List (Nat×List AV)
 base:Nat
 nopq:Nat
 ends:List LEnd
def getE (env:T AV) (t:Nat):AV:=
 match env.get t with
 | some v=>v
 | none=>zbR
def zed:Nat→T AV→T AV
 | 0,t=>t
 | n+1,t=>zed n (t.set n .junk)
def ztj (env:T AV):List Nat→T AV→T AV
 | [], t=>t
 | i::l,t=>ztj env l (t.set i (getE env i))
def setE:List (Nat×AV)→T AV→T AV
 | [], t=>t
 | p::l,t=>setE l (t.set p.1 p.2)
def zvt:List Nat→List Nat→Bool
 | [], [] => true
 | a::l,b::m=>match Nat.beq a b with|true=>zvt l m|false=>false
 | _,_=>false
def zA5:AV→Bool
 | .junk=>false
 | _=>true
def zii (N:Nat) (env:T AV):List (Nat×AV)→Bool
 | [] => true
 | p::l=>match Nat.blt p.1 N,AV.beq (getE env p.1) p.2,zA5 p.2 with|true,true,true=>zii N env l|_,_,_=>false
def zaH (N:Nat):List (Nat×AV)→Bool
 | [] => true
 | p::l=>match Nat.blt p.1 N with|true=>zaH N l|false=>false
def zvB (N:Nat):List Nat→Bool
 | [] => true
 | p::l=>match Nat.blt p N with|true=>zvB N l|false=>false
def zvY (N:Nat):List LEnd→Bool
 | [] => true
 | e::l=>match zaH N e.slots with|true=>zvY N l|false=>false
def LEnt.fits (e:LEnt) (p:List Nat) (N:Nat) (env:T AV) (H:Heap):Bool:=
 match zvt p e.p,Nat.beq N e.n with
 | false,_=>false
 | true,false=>false
 | true,true=>match zii N env e.slots,zvB N e.keep,zvY N e.ends,Nat.beq H.gs e.gs with
  | true,true,true,true=>(match env.get zaP,Nat.ble N zaP,zcw H e.rows with
   | none,true,true=>(match e.nopq with
    | 0=>true
    | _+1=>Nat.beq H.nx e.base)
   | _,_,_=>false)
  | _,_,_,_=>false
def LEnt.ent (e:LEnt) (d:LEnd):Ent:=⟨0,[],e.gs,e.base,e.nopq,zbR,d.gs⟩
def LEnt.env (e:LEnt) (d:LEnd) (N:Nat) (env:T AV):T AV:=setE d.slots (ztj env e.keep (zed N .leaf))
def LEnt.ans (e:LEnt) (N:Nat) (env:T AV) (H:Heap):List LEnd→LAns
 | [] => []
 | d::l=>(d.test,d.ex,e.env d N env,(e.ent d).heap H)::e.ans N env H l
def zBj:List LEnt→LOrc
 | [], _,_,_,_=>none
 | e::l,p,N,env,H=>match e.fits p N env H with
  | true=>some (e.ans N env H e.ends)
  | false=>zBj l p N env H
def zaF (l:List LEnt):LOrc:=fun p N env H=>
 match p with
 | 2::_=>none
 | p=>zBj l p N env H
def zns (ρ:Val) (l:List LEnd):Option LEnd:=znr ρ (l.map fun d=>(d.test,d))
def zkT (P:Program) (ρ:Val) (w0:World) (K:Nat→Prop) (g:Gho) (e:LEnt):Prop:=
 ∀ c,zaK P e.p=c→ ∀(j:J) (a:Act) (w:World) (F:Nat→Prop) (n:Nat),a.tmps.size=e.n→a.defers= []→(∀s∈e.slots,s.1<e.n∧R ρ j s.2 (a.tmps.getD s.1 undef))→(∀r∈e.rows,∀L,j r.1=some L→ ¬F L.blk∧ ∃vals,RL ρ j r.2 vals∧Row w L vals)→
  (∀ k,n≤k→j k=none)→(e.nopq≠0→n=e.base)→(∀b,F b→b<w.heap.size)→w0.heap.size≤w.heap.size→g.fact e.gs (opqs j) F w→(∀i,i<w0.heap.size→ ¬K i→w.heap[i]? =w0.heap[i]?)→
  c.wp P (fun ex a' w'=> ∃d qs F',zns ρ e.ends=some d∧ex=exOf d.ex∧a'.tmps.size=e.n∧a'.defers= []∧(∀t∈e.keep,a'.tmps.getD t undef=a.tmps.getD t undef)∧qs.length=e.nopq∧
   (∀ s∈d.slots,R ρ (jq j n qs) s.2 (a'.tmps.getD s.1 undef))∧g.fact d.gs (opqs (jq j n qs)) F' w'∧(∀b,F' b→b<w'.heap.size∧(F b∨w.heap.size≤b))∧Mv (fun b=>F b∧(w0.heap.size≤b∨K b)) w w') a w
def zGe (P:Program) (ρ:Val) (w0:World) (K:Nat→Prop) (g:Gho) (e:LEnt):Prop:=
  ∀ c,zaK P e.p= .loop c→ ∀(j:J) (a:Act) (w:World) (F:Nat→Prop) (n:Nat),a.tmps.size=e.n→a.defers= []→(∀s∈e.slots,s.1<e.n∧R ρ j s.2 (a.tmps.getD s.1 undef))→(∀r∈e.rows,∀L,j r.1=some L→ ¬F L.blk∧ ∃vals,RL ρ j r.2 vals∧Row w L vals)→
    (∀ k,n≤k→j k=none)→(e.nopq≠0→n=e.base)→(∀b,F b→b<w.heap.size)→w0.heap.size≤w.heap.size→g.fact e.gs (opqs j) F w→(∀i,i<w0.heap.size→ ¬K i→w.heap[i]? =w0.heap[i]?)→
    (Code.loop c).wp P (fun ex a' w'=> ∃d qs F',zns ρ e.ends=some d∧ex=exOf d.ex∧a'.tmps.size=e.n∧a'.defers= []∧(∀t∈e.keep,a'.tmps.getD t undef=a.tmps.getD t undef)∧qs.length=e.nopq∧
      (∀ s∈d.slots,R ρ (jq j n qs) s.2 (a'.tmps.getD s.1 undef))∧g.fact d.gs (opqs (jq j n qs)) F' w'∧(∀b,F' b→b<w'.heap.size∧(F b∨w.heap.size≤b))∧Mv (fun b=>F b∧(w0.heap.size≤b∨K b)) w w') a w
def zqS (P:Program) (ρ:Val) (w0:World) (K:Nat→Prop) (g:Gho):List LEnt→Prop
 | [] => True
 | e::l=>zkT P ρ w0 K g e∧zqS P ρ w0 K g l
def zaq:List (Nat×AV)→Bool
 | [] => true
 | s::l=>match s.2.small with|true=>zaq l|false=>false
def zdP:List LEnd→Bool
 | [] => true
 | d::l=>match d.test.small,zaq d.slots with|true,true=>zdP l|_,_=>false
def zgj:List (Nat×List AV)→Bool
 | [] => true
 | r::l=>match AV.smallL r.2 with|true=>zgj l|false=>false
theorem zgi: ∀ {l:List (Nat×List AV)},zgj l=true→ ∀s∈l,AV.smallL s.2=true
 | [], _,s,h=>by cases h
 | p::l,hl,s,h=>by
  unfold zgj at hl
  split at hl
  ·rename_i hb
   rcases List.mem_cons.1 h with rfl|h
   ·exact hb
   ·exact zgi hl s h
  ·cases hl
def zam:List LEnt→Bool
 | [] => true
 | e::l=>match zaq e.slots,zdP e.ends,zgj e.rows with|true,true,true=>zam l|_,_,_=>false
theorem zcK: ∀(n:Nat) (t0:T AV) (t:Nat),zaW (zed n t0) t=if t<n then .junk else zaW t0 t
 | 0,t0,t=>by rw [if_neg (by omega)];rfl
 | n+1,t0,t=>by
  unfold zed
  rw [zcK n,zbz]
  by_cases h:t<n
  ·rw [if_pos h,if_pos (by omega)]
  ·rw [if_neg h]
   by_cases h2:t=n
   ·rw [if_pos h2,if_pos (by omega)]
   ·rw [if_neg h2,if_neg (by omega)]
theorem ztr (env:T AV) (t:Nat):getE env t=zaW env t:=rfl
theorem zeN {env:T AV}: ∀(l:List Nat) (t0:T AV) (t:Nat),(t∈l∧zaW (ztj env l t0) t=zaW env t)∨zaW (ztj env l t0) t=zaW t0 t
 | [], t0,t=> .inr rfl
 | i::l,t0,t=>by
  unfold ztj
  rcases zeN (env:=env) l (t0.set i (getE env i)) t with ⟨h1,h2⟩|h
  ·exact .inl ⟨List.mem_cons_of_mem _ h1,h2⟩
  ·rw [h,zbz]
   by_cases hi:t=i
   ·rw [if_pos hi,ztr,hi];exact .inl ⟨List.mem_cons_self ..,rfl⟩
   ·rw [if_neg hi];exact .inr rfl
theorem zde: ∀(l:List (Nat×AV)) (t0:T AV) (t:Nat),(∃v,(t,v)∈l∧zaW (setE l t0) t=v)∨zaW (setE l t0) t=zaW t0 t
 | [], t0,t=> .inr rfl
 | p::l,t0,t=>by
  unfold setE
  rcases zde l (t0.set p.1 p.2) t with ⟨v,h1,h2⟩|h
  ·exact .inl ⟨v,List.mem_cons_of_mem _ h1,h2⟩
  ·rw [h,zbz]
   by_cases hi:t=p.1
   ·rw [if_pos hi];exact .inl ⟨p.2,by rw [hi];exact List.mem_cons_self ..,rfl⟩
   ·rw [if_neg hi];exact .inr rfl
theorem zfF {N:Nat}: ∀ {l:List (Nat×AV)},zaH N l=true→ ∀s∈l,s.1<N
 | [], _,s,h=>by cases h
 | p::l,hl,s,h=>by
  unfold zaH at hl
  split at hl
  ·rename_i hb
   rcases List.mem_cons.1 h with rfl|h
   ·rwa [Nat.blt_eq] at hb
   ·exact zfF hl s h
  ·cases hl
theorem zmC {N:Nat}: ∀ {l:List Nat},zvB N l=true→ ∀s∈l,s<N
 | [], _,s,h=>by cases h
 | p::l,hl,s,h=>by
  unfold zvB at hl
  split at hl
  ·rename_i hb
   rcases List.mem_cons.1 h with rfl|h
   ·rwa [Nat.blt_eq] at hb
   ·exact zmC hl s h
  ·cases hl
theorem zmP {N:Nat}: ∀ {l:List LEnd},zvY N l=true→ ∀d∈l,zaH N d.slots=true
 | [], _,s,h=>by cases h
 | p::l,hl,s,h=>by
  unfold zvY at hl
  split at hl
  ·rename_i hb
   rcases List.mem_cons.1 h with rfl|h
   ·exact hb
   ·exact zmP hl s h
  ·cases hl
theorem zhz {N:Nat} {env:T AV}: ∀ {l:List (Nat×AV)},zii N env l=true→ ∀s∈l,s.1<N∧zaW env s.1=s.2∧s.2≠ .junk
 | [], _,s,h=>by cases h
 | p::l,hl,s,h=>by
  unfold zii at hl
  split at hl
  ·rename_i hb hv hj
   rcases List.mem_cons.1 h with rfl|h
   ·exact ⟨by rwa [Nat.blt_eq] at hb,by rw [←ztr];exact AV.beq_eq hv,fun e=>by rw [e] at hj;cases hj⟩
   ·exact zhz hl s h
  ·cases hl
theorem zqE: ∀ {l m:List Nat},zvt l m=true→l=m
 | [], [], _=>rfl
 | a::l,b::m,h=>by
  unfold zvt at h
  split at h
  ·rename_i hb;rw [zav hb,zqE h]
  ·cases h
 | [], _::_,h=>by cases h
 | _::_,[],h=>by cases h
theorem zcE: ∀ {l:List (Nat×AV)},zaq l=true→ ∀s∈l,s.2.small=true
 | [], _,s,h=>by cases h
 | p::l,hl,s,h=>by
  unfold zaq at hl
  split at hl
  ·rename_i hb
   rcases List.mem_cons.1 h with rfl|h
   ·exact hb
   ·exact zcE hl s h
  ·cases hl
theorem zek: ∀ {l:List LEnd},zdP l=true→ ∀d∈l,d.test.small=true∧zaq d.slots=true
 | [], _,s,h=>by cases h
 | p::l,hl,s,h=>by
  unfold zdP at hl
  split at hl
  ·rename_i hb hc
   rcases List.mem_cons.1 h with rfl|h
   ·exact ⟨hb,hc⟩
   ·exact zek hl s h
  ·cases hl
theorem zmi {ρ:Val} {α:Type} (e:SB×α) (l:List (SB×α)):znr ρ (e::l)=if e.1.den ρ=true then some e.2 else znr ρ l:=by
 obtain ⟨b,x⟩:=e
 show (match b with| .lit true=>some x|b=>if b.den ρ=true then some x else znr ρ l)=_
 split
 ·rfl
 ·rfl
theorem zb7 {ρ:Val} (e:LEnd) (l:List LEnd):zns ρ (e::l)=if e.test.den ρ=true then some e else zns ρ l:=zmi _ _
theorem zjO {ρ:Val}: ∀ {l:List LEnd} {d:LEnd},zns ρ l=some d→d∈l
 | [], d,h=>by cases h
 | e::l,d,h=>by
  rw [zb7] at h
  split at h
  ·cases h;exact List.mem_cons_self ..
  ·exact List.mem_cons_of_mem _ (zjO h)
theorem zqi {ρ:Val} {m:Nat→Bool} {e:LEnt} {N:Nat} {env:T AV} {H:Heap}: ∀ {l:List LEnd} {d:LEnd},zdP l=true→zns ρ l=some d→znr (ρ.mark m) (e.ans N env H l)=some (d.ex,e.env d N env,(e.ent d).heap H)
 | [], d,_,h=>by cases h
 | e0::l,d,hs,h=>by
  have hs0:=(zek hs e0 (List.mem_cons_self ..)).1
  unfold zdP at hs
  split at hs
  case h_2=>cases hs
  rw [zb7] at h
  unfold LEnt.ans
  rw [zmi]
  simp only [SB.den_mark ρ m _ hs0]
  split at h
  ·rename_i ht
   cases h
   rw [if_pos ht]
  ·rename_i ht
   rw [if_neg ht]
   exact zqi hs h
theorem zhl {P:Program} {ρ:Val} {w0:World} {K:Nat→Prop} {g:Gho} (m:Nat→Bool) {l:List LEnt} (hs:zam l=true) (h:zqS P ρ w0 K g l):zr1 P (ρ.mark m) (cxOf w0 K g) (zaF l):=by
 refine ⟨fun _ _ _ _=>rfl,fun p N env H r c hc hr j a w hi he=> ?_⟩
 unfold zaF at hr
 split at hr
 ·cases hr
 induction l with
 | nil=>cases hr
 | cons e l ih=>
  unfold zam at hs
  split at hs
  case h_2=>cases hs
  rename_i h1 h2 h3
  unfold zBj at hr
  split at hr
  case h_2=>exact ih hs h.2 hr
  rename_i hf
  cases hr
  unfold LEnt.fits at hf
  split at hf
  ·cases hf
  ·cases hf
  rename_i hp hN
  have hp:=zqE hp
  have hN:=zav hN
  subst hp hN
  split at hf
  case h_2=>cases hf
  rename_i f1 f2 f3 f4
  split at hf
  case h_2=>cases hf
  rename_i f5 f6 f7
  have f4:=zav f4
  have f6:=Nat.le_of_ble_eq_true f6
  have hdf:a.defers= []:=he.dfr.none (by unfold zaW;rw [f5])
  have hG:=hi.gho
  rw [f4] at hG
  obtain ⟨F,g1,g2⟩:=hG
  have hnone: ∀k,H.nx≤k→j k= .none:=fun k hk=>by
   cases hjk:j k with
   | none=>rfl
   | some L=>have:=hi.dom k L hjk;omega
  have hbase:e.nopq≠0→H.nx=e.base:=fun hn=>by
   split at hf
   ·rename_i h0;exact absurd h0 hn
   ·exact zav hf
  have hss:=zcE h1
  have hsl: ∀s∈e.slots,s.1<e.n∧R ρ j s.2 (a.tmps.getD s.1 undef):=fun s hs'=>by
   obtain ⟨q1,q2,q3⟩:=zhz f1 s hs'
   refine ⟨q1,?_⟩
   have:=he.get s.1 (by omega)
   rw [q2] at this
   exact (R_mark m (hss s hs')).1 (this.resolve_left q3)
  have hrw: ∀r∈e.rows,∀L,j r.1=some L→ ¬F L.blk∧ ∃vals,RL ρ j r.2 vals∧Row w L vals:=fun r hr L hL=>by
   have hri:=zch f7 hr
   obtain ⟨vals,arr,e',fr,q1,q2,q3,_⟩:=hi.rowOut hL hri
   refine ⟨fun hF=> ?_,vals,(RL_mark m (zgi h3 r hr)).1 q2,arr,e',fr,q1,q3⟩
   obtain ⟨_,_,_,_,_,_,h5,_⟩:=ze2 hri
   exact (g1 _ hF).2 ⟨r.1,L,hL,hi.qrow hL h5,rfl⟩
  refine wp_mono (h.1 c hc j a w F H.nx he.size hdf hsl hrw hnone hbase (fun b hF=>(g1 b hF).1) hi.fr.size g2 hi.fr.old) fun ex a' w' hh=> ?_
  obtain ⟨d,qs,F',e1,e2,e3,e4,e5,e6,e7,e8,e9,e10⟩:=hh
  have hd:=zjO e1
  have hns:(cxOf w0 K g).G (e.ent d).gs' (jq j H.nx qs) w':=⟨F',fun b hF'=>⟨(e9 b hF').1,fun hm=>by
   have hm:=zny hnone hm
   rcases (e9 b hF').2 with hF|hF
   ·exact (g1 b hF).2 hm
   ·obtain ⟨k,L,k1,k2,k3⟩:=hm
    have:=hi.blk k L k1 k2
    omega⟩,e8⟩
  obtain ⟨i1,i2⟩:=Inv.ent (e:=e.ent d) hi f4 e6 hns (e10.mono fun b hb=>⟨(g1 b hb.1).2,hb.2⟩)
  refine ⟨d.ex,e.env d e.n env,(e.ent d).heap H,jq j H.nx qs,zqi h2 e1,e2,⟨e3,f6,fun t ht=> ?_,?_⟩,i1,i2⟩
  ·unfold LEnt.env
   have hds:=(zek h2 d hd).2
   rcases zde d.slots (ztj env e.keep (zed e.n .leaf)) t with ⟨v,q1,q2⟩|q
   ·rw [q2]
    exact .inr ((R_mark m (zcE hds _ q1)).2 (e7 _ q1))
   ·rw [q]
    rcases zeN (env:=env) e.keep (zed e.n .leaf) t with ⟨q1,q2⟩|q
    ·rw [q2,e5 t q1]
     exact (he.get t ht).imp_right (·.mono i2.sub)
    ·rw [q,zcK]
     by_cases hN:t<e.n
     ·rw [if_pos hN];exact .inl rfl
     ·rw [if_neg hN,Array.getD_eq_getD_getElem?,Array.getElem?_eq_none (by omega)]
      exact .inr zcQ
  ·rw [e4]
   show DR (ρ.mark m) _ (zaW (e.env d e.n env) zaP) []
   have:zaW (e.env d e.n env) zaP=zbR:=by
    unfold LEnt.env
    rcases zde d.slots (ztj env e.keep (zed e.n .leaf)) zaP with ⟨v,q1,_⟩|q
    ·have:=zfF (zmP f3 d hd) _ q1
     simp only at this
     omega
    ·rw [q]
     rcases zeN (env:=env) e.keep (zed e.n .leaf) zaP with ⟨q1,_⟩|q
     ·have:=zmC f2 _ q1
      omega
     ·rw [q,zcK,if_neg (by omega)];rfl
   rw [this]
   rfl
theorem zqT {P:Program} {ρ:Val} {w0:World} {K:Nat→Prop} {g:Gho} {e:LEnt} (hn:e.nopq=0) (hg: ∀d∈e.ends,d.gs=e.gs)
    (h: ∀c,zaK P e.p= .loop c→ ∀(j:J) (a:Act) (w:World) (F:Nat→Prop),a.tmps.size=e.n→a.defers= []→(∀s∈e.slots,s.1<e.n∧R ρ j s.2 (a.tmps.getD s.1 undef))→(∀r∈e.rows,∀L,j r.1=some L→ ¬F L.blk∧ ∃vals,RL ρ j r.2 vals∧Row w L vals)→g.fact e.gs (opqs j) F w→w0.heap.size≤w.heap.size→(∀i,i<w0.heap.size→ ¬K i→w.heap[i]? =w0.heap[i]?)→
      (Code.loop c).wp P (fun ex a' w'=> ∃d,zns ρ e.ends=some d∧ex=exOf d.ex∧a'.tmps.size=e.n∧a'.defers= []∧(∀t∈e.keep,a'.tmps.getD t undef=a.tmps.getD t undef)∧(∀s∈d.slots,R ρ j s.2 (a'.tmps.getD s.1 undef))∧Below w.heap.size w w') a w):zGe P ρ w0 K g e:=by
  intro c hc j a w F n h1 h2 h3 h4 _ _ hF hsz hf hold
  refine wp_mono (h c hc j a w F h1 h2 h3 h4 hf hsz hold) fun ex a' w' hh=> ?_
  obtain ⟨d,e1,e2,e3,e4,e5,e6,e7⟩:=hh
  refine ⟨d,[],F,e1,e2,e3,e4,e5,by rw [hn];rfl,fun s hs=>by rw [zgI];exact e6 s hs,?_,fun b hb=>⟨Nat.lt_of_lt_of_le (hF b hb) e7.size,.inl hb⟩,Mv.of_below e7⟩
  rw [zgI,hg d (zjO e1)]
  exact g.loc _ _ _ _ _ _ hf (fun _ _ h=>h) (fun b hb=>e7.block b (hF b hb)) e7.size
structure AEnt where
 t:TypeId
 s:AV
 n:Nat
 xs:List AV
 gs:Nat
 base:Nat
 nopq:Nat
 res:AV
 gs':Nat
def AEnt.ent (e:AEnt):Ent:=⟨0,[],e.gs,e.base,e.nopq,e.res,e.gs'⟩
def AEnt.fits (e:AEnt) (t:TypeId) (s:AV) (n:Nat) (xs:List AV) (H:Heap):Bool:=
 match Nat.beq t e.t,AV.beq s e.s,Nat.beq n e.n,Nat.beq H.gs e.gs with
 | true,true,true,true=>(match AV.beqL xs e.xs with
  | true=>(match e.nopq with
   | 0=>true
   | _+1=>Nat.beq H.nx e.base)
  | false=>false)
 | _,_,_,_=>false
def zaE:List AEnt→AOrc
 | [], _,_,_,_,_=>none
 | e::l,t,s,n,xs,H=>match e.fits t s n xs H with
  | true=>some (e.res,e.ent.heap H)
  | false=>zaE l t s n xs H
def zES (P:Program) (ρ:Val) (w0:World) (K:Nat→Prop) (g:Gho) (e:AEnt):Prop:=
 ∀ (j:J) (w:World) (F:Nat→Prop) (n:Nat) (us:Value) (bb o cap:Nat) (vals:List Value) (ty:TypeId),R ρ j e.s us→zCC w bb o vals→RL ρ j e.xs vals→(∀k,n≤k→j k=none)→(e.nopq≠0→n=e.base)→(∀b,F b→b<w.heap.size)→w0.heap.size≤w.heap.size→g.fact e.gs (opqs j) F w→
  ∃ u w' qs F',(Builtin.append_ #[e.t,e.t] ty #[us,.slice (some ⟨bb,o,none⟩) e.n cap]).run P w= .ok u w'∧qs.length=e.nopq∧R ρ (jq j n qs) e.res u∧g.fact e.gs' (opqs (jq j n qs)) F' w'∧(∀b,F' b→b<w'.heap.size∧(F b∨w.heap.size≤b))∧Mv (fun b=>F b∧(w0.heap.size≤b∨K b)) w w'
def zrR (P:Program) (ρ:Val) (w0:World) (K:Nat→Prop) (g:Gho):List AEnt→Prop
 | [] => True
 | e::l=>zES P ρ w0 K g e∧zrR P ρ w0 K g l
def zan:List AEnt→Bool
 | [] => true
 | e::l=>match e.s.small,AV.smallL e.xs,e.res.small with|true,true,true=>zan l|_,_,_=>false
theorem zhw {P:Program} {ρ:Val} {w0:World} {K:Nat→Prop} {g:Gho} (m:Nat→Bool) {l:List AEnt} (hs:zan l=true) (h:zrR P ρ w0 K g l):zwB P (ρ.mark m) (cxOf w0 K g) (zaE l):=by
 intro t s n xs H r hr k hk j w us bb o cap vals ty hi hus hv hxs
 induction l with
 | nil=>cases hr
 | cons e l ih=>
  unfold zan at hs
  split at hs
  case h_2=>cases hs
  rename_i h1 h2 h3
  unfold zaE at hr
  split at hr
  case h_2=>exact ih hs h.2 hr
  rename_i hf
  cases hr
  unfold AEnt.fits at hf
  split at hf
  case h_2=>cases hf
  rename_i f1 f2 f3 f4
  split at hf
  case h_2=>cases hf
  rename_i f5
  have f1:=zav f1
  have f2:=AV.beq_eq f2
  have f3:=zav f3
  have f4:=zav f4
  have f5:=AV.beqL_eq f5
  subst f1 f2 f3 f5
  have hG:=hi.gho
  rw [f4] at hG
  obtain ⟨F,g1,g2⟩:=hG
  have hnone: ∀k,H.nx≤k→j k= .none:=fun k hk=>by
   cases hjk:j k with
   | none=>rfl
   | some L=>have:=hi.dom k L hjk;omega
  have hbase:e.nopq≠0→H.nx=e.base:=fun hn=>by
   split at hf
   ·rename_i h0;exact absurd h0 hn
   ·exact zav hf
  obtain ⟨u,w',qs,F',e1,e2,e3,e4,e5,e6⟩:=h.1 j w F H.nx us bb o cap vals ty ((R_mark m h1).1 hus) hv ((RL_mark m h2).1 hxs) hnone hbase (fun b hF=>(g1 b hF).1) hi.fr.size g2
  have hns:(cxOf w0 K g).G e.ent.gs' (jq j H.nx qs) w':=⟨F',fun b hF'=>⟨(e5 b hF').1,fun hm=>by
   have hm:=zny hnone hm
   rcases (e5 b hF').2 with hF|hF
   ·exact (g1 b hF).2 hm
   ·obtain ⟨k,L,k1,k2,k3⟩:=hm
    have:=hi.blk k L k1 k2
    omega⟩,e4⟩
  obtain ⟨i1,i2⟩:=Inv.ent (e:=e.ent) hi f4 e2 hns (e6.mono fun b hb=>⟨(g1 b hb.1).2,hb.2⟩)
  exact ⟨u,w',e1,e.res,e.ent.heap H,jq j H.nx qs,(R_mark m h3).2 e3,i1,i2,hk⟩
theorem zqI {P:Program} (hmo:P.follows .mixedOrders=true) {orc:FuncId→List AV→Heap→Option (List (AV×Heap))} {lorc:LOrc} {aorc:AOrc} {x:Cx} {ρ:Val} {w:World} {n:Nat} {f:FuncId} {args:List AV} {vals:List Value} {H:Heap} {j:J} {ls:List Leaf} {asm:List (SB×Bool)} {ps:List (List (SB×Bool)×Nat)}
  (hor: ∀m,zfY P (ρ.mark m) x orc) (hlo: ∀m,zr1 P (ρ.mark m) x lorc) (hao: ∀m,zwB P (ρ.mark m) x aorc) (hi: ∀m,Inv (ρ.mark m) x j H w) (ha: ∀m,RL (ρ.mark m) j args vals) (ht:Told ρ asm)
  (h:(evL P orc lorc aorc n (.call f args H (zaR ls 0))).paths asm=some ps):
  Calls P f vals.toArray w fun e w'=> ∃p∈ps,Told ρ p.1∧ ∃l,ls[p.2]? =some l∧ ∃m u v j' H',e= .returned u∧R (ρ.mark m) j' v u∧Inv (ρ.mark m) x j' H' w'∧St j H j' H'∧l.fits v H'=true:=by
 classical
 let m:Nat→Bool:=fun k=>decide (∃p∈ps,1000000+p.2=k∧Told ρ p.1)
 have hm: ∀p∈ps,Told ρ p.1→m (1000000+p.2)=true:=fun p hp ht=>by
  show decide _=true
  exact decide_eq_true ⟨p,hp,rfl,ht⟩
 have hd:=paths_den hm h (fun q hq=>hq) ht
 have hg:=zis (w0:=x) (hor m) (hlo m) (hao m) (fun n rec hg=>zma hmo hg) n
 refine Calls.mono ((hg.call f args H (zaR ls 0) hd).2 j w vals (hi m) (ha m)) fun e w' he=> ?_
 obtain ⟨u,rfl,v,H',j',h1,h2,h3,h4⟩:=he
 obtain ⟨k,l,h5,h6,h7⟩:=zhm h4
 have h7:(if 1000000+(0+k)<1000000 then ρ.b (1000000+(0+k)) else m (1000000+(0+k)))=true:=h7
 rw [if_neg (by omega)] at h7
 obtain ⟨p,hp,hk,hto⟩:=of_decide_eq_true h7
 have:p.2=k:=by omega
 subst this
 exact ⟨p,hp,hto,l,h5,m,u,v,j',H',rfl,h1,h2,h3,h6⟩
theorem zha {P:Program} {ρ:Val} {w:World} {K:Nat→Prop} {g:Gho} {bl:List (Nat×Nat)} {shs:List Sh} {gs:Nat} {ents:List Ent} {lents:List LEnt} {aents:List AEnt} {n:Nat} {f:FuncId} {args:List AV} {vals:List Value} {ls:List Leaf} {asm:List (SB×Bool)} {ps:List (List (SB×Bool)×Nat)}
  (hmo:P.follows .mixedOrders=true)
  (h:(evL P (zau ents) (zaF lents) (zaE aents) n (.call f args (zas gs shs) (zaR ls 0))).ways asm=some ps)
  (hs:(zai shs&&zaf ents&&zam lents&&zan aents&&AV.smallL args&&zal ls)=true)
  (hK: ∀b,K b→b<w.heap.size) (ho:ShsOk ρ (jOf bl) (cxOf w K g) bl shs) (hap:apart bl shs) (hG:g.G gs (jOf bl) w) (he:zmO P ρ w K g ents) (hl:zqS P ρ w K g lents) (haa:zrR P ρ w K g aents) (ha:RL ρ (jOf bl) args vals) (ht:Told ρ asm):
  Calls P f vals.toArray w fun e w'=> ∃p∈ps,Told ρ p.1∧ ∃l,ls[p.2]? =some l∧ ∃j,zod ρ w K g bl l e w' j:=by
 simp only [Bool.and_eq_true] at hs
 obtain ⟨⟨⟨⟨⟨s1,s2⟩,s5⟩,s9⟩,s3⟩,s4⟩:=hs
 unfold Ob.ways at h
 cases hps:(evL P (zau ents) (zaF lents) (zaE aents) n (.call f args (zas gs shs) (zaR ls 0))).paths asm with
 | none=>rw [hps] at h;cases h
 | some ps0=>
 rw [hps] at h
 cases h
 have h:=hps
 refine Calls.mono (zqI (x:=cxOf w K g) hmo (fun m=>zgP (zdf m s2 he)) (fun m=>zhl m s5 hl) (fun m=>zhw m s9 haa) (fun m=>zgK hK (zdT m s1 ho) hap hG) (fun m=>(RL_mark m s3).2 ha) ht h) fun e w' hh=> ?_
 obtain ⟨p,hp,hto,l,hl,m,u,v,j',H',rfl,h1,h2,h3,h4⟩:=hh
 obtain ⟨x1,x2,x3,x4⟩:=zce s4 hl
 exact ⟨(p.1.drop asm.length,p.2),zdh hp,fun c hc=>hto c (List.mem_of_mem_drop hc),l,hl,j',zit x1 x2 x3 x4 h1 h2 h3 h4⟩
structure zbo where
 ex:Ex
 slots:List Nat
 dfr:Option AV
 leaf:Leaf
def exEq:Ex→Ex→Bool
 | .normal,.normal=>true
 | .ret,.ret=>true
 | .exit a,.exit b=>Nat.beq a b
 | _,_=>false
def zBF (env:T AV):List Nat→List AV
 | [] => []
 | t::l=>getE env t::zBF env l
def zmL (env:T AV):List Nat→Bool
 | [] => true
 | t::l=>match Nat.blt t zaP,zA5 (getE env t) with|true,true=>zmL env l|_,_=>false
def zv4 (env:T AV) (d:Option AV):Bool:=
 match env.get zaP,d with
 | none,none=>true
 | some v,some u=>AV.beq v u
 | _,_=>false
def DRo (ρ:Val) (j:J):Option AV→List Deferred→Prop
 | none,ds=>ds= []
 | some v,ds=>DR ρ j v ds
def zaC:Option AV→Bool
 | none=>true
 | some v=>v.small
def zaJ:List zbo→Nat→KC
  | [], _, _, _, _ => .bad 95 ""
  | l::r,i,ex,env,H=>match exEq ex l.ex,zv4 env l.dfr,zmL env l.slots with
    | true,true,true=>(match l.leaf.fits (.tup (zBF env l.slots)) H with
      | true => zet (1000000 + i) fun n => .ite (.var n) .ok (.bad 96 "")
      | false=>zaJ r (Nat.succ i) ex env H)
    | _,_,_=>zaJ r (Nat.succ i) ex env H
def envS (N:Nat) (slots:List (Nat×AV)) (d:Option AV):T AV:=
 match d with
 | none=>setE slots (zed N .leaf)
 | some v=>(setE slots (zed N .leaf)).set zaP v
def zak:List zbo→Bool
 | [] => true
 | l::r=>match zal [l.leaf],zaC l.dfr with|true,true=>zak r|_,_=>false
theorem zeP: ∀ {ls:List zbo} {i:Nat} {l:zbo},zak ls=true→ls[i]? =some l→zal [l.leaf]=true∧zaC l.dfr=true
 | [], _,_,_,h=>by cases h
 | x::r,i,l,hx,h=>by
  unfold zak at hx
  split at hx
  case h_2=>cases hx
  rename_i h1 h2
  cases i with
  | zero=>cases h;exact ⟨h1,h2⟩
  | succ i=>exact zeP hx (by simpa using h)
theorem zIe {a b:Ex} (h:exEq a b=true):a=b:=by
 cases a<;>cases b<;>simp only [exEq] at h<;>first|rfl|cases h|rw [zav h]
theorem zkD {ρ:Val} {ex:Ex} {env:T AV} {H:Heap}: ∀ {ls:List zbo} {i:Nat},Ob.den ρ (zaJ ls i ex env H)→ ∃k l,ls[k]? =some l∧ex=l.ex∧zv4 env l.dfr=true∧zmL env l.slots=true∧l.leaf.fits (.tup (zBF env l.slots)) H=true∧ρ.b (1000000+(i+k))=true
 | [], i,h=>h.elim
 | l::r,i,h=>by
  unfold zaJ at h
  have later:Ob.den ρ (zaJ r (Nat.succ i) ex env H)→ ∃k l',(l::r)[k]? =some l'∧ex=l'.ex∧zv4 env l'.dfr=true∧zmL env l'.slots=true∧l'.leaf.fits (.tup (zBF env l'.slots)) H=true∧ρ.b (1000000+(i+k))=true:=fun h=>by
   obtain ⟨k,l',h1,h2,h3,h4,h5,h6⟩:=zkD h
   exact ⟨k+1,l',h1,h2,h3,h4,h5,by rw [show i+(k+1)=Nat.succ i+k by omega];exact h6⟩
  split at h
  ·rename_i e1 e2 e3
   split at h
   ·rename_i hf
    rw [zcq] at h
    refine ⟨0,l,rfl,zIe e1,e2,e3,hf,?_⟩
    cases hb:ρ.b (1000000+(i+0)) with
    | true=>rfl
    | false=>exact (h.2 hb).elim
   ·exact later h
  ·exact later h
theorem zBE {ρ:Val} {j:J} {N:Nat} {env:T AV} {a:Act} (he:ER ρ j N env a): ∀ {l:List Nat},zmL env l=true→RL ρ j (zBF env l) (l.map fun t=>a.tmps.getD t undef)
 | [], _=>RL.nil
 | t::l,h=>by
  unfold zmL at h
  split at h
  case h_2=>cases h
  rename_i h1 h2
  rw [Nat.blt_eq] at h1
  exact zab ((he.get t (by omega)).resolve_left fun e=>by rw [ztr,e] at h2;cases h2) (zBE he h)
theorem zrr {N:Nat} {slots:List (Nat×AV)} (hle:N≤zaP) (hlt:zaH N slots=true):zaW (setE slots (zed N .leaf)) zaP=zbR:=by
 rcases zde slots (zed N .leaf) zaP with ⟨v,q1,_⟩|q
 ·have:=zfF hlt _ q1
  simp only at this
  omega
 ·rw [q,zcK,if_neg (by omega)];rfl
theorem zIi {ρ:Val} {j:J} {N:Nat} {slots:List (Nat×AV)} {d:Option AV} {a:Act} (hN:a.tmps.size=N) (hd:DRo ρ j d a.defers) (hle:N≤zaP) (hlt:zaH N slots=true) (ha: ∀s∈slots,R ρ j s.2 (a.tmps.getD s.1 undef)):ER ρ j N (envS N slots d) a:=by
 have get: ∀t,t≠zaP→zaW (setE slots (zed N .leaf)) t= .junk∨R ρ j (zaW (setE slots (zed N .leaf)) t) (a.tmps.getD t undef):=fun t ht=>by
  rcases zde slots (zed N .leaf) t with ⟨v,q1,q2⟩|q
  ·rw [q2];exact .inr (ha _ q1)
  ·rw [q,zcK]
   by_cases h:t<N
   ·rw [if_pos h];exact .inl rfl
   ·rw [if_neg h,Array.getD_eq_getD_getElem?,Array.getElem?_eq_none (by omega)]
    exact .inr zcQ
 cases d with
 | none=>
  have hd:a.defers= []:=hd
  refine ⟨hN,hle,get,?_⟩
  show DR ρ j (zaW (setE slots (zed N .leaf)) zaP) _
  rw [hd,zrr hle hlt]
  rfl
 | some v=>
  refine ⟨hN,hle,fun t ht=> ?_,?_⟩
  ·show zaW ((setE slots (zed N .leaf)).set zaP v) t= .junk∨R ρ j (zaW ((setE slots (zed N .leaf)).set zaP v) t) _
   rw [zbz,if_neg ht]
   exact get t ht
  ·show DR ρ j (zaW ((setE slots (zed N .leaf)).set zaP v) zaP) _
   rw [zbz,if_pos rfl]
   exact hd
theorem ztK {ρ:Val} {j:J} (m:Nat→Bool): ∀ {ds:List Deferred} {v:AV},v.small=true→(DR (ρ.mark m) j v ds↔DR ρ j v ds)
 | [], _,_=>Iff.rfl
 | _::ds,v,hs=>by
  constructor
  ·rintro ⟨g,args,rest,cap,rfl,e2,e3,e4⟩
   unfold AV.small AV.smallL at hs
   split at hs
   case h_2=>cases hs
   rename_i h1
   unfold AV.small at h1
   split at h1
   case h_2=>cases h1
   unfold AV.smallL at hs
   split at hs
   case h_2=>cases hs
   rename_i h2
   exact ⟨g,args,rest,cap,rfl,e2,(RL_mark m h1).1 e3,(ztK m h2).1 e4⟩
  ·rintro ⟨g,args,rest,cap,rfl,e2,e3,e4⟩
   unfold AV.small AV.smallL at hs
   split at hs
   case h_2=>cases hs
   rename_i h1
   unfold AV.small at h1
   split at h1
   case h_2=>cases h1
   unfold AV.smallL at hs
   split at hs
   case h_2=>cases hs
   rename_i h2
   exact ⟨g,args,rest,cap,rfl,e2,(RL_mark m h1).2 e3,(ztK m h2).2 e4⟩
theorem zwz {ρ:Val} {j:J} (m:Nat→Bool) {ds:List Deferred} {v:Option AV} (hs:zaC v=true):DRo (ρ.mark m) j v ds↔DRo ρ j v ds:=by
 cases v with
 | none=>exact Iff.rfl
 | some v=>exact ztK m hs
theorem zaz {P:Program} {ρ:Val} {w:World} {K:Nat→Prop} {g:Gho} {bl:List (Nat×Nat)} {shs:List Sh} {gs:Nat} {ents:List Ent} {lents:List LEnt} {aents:List AEnt} {n:Nat} {p:List Nat} {N:Nat} {slots:List (Nat×AV)} {dfr:Option AV} {ls:List zbo} {asm:List (SB×Bool)} {ps:List (List (SB×Bool)×Nat)}
  (hmo:P.follows .mixedOrders=true)
  (h:(evL P (zau ents) (zaF lents) (zaE aents) n (.code (zaK P p) p N (envS N slots dfr) (zas gs shs) (zaJ ls 0))).ways asm=some ps)
  (hs:(zai shs&&zaf ents&&zam lents&&zan aents&&zaq slots&&zak ls&&zaH N slots&&Nat.ble N zaP&&zaC dfr)=true)
  (hK: ∀b,K b→b<w.heap.size) (ho:ShsOk ρ (jOf bl) (cxOf w K g) bl shs) (hap:apart bl shs) (hG:g.G gs (jOf bl) w) (he:zmO P ρ w K g ents) (hl:zqS P ρ w K g lents) (haa:zrR P ρ w K g aents)
  {a:Act} (hN:a.tmps.size=N) (hd:DRo ρ (jOf bl) dfr a.defers) (ha: ∀s∈slots,R ρ (jOf bl) s.2 (a.tmps.getD s.1 undef)) (ht:Told ρ asm):
  (zaK P p).wp P (fun ex a' w'=> ∃q∈ps,Told ρ q.1∧ ∃l,ls[q.2]? =some l∧ex=exOf l.ex∧a'.tmps.size=N∧ ∃j,DRo ρ j l.dfr a'.defers∧zod ρ w K g bl l.leaf (.returned (.tuple (l.slots.map fun t=>a'.tmps.getD t undef).toArray)) w' j) a w:=by
 simp only [Bool.and_eq_true] at hs
 obtain ⟨⟨⟨⟨⟨⟨⟨⟨s1,s2⟩,s5⟩,s9⟩,s3⟩,s4⟩,s6⟩,s7⟩,s8⟩:=hs
 have s7:=Nat.le_of_ble_eq_true s7
 unfold Ob.ways at h
 cases hps:(evL P (zau ents) (zaF lents) (zaE aents) n (.code (zaK P p) p N (envS N slots dfr) (zas gs shs) (zaJ ls 0))).paths asm with
 | none=>rw [hps] at h;cases h
 | some ps0=>
 rw [hps] at h
 cases h
 have h:=hps
 classical
 let m:Nat→Bool:=fun k=>decide (∃p∈ps0,1000000+p.2=k∧Told ρ p.1)
 have hm: ∀p∈ps0,Told ρ p.1→m (1000000+p.2)=true:=fun p hp ht=>by
  show decide _=true
  exact decide_eq_true ⟨p,hp,rfl,ht⟩
 have hdn:=paths_den hm h (fun q hq=>hq) ht
 have hg:=zis (w0:=cxOf w K g) (zgP (zdf m s2 he)) (zhl m s5 hl) (zhw m s9 haa) (fun n rec hg=>zma hmo hg) n
 refine wp_mono (hg.code _ _ _ _ _ _ rfl hdn (jOf bl) a w (zgK hK (zdT m s1 ho) hap hG) (zIi hN ((zwz m s8).2 hd) s7 s6 fun s hs=>(R_mark m (zcE s3 s hs)).2 (ha s hs))) fun ex a' w' hh=> ?_
 obtain ⟨x,env',H',j',rfl,h1,h2,h3,h4⟩:=hh
 obtain ⟨k,l,h5,h6,h7,h8,h9,h10⟩:=zkD h4
 have h10:(if 1000000+(0+k)<1000000 then ρ.b (1000000+(0+k)) else m (1000000+(0+k)))=true:=h10
 rw [if_neg (by omega)] at h10
 obtain ⟨q,hq,hk,hto⟩:=of_decide_eq_true h10
 have:q.2=k:=by omega
 subst this
 obtain ⟨y1,y2⟩:=zeP s4 h5
 obtain ⟨x1,x2,x3,x4⟩:=zce (i:=0) y1 rfl
 refine ⟨(q.1.drop asm.length,q.2),zdh hq,fun c hc=>hto c (List.mem_of_mem_drop hc),l,h5,by rw [h6],h1.size,j',(zwz m y2).1 ?_,zit x1 x2 x3 x4 (zcC (zBE h1 h8)) h2 h3 h9⟩
 have hdf:=h1.dfr
 unfold zv4 at h7
 unfold zaW at hdf
 split at h7
 ·rename_i e1 e2
  rw [e1] at hdf
  rw [e2]
  exact hdf.none rfl
 ·rename_i v u e1 e2
  rw [e1] at hdf
  rw [e2,←AV.beq_eq h7]
  exact hdf
 ·cases h7
theorem zbJ {P:Program} {c:Code} {Q:Exit→Act→World→Prop} {α:Type} (I:α→Act→World→Prop) (μ:α→Nat)
  (h: ∀x a w,I x a w→c.wp P (fun ex a' w'=>match ex with| .normal=> ∃x',μ x'<μ x∧I x' a' w'|ex=>Q ex a' w') a w) (x:α) (a:Act) (w:World) (hI:I x a w):(Code.loop c).wp P Q a w:=by
 have key: ∀n x a w,μ x<n→I x a w→Code.rounds P c Q n a w:=by
  intro n
  induction n with
  | zero=>intro x a w hn;omega
  | succ n ih=>
   intro x a w hn hI
   refine wp_mono (h x a w hI) fun ex a' w' hh=> ?_
   cases ex with
   | normal=>
    obtain ⟨x',h1,h2⟩:=hh
    exact ih x' a' w' (by omega) h2
   | _=>exact hh
 exact wp_loop_rounds (μ x+1) (key (μ x+1) x a w (Nat.lt_succ_self _) hI)
def zFU (P:Program) (p:List Nat):Nat×Nat:=
 match zaK P p with
 | .seq _ _=>(1,0)
 | .block id _=>(2,id)
 | .loop _=>(3,0)
 | .cond _ _ _=>(4,0)
 | _=>(0,0)
theorem zhk {P:Program} {p:List Nat} (hk:(zFU P p).1=3):zaK P p= .loop (zaK P (0::p)):=by
 cases hc:zaK P p with
 | loop x=>rw [zbV hc (by simp)];rfl
 | _=>unfold zFU at hk;rw [hc] at hk;cases hk
theorem zmD {P:Program} {ρ:Val} {w0:World} {K:Nat→Prop} {g:Gho} {e:LEnt} (h:zGe P ρ w0 K g e) (hl: ∃c,zaK P e.p= .loop c:=by exact ⟨_,Go.Dw.zhk (by kernel_rfl)⟩):zkT P ρ w0 K g e:=by
 obtain ⟨c0,hc0⟩:=hl
 intro c hc
 rw [hc0] at hc
 subst hc
 exact h c0 hc0
theorem zfS {P:Program} {ρ:Val} {w0:World} {K:Nat→Prop} {g:Gho} {e:LEnt} (hn:e.nopq=0) (hg: ∀d∈e.ends,d.gs=e.gs)
    (h: ∀c,zaK P e.p= .loop c→ ∀(j:J) (a:Act) (w:World) (F:Nat→Prop),a.tmps.size=e.n→a.defers= []→(∀s∈e.slots,s.1<e.n∧R ρ j s.2 (a.tmps.getD s.1 undef))→(∀r∈e.rows,∀L,j r.1=some L→ ¬F L.blk∧ ∃vals,RL ρ j r.2 vals∧Row w L vals)→g.fact e.gs (opqs j) F w→w0.heap.size≤w.heap.size→(∀i,i<w0.heap.size→ ¬K i→w.heap[i]? =w0.heap[i]?)→
      (Code.loop c).wp P (fun ex a' w'=> ∃d,zns ρ e.ends=some d∧ex=exOf d.ex∧a'.tmps.size=e.n∧a'.defers= []∧(∀t∈e.keep,a'.tmps.getD t undef=a.tmps.getD t undef)∧(∀s∈d.slots,R ρ j s.2 (a'.tmps.getD s.1 undef))∧Below w.heap.size w w') a w) (hl: ∃c,zaK P e.p= .loop c:=by exact ⟨_,Go.Dw.zhk (by kernel_rfl)⟩):zkT P ρ w0 K g e:=zmD (zqT hn hg h) hl
end Go.Dw
namespace Go.Proofs
open Go.Dw Go.RowKit
def Tryz.ckL (l:List (SE×Nat)):AV:= .sx 0 (lnv 0) 3 l
def Tryz.ckD:AV:= .tup [.func 115 [] [.ptr 1 0,.ptr 2 0],.tup []]
def Tryz.zht (k:SE) (l:List (SE×Nat)):List (Nat×AV):= [(0,ckL l),(2,.ptr 1 0),(3,.ptr 2 0),(10,ckL l),(11,.int .i64 (lnv 0)),(12,.int .i64 k)]
def Tryz.zEG (e:SE) (r:List Sh):List Sh:= .own [.int .i64 e]:: .own [.int .u64 (u64v 2)]::r
def Tryz.ckEl (a n b:Nat):Sh:= .ro [.int .u64 (u64v a),.int .u32 (u32v n),.bool (.var b)]
end Go.Proofs
namespace Go.Proofs
open Go.Dw
def Tryz.zrE:List Ent:= []
def Tryz.zwl:List Sh:=zEG (.lit 0) [ckEl 3 4 0]
def Tryz.zfq:List (Nat×AV):=zht (.lit 0) [(.lit 0,3)]
def Tryz.zmZ:List LEnt:= []
def Tryz.zm0:List AEnt:= []
def Tryz.zwm:Option AV:=some ckD
def Tryz.zEE:List (SB×Bool):= []
def Tryz.zB5:List zbo:= [
 ⟨.ret,[2],(some (.tup [.func 115 [] [.ptr 1 0,.ptr 2 0],.tup []])),⟨.tup [.ptr 1 0],[(1,[.int .i64 (.lit 2)]),(2,[.int .u64 (u64v 2)])],[],0,[1,2]⟩⟩,
 ⟨.normal,[0,2,3,10,11,12],(some (.tup [.func 115 [] [.ptr 1 0,.ptr 2 0],.tup []])),⟨.tup [.sx 0 ((lnv 0)) 3 [((.lit 0),3)],.ptr 1 0,.ptr 2 0,.sx 0 ((lnv 0)) 3 [((.lit 0),3)],.int .i64 (lnv 0),.int .i64 (.lit 1)],[(1,[.int .i64 (.lit 0)]),(2,[.int .u64 (.bin .add .u64 (u64v 2) (u32v 4))])],[],0,[1,2]⟩⟩,
 ⟨(.exit 0),[2],(some (.tup [.func 115 [] [.ptr 1 0,.ptr 2 0],.tup []])),⟨.tup [.ptr 1 0],[(1,[.int .i64 (.lit 0)]),(2,[.int .u64 (u64v 2)])],[],0,[1,2]⟩⟩]
def Tryz.zB4:List (List (SB×Bool)×Nat):= [
 ([((.cmp .lss (.lit 0) (lnv 0)),true),((.cmp .lss (u32v 4) (.lit 1)),true)],0),
 ([((.cmp .lss (.lit 0) (lnv 0)),true),((.cmp .lss (u32v 4) (.lit 1)),false),((.cmp .gtr (.bin .sub .u64 (u32v 4) (.lit 1)) (.bin .sub .u64 (.lit 18446744073709551615) (u64v 3))),true)],0),
 ([((.cmp .lss (.lit 0) (lnv 0)),true),((.cmp .lss (u32v 4) (.lit 1)),false),((.cmp .gtr (.bin .sub .u64 (u32v 4) (.lit 1)) (.bin .sub .u64 (.lit 18446744073709551615) (u64v 3))),false)],1),
 ([((.cmp .lss (.lit 0) (lnv 0)),false)],2)]
theorem Tryz.zED:(evL prog (zau zrE) (zaF zmZ) (zaE zm0) 100000 (.code (zaK prog [0,0,1,0,1,1,1,1,84]) [0,0,1,0,1,1,1,1,84] 53 (envS 53 zfq zwm) (zas 0 zwl) (zaJ zB5 0))).ways zEE=some zB4:=by kernel_rfl
theorem Tryz.zID:(zai zwl&&zaf zrE&&zam zmZ&&zan zm0&&zaq zfq&&zak zB5&&zaH 53 zfq&&Nat.ble 53 zaP&&zaC zwm)=true:=by kernel_rfl
def Tryz.zrD:List Ent:= []
def Tryz.zwj:List Sh:=zEG (.lit 0) [ckEl 3 4 0,ckEl 5 6 1]
def Tryz.zfp:List (Nat×AV):=zht (lnv 1) [(lnv 1,3),(.bin .sub .i64 (lnv 1) (.lit 1),4)]
def Tryz.zmX:List LEnt:= []
def Tryz.zmY:List AEnt:= []
def Tryz.zwk:Option AV:=some ckD
def Tryz.zEC:List (SB×Bool):= [(.cmp .lss (lnv 1) (lnv 0),true),(.cmp .gtr (lnv 1) (.lit 0),true)]
def Tryz.zB3:List zbo:= [
 ⟨.ret,[2],(some (.tup [.func 115 [] [.ptr 1 0,.ptr 2 0],.tup []])),⟨.tup [.ptr 1 0],[(1,[.int .i64 (.lit 2)]),(2,[.int .u64 (u64v 2)])],[],0,[1,2]⟩⟩,
 ⟨.normal,[0,2,3,10,11,12],(some (.tup [.func 115 [] [.ptr 1 0,.ptr 2 0],.tup []])),⟨.tup [.sx 0 ((lnv 0)) 3 [((lnv 1),3),((.bin .sub .i64 (lnv 1) (.lit 1)),4)],.ptr 1 0,.ptr 2 0,.sx 0 ((lnv 0)) 3 [((lnv 1),3),((.bin .sub .i64 (lnv 1) (.lit 1)),4)],.int .i64 (lnv 0),.int .i64 (.bin .add .i64 (lnv 1) (.lit 1))],[(1,[.int .i64 (.lit 0)]),(2,[.int .u64 (.bin .add .u64 (u64v 2) (u32v 4))])],[],0,[1,2]⟩⟩]
def Tryz.zB2:List (List (SB×Bool)×Nat):= [
 ([((.cmp .lss (u32v 4) (.lit 1)),true)],0),
 ([((.cmp .lss (u32v 4) (.lit 1)),false),((.cmp .gtr (.bin .sub .u64 (u32v 4) (.lit 1)) (.bin .sub .u64 (.lit 18446744073709551615) (u64v 3))),true)],0),
 ([((.cmp .lss (u32v 4) (.lit 1)),false),((.cmp .gtr (.bin .sub .u64 (u32v 4) (.lit 1)) (.bin .sub .u64 (.lit 18446744073709551615) (u64v 3))),false),(.var 1,true),(.var 0,false)],0),
 ([((.cmp .lss (u32v 4) (.lit 1)),false),((.cmp .gtr (.bin .sub .u64 (u32v 4) (.lit 1)) (.bin .sub .u64 (.lit 18446744073709551615) (u64v 3))),false),(.var 1,true),(.var 0,true)],1),
 ([((.cmp .lss (u32v 4) (.lit 1)),false),((.cmp .gtr (.bin .sub .u64 (u32v 4) (.lit 1)) (.bin .sub .u64 (.lit 18446744073709551615) (u64v 3))),false),(.var 1,false)],1)]
theorem Tryz.zEB:(evL prog (zau zrD) (zaF zmX) (zaE zmY) 100000 (.code (zaK prog [0,0,1,0,1,1,1,1,84]) [0,0,1,0,1,1,1,1,84] 53 (envS 53 zfp zwk) (zas 0 zwj) (zaJ zB3 0))).ways zEC=some zB2:=by kernel_rfl
theorem Tryz.zIC:(zai zwj&&zaf zrD&&zam zmX&&zan zmY&&zaq zfp&&zak zB3&&zaH 53 zfp&&Nat.ble 53 zaP&&zaC zwk)=true:=by kernel_rfl
def Tryz.zrC:List Ent:= []
def Tryz.zwh:List Sh:=zEG (.lit 0) []
def Tryz.zfo:List (Nat×AV):=zht (lnv 1) []
def Tryz.zmV:List LEnt:= []
def Tryz.zmW:List AEnt:= []
def Tryz.zwi:Option AV:=some ckD
def Tryz.zEA:List (SB×Bool):= [(.cmp .lss (lnv 1) (lnv 0),false)]
def Tryz.zB1:List zbo:= [
 ⟨(.exit 0),[2],(some (.tup [.func 115 [] [.ptr 1 0,.ptr 2 0],.tup []])),⟨.tup [.ptr 1 0],[(1,[.int .i64 (.lit 0)]),(2,[.int .u64 (u64v 2)])],[],0,[1,2]⟩⟩]
def Tryz.zB0:List (List (SB×Bool)×Nat):= [
 ([], 0)]
theorem Tryz.zEz:(evL prog (zau zrC) (zaF zmV) (zaE zmW) 100000 (.code (zaK prog [0,0,1,0,1,1,1,1,84]) [0,0,1,0,1,1,1,1,84] 53 (envS 53 zfo zwi) (zas 0 zwh) (zaJ zB1 0))).ways zEA=some zB0:=by kernel_rfl
theorem Tryz.zIB:(zai zwh&&zaf zrC&&zam zmV&&zan zmW&&zaq zfo&&zak zB1&&zaH 53 zfo&&Nat.ble 53 zaP&&zaC zwi)=true:=by kernel_rfl
def Tryz.zwg:List Ent:= []
def Tryz.zBY:List Sh:=zEG (.lit 0) []
def Tryz.zgT:List (Nat×AV):= [(2,.ptr 1 0)]
def Tryz.zrA:List LEnt:= []
def Tryz.zrB:List AEnt:= []
def Tryz.zBZ:Option AV:=some ckD
def Tryz.zIA:List (SB×Bool):= []
def Tryz.zF0:List zbo:= [
 ⟨.ret,[2],(some (.tup [.func 115 [] [.ptr 1 0,.ptr 2 0],.tup []])),⟨.tup [.ptr 1 0],[(1,[.int .i64 (.lit 0)]),(2,[.int .u64 (u64v 2)])],[],0,[1,2]⟩⟩]
def Tryz.zFZ:List (List (SB×Bool)×Nat):= [
 ([], 0)]
theorem Tryz.zIz:(evL prog (zau zwg) (zaF zrA) (zaE zrB) 100000 (.code (zaK prog [1,1,1,1,1,84]) [1,1,1,1,1,84] 53 (envS 53 zgT zBZ) (zas 0 zBY) (zaJ zF0 0))).ways zIA=some zFZ:=by kernel_rfl
theorem Tryz.zJ9:(zai zBY&&zaf zwg&&zam zrA&&zan zrB&&zaq zgT&&zak zF0&&zaH 53 zgT&&Nat.ble 53 zaP&&zaC zBZ)=true:=by kernel_rfl
open Go.RowKit
def Tryz.sK (S M B b:Nat):Prop:=b=S∨b=M∨b=B
theorem Tryz.zJT {S:Nat→Prop} {a b:World} (h:Mv S a b):Dw.Mv S a b:=⟨h.os,h.tape,h.output,h.size,h.block⟩
def Tryz.memG (P L Bs B N:Nat) (gs:List (Nat→Int)):Gho where
 fact k _ F w:=F P∧F L∧F Bs∧F B∧ ∃g,gs[k]? =some g∧GM w P L Bs B N g
 loc:=fun k _ _ F w w' h _ hb hs=>by
  obtain ⟨h1,h2,h3,h4,g,h5,h6⟩:=h
  exact ⟨h1,h2,h3,h4,g,h5,h6.kept (fun b _ hb'=>by rcases hb' with rfl|rfl|rfl|rfl<;>exact hb _ (by assumption)) hs⟩
theorem Tryz.za7 {P L Bs B N:Nat} {g:Nat→Int} {gs:List (Nat→Int)} {bl:List (Nat×Nat)} {w:World} (h:GM w P L Bs B N g) (hn: ∀b,b=P∨b=L∨b=Bs∨b=B→ ¬Mine (jOf bl) b):(memG P L Bs B N (g::gs)).G 0 (jOf bl) w:=
 ⟨fun b=>b=P∨b=L∨b=Bs∨b=B,fun b hb=>⟨by rcases hb with rfl|rfl|rfl|rfl;exact h.pl;exact h.ll;exact h.sl;exact h.bl,hn b hb⟩,.inl rfl,.inr (.inl rfl),.inr (.inr (.inl rfl)),.inr (.inr (.inr rfl)),g,rfl,h⟩
theorem Tryz.zbZ {P L Bs B N k:Nat} {gs:List (Nat→Int)} {j:J} {w:World} (h:(memG P L Bs B N gs).G k j w): ∃g,gs[k]? =some g∧GM w P L Bs B N g:=by
 obtain ⟨F,_,_,_,_,_,h⟩:=h
 exact h
theorem Tryz.za6 {w:World} {S:Nat} {ρ:Val} {j:J} {K:Nat→Prop} {g:Gho} {row:List AV} {vals:List Value} (h:Own w S vals) (hr:RL ρ j row vals) (hK:K S):ShOk ρ j (cxOf w K g) (S,0) (.own row):=by
 obtain ⟨arr,e,h1,h2⟩:=h
 exact ⟨hK,rfl,vals,arr,e,h1,hr,h2⟩
theorem Tryz.zBg {P L Bs B N k:Nat} {g:Nat→Int} {w:World} (st:GM w P L Bs B N g) (hN:N≤1048576) (hk:k=1∨k=2∨k=4∨k=8) {a:Int} (h0:0≤a) (hin:a+k≤N):
  Calls prog 53 #[.pointer (some ⟨P,0,none⟩),.int .u64 a,.int .i64 k] w fun e w'=>e= .returned (.tuple #[.int .u64 (zah g a.toNat k),.int .i64 0])∧Below w.heap.size w w':=by
 have:=zH3 P L Bs B N a.toNat k g w st hN hk (by omega)
 rwa [Int.toNat_of_nonneg h0] at this
theorem Tryz.zCP {P L Bs B N k:Nat} {g:Nat→Int} {w:World} (st:GM w P L Bs B N g) (hN:N≤1048576) (hk:k=1∨k=2∨k=4∨k=8) {a:Int} (v:Int) (h0:0≤a) (hin:a+k≤N):
  Calls prog 25 #[.pointer (some ⟨P,0,none⟩),.int .u64 a,.int .i64 k,.int .u64 v] w fun e w'=>e= .returned (.int .i64 0)∧GM w' P L Bs B N (putW g a.toNat k v)∧Dw.Mv (· =B) w w':=by
 have:=zCO P L Bs B N a.toNat k v g w st hN hk (by omega)
 rw [Int.toNat_of_nonneg h0] at this
 exact Calls.mono this fun e w' ⟨h1,h2,h3⟩=>⟨h1,h2,zJT h3⟩
def Tryz.accV (k w i:Int):Value:= .agg #[.int .i64 k,.int .i64 w,.int .i64 i]
theorem Tryz.zbH {ρ:Val} {j:J} {K:Nat→Prop} {w0 w:World}: ∀ {rows:List (Nat×List AV)},zww ρ j K w0 w rows→ ∀ {n:Nat} {row:List AV},(n,row)∈rows→ ∀L,j n=some L→Row w L (AV.valL ρ (lcOf j) row)∧((w0.heap.size≤L.blk∨K L.blk)→L.off=0→Own w L.blk (AV.valL ρ (lcOf j) row))
 | [], _,_,_,h=>by cases h
 | x::l,ho,n,row,h=>by
  rcases List.mem_cons.1 h with rfl|h
  ·exact ho.1
  ·exact zbH ho.2 h
theorem Tryz.SegV.none {A:Nat→Prop} {w:World}:SegV A w (.slice none 0 0) []:=⟨Option.none,0,rfl,fun _ h=>(by cases h),Or.inl rfl⟩
theorem Tryz.zKa {g:Nat→Int} (hg: ∀j,0≤g j∧g j<256) (a:Nat):0≤zah g a 2∧zah g a 2<65536:=zbt g hg a 2
theorem Tryz.z16:(0:Int)≤0∧(0:Int)<65536:=by decide
theorem Tryz.z32:(0:Int)≤0∧(0:Int)<4294967296:=by decide
def Tryz.za4 (pw:Bool) (sum:Int):List Sg→Int
 | [] => if 4294967296≤sum then 2 else 0
 | x::r=>if x.len<1∨18446744073709551615-x.at1<x.len-1∨(pw=true∧x.wr=false) then 2 else za4 x.wr (sum+x.len) r
def Tryz.zaU (l:List Sg):Int:=if 64<l.length then 3 else za4 false 0 l
theorem Tryz.zby {P:Program} {c c':Code} {Q:Exit→Act→World→Prop} {a:Act} {w:World} (e:c=c') (h:c'.wp P Q a w):c.wp P Q a w:=e▸h
structure Tryz.CkI (l:List Sg) (sa:Option Addr) (c E C:Nat) (w0:World) (k:Nat) (a:Act) (w:World):Prop where
 kl:k≤l.length
 size:a.tmps.size=53
 s0:a.tmps.getD 0 undef= .slice sa l.length c
 s2:a.tmps.getD 2 undef= .pointer (some ⟨E,0,none⟩)
 s3:a.tmps.getD 3 undef= .pointer (some ⟨C,0,none⟩)
 s10:a.tmps.getD 10 undef= .slice sa l.length c
 s11:a.tmps.getD 11 undef= .int .i64 l.length
 s12:a.tmps.getD 12 undef= .int .i64 k
 dfr: ∃d,a.defers= [d]∧ ∃args cap,d.target= .fn (.func 115) cap∧d.args=args∧(args++cap).toList= [.pointer (some ⟨E,0,none⟩),.pointer (some ⟨C,0,none⟩)]
 mv:Dw.Mv (fun b=>b=E∨b=C) w0 w
 sum: ∃pw s,Own w E [.int .i64 0]∧Own w C [.int .u64 s]∧0≤s∧s≤k*4294967296∧za4 pw s (l.drop k)=za4 false 0 l∧(k=0→pw=false)∧(∀i,k=i+1→ ∃h:i<l.length,pw=l[i].wr)
def Tryz.zb9 (n k s:Int) (x y:Sg) (sl:Value):Val:=vof [n,k,s,x.at1,x.len,y.at1,y.len] [x.wr,y.wr] [sl]
theorem Tryz.zh3 {ρ:Val} {j:J} {E C:Nat} {ds:List Deferred} (h:DRo ρ j (some ckD) ds) (h1:j 1=some ⟨E,0,0,none⟩) (h2:j 2=some ⟨C,0,0,none⟩):
  ∃ d,ds= [d]∧ ∃args cap,d.target= .fn (.func 115) cap∧d.args=args∧(args++cap).toList= [.pointer (some ⟨E,0,none⟩),.pointer (some ⟨C,0,none⟩)]:=by
 cases ds with
 | nil=>cases h
 | cons d ds=>
  obtain ⟨g,args,rest,cap,e1,e2,e3,e4⟩:=h
  unfold ckD at e1
  cases e1
  cases ds with
  | cons d' ds'=>obtain ⟨_,_,_,_,e,_⟩:=e4;cases e
  | nil=>
   refine ⟨d,rfl,d.args,cap,e2,rfl,?_⟩
   obtain ⟨v1,m1,q1,⟨L1,r1,rfl⟩,v2,m2,rfl,⟨L2,r2,rfl⟩,q3⟩:=e3
   rw [h1] at r1;cases r1
   rw [h2] at r2;cases r2
   have q3:m2= []:=q3
   rw [q1,q3]
theorem Tryz.ck_dfr' {ρ:Val} {j:J} {E C:Nat} {ds:List Deferred} (h1:j 1=some ⟨E,0,0,none⟩) (h2:j 2=some ⟨C,0,0,none⟩)
  (h: ∃d,ds= [d]∧ ∃args cap,d.target= .fn (.func 115) cap∧d.args=args∧(args++cap).toList= [.pointer (some ⟨E,0,none⟩),.pointer (some ⟨C,0,none⟩)]):DRo ρ j (some ckD) ds:=by
 obtain ⟨d,rfl,args,cap,e1,rfl,e3⟩:=h
 exact ⟨_,_,_,cap,rfl,e1,by rw [e3];exact zab (zcj h1) (zab (zcj h2) RL.nil),rfl⟩
theorem Tryz.zpj {w:World} {R o:Nat} {vs:List Value} (h:w.rangeAt R o vs) (h0:vs≠ []): ∃(arr:Array Value) (e:TypeId) (fr:Nat×Nat),w.heap[R]? =some (.cells arr e fr)∧o+vs.length≤arr.size∧ ∀(i:Nat) (y:Value),vs[i]? =some y→arr[o+i]? =some y:=by
 have hc: ∀(i:Nat) (y:Value),vs[i]? =some y→ ∃arr e fr,w.heap[R]? =some (.cells arr e fr)∧arr[o+i]? =some y:=fun i y hy=>by
  have:=h i y hy
  unfold World.cell? at this
  split at this
  ·rename_i arr e fr he
   exact ⟨arr,e,fr,he,this⟩
  ·cases this
 obtain ⟨y0,hy0⟩: ∃y,vs[0]? =some y:=⟨vs[0]'(List.length_pos_iff.2 h0),List.getElem?_eq_getElem (List.length_pos_iff.2 h0)⟩
 obtain ⟨arr,e,fr,he,_⟩:=hc 0 y0 hy0
 refine ⟨arr,e,fr,he,?_,fun i y hy=> ?_⟩
 ·have hl:vs.length-1<vs.length:=by have:=List.length_pos_iff.2 h0;omega
  obtain ⟨arr',e',fr',he',hy'⟩:=hc (vs.length-1) _ (List.getElem?_eq_getElem hl)
  rw [he] at he';cases he'
  have:=(Array.getElem?_eq_some_iff.1 hy').1
  omega
 ·obtain ⟨arr',e',fr',he',hy'⟩:=hc i y hy
  rw [he] at he';cases he'
  exact hy'
theorem Tryz.zba {w:World} {X o:Nat} {ρ:Val} {j:J} {K:Nat→Prop} {g:Gho} {row:List AV} {vals:List Value} (h:w.rangeAt X o vals) (h0:vals≠ []) (hr:RL ρ j row vals) (hK: ¬K X):ShOk ρ j (cxOf w K g) (X,o) (.ro row):=by
 obtain ⟨arr,e,fr,h1,h2,h3⟩:=zpj h h0
 exact ⟨hK,vals,arr,e,fr,h1,hr,by rw [←RL.length hr];exact h2,h3⟩
structure Tryz.CkO (E C:Nat) (w0:World) (e s:Int) (a:Act) (w:World):Prop where
 size:a.tmps.size=53
 s2:a.tmps.getD 2 undef= .pointer (some ⟨E,0,none⟩)
 dfr: ∃d,a.defers= [d]∧ ∃args cap,d.target= .fn (.func 115) cap∧d.args=args∧(args++cap).toList= [.pointer (some ⟨E,0,none⟩),.pointer (some ⟨C,0,none⟩)]
 mv:Dw.Mv (fun b=>b=E∨b=C) w0 w
 oE:Own w E [.int .i64 e]
 oC:Own w C [.int .u64 s]
theorem Tryz.zaB {ρ:Val} {lc:Nat→Dw.Loc} {L:List Value} {vs:List AV} (h:Ending.returned (.tuple L.toArray)= .returned ((AV.tup vs).val ρ lc)):L=AV.valL ρ lc vs:=by
 injection h with h
 unfold AV.val at h
 injection h with h
 simpa using congrArg Array.toList h
theorem Tryz.zEF {l:List Sg} {sa:Option Addr} {c E C:Nat} {w0:World} {k:Nat} {a:Act} {w:World} (h:CkI l sa c E C w0 k a w) (hl:l.length≤64) (hok: ∀x∈l,x.ok) (hne:E≠C) (hE:E<w0.heap.size) (hC:C<w0.heap.size)
    (hr:l= []∨ ∃R o,sa=some ⟨R,o,none⟩∧R≠E∧R≠C∧w0.rangeAt R o (zaS l)):
    (zaK prog [0,0,1,0,1,1,1,1,84]).wp prog (fun ex a' w'=>match ex with
      | .normal=>k<l.length∧CkI l sa c E C w0 (k+1) a' w'
      | ex=>(ex= .ret∧za4 false 0 l=2∧ ∃s,CkO E C w0 2 s a' w')∨(ex= .exit 0∧ ∃s,0≤s∧s<18446744073709551616∧za4 false 0 l=(if 4294967296≤s then 2 else 0)∧CkO E C w0 0 s a' w')) a w:=by
  obtain ⟨kl,size,s0,s2,s3,s10,s11,s12,dfr,mv,pw,s,oE,oC,hs0,hs1,hsw,hp0,hp1⟩:=h
  have hEw:E<w.heap.size:=own_lt oE
  have hCw:C<w.heap.size:=own_lt oC
  have hK: ∀b,(b=E∨b=C)→b<w.heap.size:=fun b hb=>by rcases hb with rfl|rfl<;>assumption
  by_cases hkl:k<l.length
  · rcases hr with h0|⟨R,o,rfl,hRE,hRC,hr⟩
    · rw [h0] at hkl;simp at hkl
    have hRw0:=zcF hr (by intro h0;rw [h0] at hkl;simp at hkl)
    have hrw:w.rangeAt R o (zaS l):=zaV hr (mv.block R hRw0 (by rintro (e|e)<;>contradiction))
    have hx:=zb0 hrw k hkl
    have hxo:=hok l[k] (List.getElem_mem hkl)
    rw [List.drop_eq_getElem_cons hkl] at hsw
    have hKR: ¬(R=E∨R=C):=by rintro (e|e)<;>contradiction
    generalize hX:l[k]=X at hx hxo hsw
    obtain ⟨xa0,xa1,xl0,xl1⟩:=hxo
    rw [za4] at hsw
    have fin: ∀ {a':Act} {w':World} {ρ:Val} {j:J},a'.tmps.size=53→DRo ρ j (some ckD) a'.defers→j 1=some ⟨E,0,0,none⟩→j 2=some ⟨C,0,0,none⟩→Dw.Mv (fun b=>b=E∨b=C) w w'→
        Own w' E [.int .i64 0]→Own w' C [.int .u64 (s+X.len)]→
        ([0,2,3,10,11,12].map fun t=>a'.tmps.getD t undef)= [.slice (some ⟨R,o,none⟩) l.length c,.pointer (some ⟨E,0,none⟩),.pointer (some ⟨C,0,none⟩),.slice (some ⟨R,o,none⟩) l.length c,.int .i64 l.length,.int .i64 (k+1)]→
        za4 X.wr (s+X.len) (l.drop (k+1))=za4 false 0 l→k<l.length∧CkI l (some ⟨R,o,none⟩) c E C w0 (k+1) a' w':=fun {a' w' ρ j} q1 q2 q3 q4 q5 q6 q7 q8 q9=>by
      simp only [List.map_cons,List.map_nil,List.cons.injEq,and_true] at q8
      obtain ⟨t0,t2,t3,t10,t11,t12⟩:=q8
      refine ⟨hkl,⟨by omega,q1,t0,t2,t3,t10,t11,by rw [t12];norm_cast,zh3 q2 q3 q4,mv.trans q5,X.wr,s+X.len,q6,q7,by omega,by push_cast;omega,q9,by omega,fun i hi=> ?_⟩⟩
      have:k=i:=by omega
      subst this
      exact ⟨hkl,by rw [hX]⟩
    have hden: ∀(n k' s':Int) (x y:Sg) (sl:Value),n=l.length→0≤k'→k'<64→0≤s'→s'<18446744073709551616→x.ok→(lnv 0).den (zb9 n k' s' x y sl)=l.length∧(lnv 1).den (zb9 n k' s' x y sl)=k'∧(u64v 2).den (zb9 n k' s' x y sl)=s'∧(u64v 3).den (zb9 n k' s' x y sl)=x.at1∧(u32v 4).den (zb9 n k' s' x y sl)=x.len:=fun n k' s' x y sl h1 h2 h3 h4 h5 h6=>by
      subst h1
      exact ⟨zat (by show (0:Int)≤l.length;omega) (by show ((l.length:Nat):Int)<_;omega),zat h2 (by show k'<_;omega),zaG h4 h5,zaG h6.1 h6.2.1,zbx h6.2.2.1 h6.2.2.2⟩
    have hXok:X.ok:=⟨xa0,xa1,xl0,xl1⟩
    have hwl:IntKind.wrap .u64 (X.len-1)=(X.len-1)%18446744073709551616:=zoe _
    have hwa:IntKind.wrap .u64 (18446744073709551615-X.at1)=18446744073709551615-X.at1:=zbE (by omega) (by omega)
    have hws:IntKind.wrap .u64 (s+X.len)=s+X.len:=zbE (by omega) (by omega)
    rcases Nat.eq_zero_or_pos k with hk0|hk0
    · subst hk0
      have hpw:=hp0 rfl
      subst hpw
      obtain ⟨d0,d1,d2,d3,d4⟩:=hden l.length 0 s X X (.slice (some ⟨R,o,none⟩) l.length c) rfl (by omega) (by omega) hs0 (by omega) hXok
      have hj1:jOf [(E,0),(C,0),(R,o)] 1=some ⟨E,0,0,none⟩:=rfl
      have hj2:jOf [(E,0),(C,0),(R,o)] 2=some ⟨C,0,0,none⟩:=rfl
      have hj3:jOf [(E,0),(C,0),(R,o)] 3=some ⟨R,o,0,none⟩:=rfl
      have hsx:Dw.R (zb9 l.length 0 s X X (.slice (some ⟨R,o,none⟩) l.length c)) (jOf [(E,0),(C,0),(R,o)]) (ckL [(.lit 0,3)]) (.slice (some ⟨R,o,none⟩) l.length c):=⟨rfl,_,_,_,rfl,d0.symm,⟨R,o,_,0,rfl,hj3,rfl,rfl,hkl,rfl⟩,trivial⟩
      refine wp_mono (zaz (ρ:=zb9 l.length 0 s X X (.slice (some ⟨R,o,none⟩) l.length c)) (K:=fun b=>b=E∨b=C) (g:=Gho.none) (bl:= [(E,0),(C,0),(R,o)]) mixed zED zID hK
        ⟨za6 oE (zab (zac rfl) RL.nil) (.inl rfl),za6 oC (zab (zac d2) RL.nil) (.inr rfl),zba hx (by unfold Sg.cells;simp) (zab (zac d3) (zab (zac d4) (zab (zap rfl) RL.nil))) hKR,trivial⟩
        ⟨fun _ i b' s' h1 h2 h3=>(by match i,h1,h2 with|0,h1,_=>cases h1;exact hne|1,_,h2=>cases h2;cases h3|i+2,h1,_=>cases h1),fun _ i b' s' h1 h2 h3=>(by match i,h1,h2 with|0,_,h2=>cases h2;cases h3|i+1,h1,_=>cases h1),fun h=>(by cases h),trivial⟩
        zaO trivial trivial trivial size (ck_dfr' hj1 hj2 dfr) ?_ (zae.2 trivial)) fun ex a' w' hh=> ?_
      · intro t ht
        simp only [zfq,zht,List.mem_cons,List.not_mem_nil,or_false] at ht
        rcases ht with rfl|rfl|rfl|rfl|rfl|rfl
        · rw [s0];exact hsx
        · rw [s2];exact zcj hj1
        · rw [s3];exact zcj hj2
        · rw [s10];exact hsx
        · rw [s11];exact zac d0
        · rw [s12];exact zac rfl
      · obtain ⟨q,hq,hto,lf,hlf,rfl,hsz,j,hdf,he⟩:=hh
        have hj1':=he.sub _ _ hj1
        have hj2':=he.sub _ _ hj2
        unfold zB4 at hq
        simp only [List.mem_cons,List.not_mem_nil,or_false] at hq
        rcases hq with rfl|rfl|rfl|rfl
        all_goals
          simp only [zaa,zae,zbC,zaY,zaA,zbs,zad,d0,d1,d2,d3,d4,hwl,hwa,decide_eq_true_eq,decide_eq_false_iff_not,and_true] at hto
          cases hlf
        · exact .inl ⟨rfl,by rw [←hsw,if_pos (by omega)],_,hsz,by have:=zaB he.ret;simpa [AV.valL,AV.val,zag hj1'] using this,zh3 hdf hj1' hj2',mv.trans he.mv,(he.rows.1 _ hj1').2 (.inr (.inl rfl)) rfl,(he.rows.2.1 _ hj2').2 (.inr (.inr rfl)) rfl⟩
        · exact .inl ⟨rfl,by rw [←hsw,if_pos (by omega)],_,hsz,by have:=zaB he.ret;simpa [AV.valL,AV.val,zag hj1'] using this,zh3 hdf hj1' hj2',mv.trans he.mv,(he.rows.1 _ hj1').2 (.inr (.inl rfl)) rfl,(he.rows.2.1 _ hj2').2 (.inr (.inr rfl)) rfl⟩
        · refine fin hsz hdf hj1' hj2' he.mv ((he.rows.1 _ hj1').2 (.inr (.inl rfl)) rfl) ?_ ?_ ?_
          · have:=(he.rows.2.1 _ hj2').2 (.inr (.inr rfl)) rfl
            simpa only [AV.valL,AV.val,den_add,d2,d4,hws] using this
          · have:=zaB he.ret
            rw [this]
            simp only [AV.valL,AV.val,zag hj1',zag hj2',d0,zad]
            rfl
          · rw [←hsw,if_neg (by rintro (h|h|⟨h,_⟩);omega;omega;cases h)]
        · omega
    · obtain ⟨i,rfl⟩: ∃i,k=i+1:=⟨k-1,by omega⟩
      obtain ⟨hil,hpw⟩:=hp1 i rfl
      have hy:=zb0 hrw i hil
      have hyo:=hok l[i] (List.getElem_mem hil)
      generalize hY:l[i]=Y at hy hyo hpw
      subst hpw
      have hkk:IntKind.wrap .i64 (((i+1:Nat):Int)+1)=((i+1:Nat):Int)+1:=zbL (by omega) (by omega)
      have hk1:IntKind.wrap .i64 (((i+1:Nat):Int)-1)=(i:Int):=by rw [zbL (by omega) (by omega)];omega
      obtain ⟨d0,d1,d2,d3,d4⟩:=hden l.length (i+1:Nat) s X Y (.slice (some ⟨R,o,none⟩) l.length c) rfl (by omega) (by omega) hs0 (by omega) hXok
      have hj1:jOf [(E,0),(C,0),(R,o+3*(i+1)),(R,o+3*i)] 1=some ⟨E,0,0,none⟩:=rfl
      have hj2:jOf [(E,0),(C,0),(R,o+3*(i+1)),(R,o+3*i)] 2=some ⟨C,0,0,none⟩:=rfl
      have hj3:jOf [(E,0),(C,0),(R,o+3*(i+1)),(R,o+3*i)] 3=some ⟨R,o+3*(i+1),0,none⟩:=rfl
      have hj4:jOf [(E,0),(C,0),(R,o+3*(i+1)),(R,o+3*i)] 4=some ⟨R,o+3*i,0,none⟩:=rfl
      have hsx:Dw.R (zb9 l.length (i+1:Nat) s X Y (.slice (some ⟨R,o,none⟩) l.length c)) (jOf [(E,0),(C,0),(R,o+3*(i+1)),(R,o+3*i)]) (ckL [(lnv 1,3),(.bin .sub .i64 (lnv 1) (.lit 1),4)]) (.slice (some ⟨R,o,none⟩) l.length c):=⟨rfl,_,_,_,rfl,d0.symm,⟨R,o,_,i+1,rfl,hj3,rfl,d1,hkl,rfl⟩,⟨R,o,_,i,rfl,hj4,rfl,by rw [zbs,d1,zad];exact hk1,hil,rfl⟩,trivial⟩
      refine wp_mono (zaz (ρ:=zb9 l.length (i+1:Nat) s X Y (.slice (some ⟨R,o,none⟩) l.length c)) (K:=fun b=>b=E∨b=C) (g:=Gho.none) (bl:= [(E,0),(C,0),(R,o+3*(i+1)),(R,o+3*i)]) mixed zEB zIC hK
        ⟨za6 oE (zab (zac rfl) RL.nil) (.inl rfl),za6 oC (zab (zac d2) RL.nil) (.inr rfl),zba hx (by unfold Sg.cells;simp) (zab (zac d3) (zab (zac d4) (zab (zap rfl) RL.nil))) hKR,zba hy (by unfold Sg.cells;simp) (zab (zac (zaG hyo.1 hyo.2.1)) (zab (zac (zbx hyo.2.2.1 hyo.2.2.2)) (zab (zap rfl) RL.nil))) hKR,trivial⟩
        ⟨fun _ i b' s' h1 h2 h3=>(by match i,h1,h2 with|0,h1,_=>cases h1;exact hne|1,_,h2=>cases h2;cases h3|2,_,h2=>cases h2;cases h3|i+3,h1,_=>cases h1),fun _ i b' s' h1 h2 h3=>(by match i,h1,h2 with|0,_,h2=>cases h2;cases h3|1,_,h2=>cases h2;cases h3|i+2,h1,_=>cases h1),fun h=>(by cases h),fun h=>(by cases h),trivial⟩
        zaO trivial trivial trivial size (ck_dfr' hj1 hj2 dfr) ?_ (zaa.2 ⟨by rw [zaY,d0,d1];simp only [decide_eq_true_eq];omega,zaa.2 ⟨by rw [zbC,d1,zad];simp only [decide_eq_true_eq];omega,zae.2 trivial⟩⟩)) fun ex a' w' hh=> ?_
      · intro t ht
        simp only [zfp,zht,List.mem_cons,List.not_mem_nil,or_false] at ht
        rcases ht with rfl|rfl|rfl|rfl|rfl|rfl
        · rw [s0];exact hsx
        · rw [s2];exact zcj hj1
        · rw [s3];exact zcj hj2
        · rw [s10];exact hsx
        · rw [s11];exact zac d0
        · rw [s12];exact zac d1
      · obtain ⟨q,hq,hto,lf,hlf,rfl,hsz,j,hdf,he⟩:=hh
        have hj1':=he.sub _ _ hj1
        have hj2':=he.sub _ _ hj2
        unfold zB2 at hq
        simp only [List.mem_cons,List.not_mem_nil,or_false] at hq
        rcases hq with rfl|rfl|rfl|rfl|rfl
        all_goals
          simp only [zaa,zae,zbC,zaY,zaA,zbs,zad,d0,d1,d2,d3,d4,hwl,hwa,decide_eq_true_eq,decide_eq_false_iff_not,and_true] at hto
          cases hlf
        · exact .inl ⟨rfl,by rw [←hsw,if_pos (by omega)],_,hsz,by have:=zaB he.ret;simpa [AV.valL,AV.val,zag hj1'] using this,zh3 hdf hj1' hj2',mv.trans he.mv,(he.rows.1 _ hj1').2 (.inr (.inl rfl)) rfl,(he.rows.2.1 _ hj2').2 (.inr (.inr rfl)) rfl⟩
        · exact .inl ⟨rfl,by rw [←hsw,if_pos (by omega)],_,hsz,by have:=zaB he.ret;simpa [AV.valL,AV.val,zag hj1'] using this,zh3 hdf hj1' hj2',mv.trans he.mv,(he.rows.1 _ hj1').2 (.inr (.inl rfl)) rfl,(he.rows.2.1 _ hj2').2 (.inr (.inr rfl)) rfl⟩
        · exact .inl ⟨rfl,by rw [←hsw,if_pos (.inr (.inr ⟨hto.2.2.1,hto.2.2.2⟩))],_,hsz,by have:=zaB he.ret;simpa [AV.valL,AV.val,zag hj1'] using this,zh3 hdf hj1' hj2',mv.trans he.mv,(he.rows.1 _ hj1').2 (.inr (.inl rfl)) rfl,(he.rows.2.1 _ hj2').2 (.inr (.inr rfl)) rfl⟩
        · refine fin hsz hdf hj1' hj2' he.mv ((he.rows.1 _ hj1').2 (.inr (.inl rfl)) rfl) ?_ ?_ ?_
          · have:=(he.rows.2.1 _ hj2').2 (.inr (.inr rfl)) rfl
            simpa only [AV.valL,AV.val,den_add,d2,d4,hws] using this
          · have:=zaB he.ret
            rw [this]
            simp only [AV.valL,AV.val,zag hj1',zag hj2',d0,d1,den_add,zad,hkk]
            rfl
          · rw [←hsw,if_neg (by rintro (h|h|⟨h,h'⟩);omega;omega;exact absurd (h'.symm.trans hto.2.2.2) (by decide))]
        · refine fin hsz hdf hj1' hj2' he.mv ((he.rows.1 _ hj1').2 (.inr (.inl rfl)) rfl) ?_ ?_ ?_
          · have:=(he.rows.2.1 _ hj2').2 (.inr (.inr rfl)) rfl
            simpa only [AV.valL,AV.val,den_add,d2,d4,hws] using this
          · have:=zaB he.ret
            rw [this]
            simp only [AV.valL,AV.val,zag hj1',zag hj2',d0,d1,den_add,zad,hkk]
            rfl
          · rw [←hsw,if_neg (by rintro (h|h|⟨h,h'⟩);omega;omega;exact absurd (h.symm.trans hto.2.2) (by decide))]
  · have hkk:k=l.length:=by omega
    subst hkk
    rw [List.drop_length,za4] at hsw
    have d0:(lnv 0).den (zb9 l.length l.length s ⟨0,0,false⟩ ⟨0,0,false⟩ (.slice sa l.length c))=l.length:=zat (by show (0:Int)≤l.length;omega) (by show ((l.length:Nat):Int)<_;omega)
    have d1:(lnv 1).den (zb9 l.length l.length s ⟨0,0,false⟩ ⟨0,0,false⟩ (.slice sa l.length c))=l.length:=zat (by show (0:Int)≤l.length;omega) (by show ((l.length:Nat):Int)<_;omega)
    have d2:(u64v 2).den (zb9 l.length l.length s ⟨0,0,false⟩ ⟨0,0,false⟩ (.slice sa l.length c))=s:=zaG hs0 (by show s<_;omega)
    have hj1:jOf [(E,0),(C,0)] 1=some ⟨E,0,0,none⟩:=rfl
    have hj2:jOf [(E,0),(C,0)] 2=some ⟨C,0,0,none⟩:=rfl
    have hsx:Dw.R (zb9 l.length l.length s ⟨0,0,false⟩ ⟨0,0,false⟩ (.slice sa l.length c)) (jOf [(E,0),(C,0)]) (ckL []) (.slice sa l.length c):=⟨rfl,_,_,_,rfl,d0.symm,trivial⟩
    refine wp_mono (zaz (ρ:=zb9 l.length l.length s ⟨0,0,false⟩ ⟨0,0,false⟩ (.slice sa l.length c)) (K:=fun b=>b=E∨b=C) (g:=Gho.none) (bl:= [(E,0),(C,0)]) mixed zEz zIB hK
      ⟨za6 oE (zab (zac rfl) RL.nil) (.inl rfl),za6 oC (zab (zac d2) RL.nil) (.inr rfl),trivial⟩
      ⟨fun _ i b' s' h1 h2 h3=>(by match i,h1,h2 with|0,h1,_=>cases h1;exact hne|i+1,h1,_=>cases h1),fun _ i b' s' h1 h2 h3=>(by cases h1),trivial⟩
      zaO trivial trivial trivial size (ck_dfr' hj1 hj2 dfr) ?_ (zaa.2 ⟨by rw [zaY,d0,d1];simp,zae.2 trivial⟩)) fun ex a' w' hh=> ?_
    · intro t ht
      simp only [zfo,zht,List.mem_cons,List.not_mem_nil,or_false] at ht
      rcases ht with rfl|rfl|rfl|rfl|rfl|rfl
      · rw [s0];exact hsx
      · rw [s2];exact zcj hj1
      · rw [s3];exact zcj hj2
      · rw [s10];exact hsx
      · rw [s11];exact zac d0
      · rw [s12];exact zac d1
    · obtain ⟨q,hq,hto,lf,hlf,rfl,hsz,j,hdf,he⟩:=hh
      have hj1':=he.sub _ _ hj1
      have hj2':=he.sub _ _ hj2
      unfold zB0 at hq
      simp only [List.mem_cons,List.not_mem_nil,or_false] at hq
      subst hq
      cases hlf
      refine .inr ⟨rfl,s,hs0,by omega,hsw.symm,hsz,by have:=zaB he.ret;simpa [AV.valL,AV.val,zag hj1'] using this,zh3 hdf hj1' hj2',mv.trans he.mv,(he.rows.1 _ hj1').2 (.inr (.inl rfl)) rfl,?_⟩
      have:=(he.rows.2.1 _ hj2').2 (.inr (.inr rfl)) rfl
      simpa only [AV.valL,AV.val,d2] using this
open Go.Maps Go.Sort
set_option maxRecDepth 100000 in
theorem Tryz.zoK (E C:Nat) (e sum:Int) (u:FrameMode) (w:World) (hE:w.cell? ⟨E,0,none⟩=some (.int .i64 e)) (fE:w.frozen? ⟨E,0,none⟩=false) (hC:w.cell? ⟨C,0,none⟩=some (.int .u64 sum)):
  CallsD prog 115 #[.pointer (some ⟨E,0,none⟩),.pointer (some ⟨C,0,none⟩)] u w fun ed u' w'=>u'=u∧ed= .returned (.tuple #[])∧w'=if e=0∧4294967296≤sum then w.setCell ⟨E,0,none⟩ (.int .i64 2) else w:=by
 refine callsD_of_wp func115 rfl ?_
 simp only [ntmps115,List.size_toArray,List.length_cons,List.length_nil,Nat.reduceAdd,Nat.reduceSub,Array.replicate_succ,Array.replicate_zero,List.push_toArray,List.append_toArray,List.nil_append,List.cons_append]
 by_cases h0:e=0
 ·subst h0
  by_cases h1:4294967296≤sum
  ·rw [if_pos ⟨rfl,h1⟩]
   go_wp2
   go_end0
   exact ⟨rfl,rfl⟩
  ·rw [if_neg (fun h=>h1 h.2)]
   go_wp2
   go_end0
   exact ⟨rfl,rfl⟩
 ·rw [if_neg (fun h=>h0 h.1)]
  go_wp2
  go_end0
  exact ⟨rfl,rfl⟩
theorem Tryz.zvw {w:World} {b:Nat} {v:Value} (h:Own w b [v]):w.cell? ⟨b,0,none⟩=some v∧w.frozen? ⟨b,0,none⟩=false:=by
 obtain ⟨arr,e,h1,h2⟩:=h
 exact ⟨by simp [World.cell?,h1,h2 0 v rfl],by simp [World.frozen?,h1]⟩
theorem Tryz.zg9 (w:World) (cs:List Value) (t:TypeId):Own (w.alloc (.cells cs.toArray t)) w.heap.size cs:=⟨cs.toArray,t,by unfold World.alloc;exact Array.getElem?_push_size,fun i y h=>by rw [List.getElem?_toArray];exact h⟩
set_option maxRecDepth 100000 in
theorem Tryz.zpe {A:Nat→Prop} {w:World} {v:Value} {l:List Sg} (h:SegV A w v l):
  Calls prog 84 #[v] w fun e w'=>e= .returned (.int .i64 (zaU l))∧Below w.heap.size w w':=by
 obtain ⟨sa,c,rfl,hok,hr⟩:=h
 unfold zaU
 by_cases hlen:64<l.length
 ·rw [if_pos hlen]
  have hb0:=(Below.refl w.heap.size w).alloc (Nat.le_refl _) (.cells #[.int .i64 3] 46)
  go_enter_defers func84,ntmps84
  go_wp2
  have hE:(w.alloc (.cells #[.int .i64 3] 46)).cell? ⟨w.heap.size,0,none⟩=some (.int .i64 3):=by simp
  simp only [bodyPostD,Leaves]
  refine ⟨.int .i64 3,?_,rfl,hb0⟩
  simp [results,results84,go_sem,hE]
 ·rw [if_neg hlen]
  go_enter_defers func84,ntmps84
  go_wp2
  have o1:=zg9 w [.int .i64 0] 46
  have o2:=zg9 (w.alloc (.cells #[.int .i64 0] 46)) [.int .u64 0] 29
  have hs1:(w.alloc (.cells #[.int .i64 0] 46)).heap.size=w.heap.size+1:=World.size_alloc _ _
  rw [hs1] at o2
  have o1':Own ((w.alloc (.cells #[.int .i64 0] 46)).alloc (.cells #[.int .u64 0] 29)) w.heap.size [.int .i64 0]:=o1.kept (Below.heap_alloc _ _ _ (by rw [hs1];omega))
  have hbb:=((Below.refl w.heap.size w).alloc (Nat.le_refl _) (.cells #[.int .i64 0] 46)).alloc (by rw [hs1];omega) (.cells #[.int .u64 0] 29)
  have hsz:((w.alloc (.cells #[.int .i64 0] 46)).alloc (.cells #[.int .u64 0] 29)).heap.size=w.heap.size+2:=by rw [World.size_alloc,hs1]
  have hr':l= []∨ ∃R o,sa=some ⟨R,o,none⟩∧R≠w.heap.size∧R≠w.heap.size+1∧((w.alloc (.cells #[.int .i64 0] 46)).alloc (.cells #[.int .u64 0] 29)).rangeAt R o (zaS l):=by
   rcases hr with h0|⟨R,o,e,_,hr⟩
   ·exact .inl h0
   ·by_cases h0:l= []
    ·exact .inl h0
    ·have hR:=zcF hr h0
     exact .inr ⟨R,o,e,by omega,by omega,zaV hr (hbb.block R hR)⟩
  generalize (w.alloc (.cells #[.int .i64 0] 46)).alloc (.cells #[.int .u64 0] 29)=W at*
  refine zby (c':= .loop (zaK prog [0,0,1,0,1,1,1,1,84])) (by kernel_rfl) ?_
  refine zbJ (fun k a w'=>CkI l sa c w.heap.size (w.heap.size+1) W k a w') (fun k=>l.length-k) (fun k a w' hI=>wp_mono (zEF hI (by omega) hok (by omega) (by omega) (by omega) hr') fun ex a' w2 hh=> ?_) 0 _ _ ?_
  ·have leave: ∀ {e s:Int} {a':Act} {w2:World},CkO w.heap.size (w.heap.size+1) W e s a' w2→za4 false 0 l=(if e=0∧4294967296≤s then 2 else e)→
     bodyPostD prog f84 (fun e w'=>e=Ending.returned (Value.int IntKind.i64 (za4 false 0 l))∧RowKit.Below w.heap.size w w') .ret a' w2:=fun {e s a' w2} ho hV=>by
    obtain ⟨d,hd,args,cap,e1,e2,e3⟩:=ho.dfr
    have hm2:RowKit.Below w.heap.size w w2:=⟨ho.mv.os.trans hbb.os,ho.mv.tape.trans hbb.tape,ho.mv.output.trans hbb.output,Nat.le_trans hbb.size ho.mv.size,fun k hk=>(ho.mv.block k (by omega) (by omega)).trans (hbb.block k hk)⟩
    obtain ⟨cE,fE⟩:=zvw ho.oE
    obtain ⟨cC,fC⟩:=zvw ho.oC
    simp only [bodyPostD,hd,Leaves]
    have e3:args++cap= #[.pointer (some ⟨w.heap.size,0,none⟩),.pointer (some ⟨w.heap.size+1,0,none⟩)]:=by rw [←Array.toList_inj];exact e3
    refine ⟨by simp,.func 115,cap,115,#[.pointer (some ⟨w.heap.size,0,none⟩),.pointer (some ⟨w.heap.size+1,0,none⟩)],e1,by rw [e1,e2,←e3];simp [go_sem],?_⟩
    refine (zoK w.heap.size (w.heap.size+1) e s .returning w2 cE fE cC).mono ?_
    rintro ed u' w9 ⟨rfl,rfl,rfl⟩
    simp only [Leaves,settle]
    have hp:a'.tmps.getD 2 undef= .pointer (some ⟨w.heap.size,0,none⟩):=ho.s2
    by_cases h0:e=0∧4294967296≤s
    ·rw [if_pos h0] at hV ⊢
     have dE2:(w2.setCell ⟨w.heap.size,0,none⟩ (.int .i64 2)).cell? ⟨w.heap.size,0,none⟩=some (.int .i64 2):=World.cell?_setCell_same' _ _ _ (by rw [cE];rfl)
     refine ⟨.int .i64 2,?_,by rw [hV],hm2.setCell (p:=⟨w.heap.size,0,none⟩) (Nat.le_refl _) _⟩
     have hp':a'.tmps[2]?.getD undef= .pointer (some ⟨w.heap.size,0,none⟩):=by simpa using hp
     simp [results,results84,go_sem,hp',dE2]
    ·rw [if_neg h0] at hV ⊢
     refine ⟨.int .i64 e,?_,by rw [hV],hm2⟩
     have hp':a'.tmps[2]?.getD undef= .pointer (some ⟨w.heap.size,0,none⟩):=by simpa using hp
     simp [results,results84,go_sem,hp',cE]
   cases ex with
   | normal=>exact ⟨k+1,by omega,hh.2⟩
   | ret=>
    rcases hh with ⟨_,hV,s,ho⟩|⟨h,_⟩
    ·exact leave ho (by rw [hV];simp)
    ·cases h
   | exit i=>
    rcases hh with ⟨h,_⟩|⟨h,s,hq0,hq1,hV,ho⟩
    ·cases h
    ·cases h
     simp only [Exit.inBlock,Exit.then,if_pos]
     rename_i K hK
     refine hK _ _ (zby (c':=zaK prog [1,1,1,1,1,84]) (by kernel_rfl) ?_)
     have hj1:jOf [(w.heap.size,0),(w.heap.size+1,0)] 1=some ⟨w.heap.size,0,0,none⟩:=rfl
     have hj2:jOf [(w.heap.size,0),(w.heap.size+1,0)] 2=some ⟨w.heap.size+1,0,0,none⟩:=rfl
     have d2:(u64v 2).den (zb9 0 0 s ⟨0,0,false⟩ ⟨0,0,false⟩ undef)=s:=zaG hq0 hq1
     refine wp_mono (zaz (ρ:=zb9 0 0 s ⟨0,0,false⟩ ⟨0,0,false⟩ undef) (K:=fun b=>b=w.heap.size∨b=w.heap.size+1) (g:=Gho.none) (bl:= [(w.heap.size,0),(w.heap.size+1,0)]) mixed zIz zJ9 (fun b hb=>by rcases hb with rfl|rfl;exact own_lt ho.oE;exact own_lt ho.oC)
      ⟨za6 ho.oE (zab (zac rfl) RL.nil) (.inl rfl),za6 ho.oC (zab (zac d2) RL.nil) (.inr rfl),trivial⟩
      ⟨fun _ i b' s' h1 h2 h3=>(by match i,h1,h2 with|0,h1,_=>cases h1;show w.heap.size≠w.heap.size+1;omega|i+1,h1,_=>cases h1),fun _ i b' s' h1 h2 h3=>(by cases h1),trivial⟩
      zaO trivial trivial trivial ho.size (ck_dfr' hj1 hj2 ho.dfr) ?_ (zae.2 trivial)) fun ex a3 w3 hh=> ?_
     ·intro t ht
      simp only [zgT,List.mem_cons,List.not_mem_nil,or_false] at ht
      subst ht
      rw [ho.s2];exact zcj hj1
     ·obtain ⟨q,hq,hto,lf,hlf,rfl,hsz3,j,hdf,he⟩:=hh
      have hj1':=he.sub _ _ hj1
      have hj2':=he.sub _ _ hj2
      unfold zFZ at hq
      simp only [List.mem_cons,List.not_mem_nil,or_false] at hq
      subst hq
      cases hlf
      have oC:=(he.rows.2.1 _ hj2').2 (.inr (.inr rfl)) rfl
      simp only [AV.valL,AV.val,d2] at oC
      refine leave (e:=0) ⟨hsz3,by have:=zaB he.ret;simpa [AV.valL,AV.val,zag hj1'] using this,zh3 hdf hj1' hj2',ho.mv.trans he.mv,(he.rows.1 _ hj1').2 (.inr (.inl rfl)) rfl,oC⟩ (by rw [hV];simp)
   | _=>rcases hh with ⟨h,_⟩|⟨h,_⟩<;>cases h
  ·exact ⟨Nat.zero_le _,rfl,rfl,rfl,rfl,rfl,rfl,rfl,⟨_,rfl,_,_,rfl,rfl,rfl⟩,Dw.Mv.refl _ _,false,0,o1',o2,Int.le_refl _,by simp,rfl,fun _=>rfl,fun i hi=>by omega⟩
end Go.Proofs
namespace Go.Proofs
open Go.Dw Go.RowKit
def Tryz.sl1 (l:List (SE×Nat)):AV:= .sx 1 (lnv 0) 3 l
def Tryz.ckE:Ent:=⟨84,[sl1 []],0,0,0,.int .i64 (.var 7),0⟩
def Tryz.rd0E:Ent:=⟨17,[.cst 0 none,.int .u64 (.lit 0),.int .i64 (.lit 0)],0,0,0,.tup [.nils,.int .i64 (.lit 0)],0⟩
def Tryz.hasE:Ent:=⟨179,[.cst 0 none,.int .u64 (u64v 3),.int .u64 (u32v 4)],0,0,0,.bool (.var 2),0⟩
def Tryz.zdY:LEnt:=⟨[0,1,0,1,1,1,172],38,0,[(0,.cst 0 none),(23,sl1 []),(24,.int .i64 (lnv 0)),(25,.int .i64 (.lit 0))],[],[],0,0,[⟨.var 2,.exit 0,[],0⟩,⟨.lit true,.ret,[(4,.int .i64 (.lit 5))],0⟩]⟩
def Tryz.zey:LEnt:=⟨[0,1,0,1,1,58],30,0,[(2,.int .u64 (.lit 0)),(3,.int .u64 (.lit 0)),(9,sl1 []),(10,.int .i64 (lnv 0)),(11,.int .i64 (.lit 0))],[],[],0,0,[⟨.lit true,.exit 0,[(2,.int .u64 (u64v 5)),(3,.int .u64 (u64v 6))],0⟩]⟩
end Go.Proofs
namespace Go.Proofs
open Go.Dw
def Tryz.zun:List Ent:= [ckE,rd0E]
def Tryz.zzg:List Sh:= []
def Tryz.zuo:List AV:= [.cst 0 none,sl1 []]
def Tryz.zo5:List LEnt:= [zdY]
def Tryz.zo6:List AEnt:= []
def Tryz.zGS:List (SB×Bool):= []
def Tryz.zFs:List Leaf:= [
 ⟨.int .i64 (.var 7),[],[],0,[]⟩,
 ⟨.int .i64 (.lit 0),[],[],0,[]⟩,
 ⟨.int .i64 (.lit 5),[],[],0,[]⟩]
def Tryz.zFr:List (List (SB×Bool)×Nat):= [
 ([((.cmp .neq (.var 7) (.lit 0)),true)],0),
 ([((.cmp .neq (.var 7) (.lit 0)),false),(.var 2,true)],1),
 ([((.cmp .neq (.var 7) (.lit 0)),false),(.var 2,false)],2)]
theorem Tryz.zGR:(evL prog (zau zun) (zaF zo5) (zaE zo6) 100000 (.call 172 zuo (zas 0 zzg) (zaR zFs 0))).ways zGS=some zFr:=by kernel_rfl
theorem Tryz.zJi:(zai zzg&&zaf zun&&zam zo5&&zan zo6&&AV.smallL zuo&&zal zFs)=true:=by kernel_rfl
def Tryz.zo4:List Ent:= [hasE]
def Tryz.zul:List Sh:= [ckEl 3 4 0]
def Tryz.zeZ:List (Nat×AV):= [(0,.cst 0 none),(23,sl1 [(lnv 1,1)]),(24,.int .i64 (lnv 0)),(25,.int .i64 (lnv 1))]
def Tryz.zlv:List LEnt:= []
def Tryz.zlw:List AEnt:= []
def Tryz.zum:Option AV:=none
def Tryz.zC0:List (SB×Bool):= [(.cmp .lss (lnv 1) (lnv 0),true)]
def Tryz.zzf:List zbo:= [
 ⟨.ret,[4],none,⟨.tup [.int .i64 (.lit 5)],[],[],0,[]⟩⟩,
 ⟨.normal,[0,23,24,25],none,⟨.tup [.cst 0 none,.sx 1 ((lnv 0)) 3 [((lnv 1),1)],.int .i64 (lnv 0),.int .i64 (.bin .add .i64 (lnv 1) (.lit 1))],[],[],0,[]⟩⟩]
def Tryz.zze:List (List (SB×Bool)×Nat):= [
 ([(.var 2,false)],0),
 ([(.var 2,true)],1)]
theorem Tryz.zCZ:(evL prog (zau zo4) (zaF zlv) (zaE zlw) 100000 (.code (zaK prog [0,0,1,0,1,1,1,172]) [0,0,1,0,1,1,1,172] 38 (envS 38 zeZ zum) (zas 0 zul) (zaJ zzf 0))).ways zC0=some zze:=by kernel_rfl
theorem Tryz.zGQ:(zai zul&&zaf zo4&&zam zlv&&zan zlw&&zaq zeZ&&zak zzf&&zaH 38 zeZ&&Nat.ble 38 zaP&&zaC zum)=true:=by kernel_rfl
def Tryz.zlu:List Ent:= []
def Tryz.zo2:List Sh:= []
def Tryz.zdX:List (Nat×AV):= [(0,.cst 0 none),(23,sl1 []),(24,.int .i64 (lnv 0)),(25,.int .i64 (lnv 1))]
def Tryz.zi3:List LEnt:= []
def Tryz.zi4:List AEnt:= []
def Tryz.zo3:Option AV:=none
def Tryz.zzd:List (SB×Bool):= [(.cmp .lss (lnv 1) (lnv 0),false)]
def Tryz.zuk:List zbo:= [
 ⟨(.exit 0),[],none,⟨.tup [],[],[],0,[]⟩⟩]
def Tryz.zuj:List (List (SB×Bool)×Nat):= [
 ([], 0)]
theorem Tryz.zzc:(evL prog (zau zlu) (zaF zi3) (zaE zi4) 100000 (.code (zaK prog [0,0,1,0,1,1,1,172]) [0,0,1,0,1,1,1,172] 38 (envS 38 zdX zo3) (zas 0 zo2) (zaJ zuk 0))).ways zzd=some zuj:=by kernel_rfl
theorem Tryz.zCY:(zai zo2&&zaf zlu&&zam zi3&&zan zi4&&zaq zdX&&zak zuk&&zaH 38 zdX&&Nat.ble 38 zaP&&zaC zo3)=true:=by kernel_rfl
def Tryz.zub:List Ent:= [ckE]
def Tryz.zy2:List Sh:= []
def Tryz.zuc:List AV:= [sl1 []]
def Tryz.zoP:List LEnt:= [zey]
def Tryz.zoQ:List AEnt:= []
def Tryz.zGG:List (SB×Bool):= []
def Tryz.zFj:List Leaf:= [
 ⟨.tup [.int .u64 (.lit 0),.int .u64 (.lit 0)],[],[],0,[]⟩,
 ⟨.tup [.int .u64 (u64v 5),.int .u64 (u64v 6)],[],[],0,[]⟩]
def Tryz.zFi:List (List (SB×Bool)×Nat):= [
 ([((.cmp .neq (.var 7) (.lit 0)),true)],0),
 ([((.cmp .neq (.var 7) (.lit 0)),false)],1)]
theorem Tryz.zGF:(evL prog (zau zub) (zaF zoP) (zaE zoQ) 100000 (.call 58 zuc (zas 0 zy2) (zaR zFj 0))).ways zGG=some zFi:=by kernel_rfl
theorem Tryz.zJb:(zai zy2&&zaf zub&&zam zoP&&zan zoQ&&AV.smallL zuc&&zal zFj)=true:=by kernel_rfl
def Tryz.zoO:List Ent:= []
def Tryz.zt9:List Sh:= [ckEl 3 4 0]
def Tryz.zeX:List (Nat×AV):= [(2,.int .u64 (u64v 5)),(3,.int .u64 (u64v 6)),(9,sl1 [(lnv 1,1)]),(10,.int .i64 (lnv 0)),(11,.int .i64 (lnv 1))]
def Tryz.zlp:List LEnt:= []
def Tryz.zlq:List AEnt:= []
def Tryz.zua:Option AV:=none
def Tryz.zCS:List (SB×Bool):= [(.cmp .lss (lnv 1) (lnv 0),true)]
def Tryz.zy1:List zbo:= [
 ⟨.normal,[2,3,9,10,11],none,⟨.tup [.int .u64 (u64v 5),.int .u64 (.bin .add .u64 (u64v 6) (u32v 4)),.sx 1 ((lnv 0)) 3 [((lnv 1),1)],.int .i64 (lnv 0),.int .i64 (.bin .add .i64 (lnv 1) (.lit 1))],[],[],0,[]⟩⟩,
 ⟨.normal,[2,3,9,10,11],none,⟨.tup [.int .u64 (.bin .add .u64 (u64v 5) (u32v 4)),.int .u64 (u64v 6),.sx 1 ((lnv 0)) 3 [((lnv 1),1)],.int .i64 (lnv 0),.int .i64 (.bin .add .i64 (lnv 1) (.lit 1))],[],[],0,[]⟩⟩]
def Tryz.zy0:List (List (SB×Bool)×Nat):= [
 ([(.var 0,true)],0),
 ([(.var 0,false)],1)]
theorem Tryz.zCR:(evL prog (zau zoO) (zaF zlp) (zaE zlq) 100000 (.code (zaK prog [0,0,1,0,1,1,58]) [0,0,1,0,1,1,58] 30 (envS 30 zeX zua) (zas 0 zt9) (zaJ zy1 0))).ways zCS=some zy0:=by kernel_rfl
theorem Tryz.zGE:(zai zt9&&zaf zoO&&zam zlp&&zan zlq&&zaq zeX&&zak zy1&&zaH 30 zeX&&Nat.ble 30 zaP&&zaC zua)=true:=by kernel_rfl
def Tryz.zlo:List Ent:= []
def Tryz.zoM:List Sh:= []
def Tryz.zdW:List (Nat×AV):= [(2,.int .u64 (u64v 5)),(3,.int .u64 (u64v 6)),(9,sl1 []),(10,.int .i64 (lnv 0)),(11,.int .i64 (lnv 1))]
def Tryz.ziU:List LEnt:= []
def Tryz.ziV:List AEnt:= []
def Tryz.zoN:Option AV:=none
def Tryz.zyZ:List (SB×Bool):= [(.cmp .lss (lnv 1) (lnv 0),false)]
def Tryz.zt8:List zbo:= [
 ⟨(.exit 0),[2,3],none,⟨.tup [.int .u64 (u64v 5),.int .u64 (u64v 6)],[],[],0,[]⟩⟩]
def Tryz.zt7:List (List (SB×Bool)×Nat):= [
 ([], 0)]
theorem Tryz.zyY:(evL prog (zau zlo) (zaF ziU) (zaE ziV) 100000 (.code (zaK prog [0,0,1,0,1,1,58]) [0,0,1,0,1,1,58] 30 (envS 30 zdW zoN) (zas 0 zoM) (zaJ zt8 0))).ways zyZ=some zt7:=by kernel_rfl
theorem Tryz.zCQ:(zai zoM&&zaf zlo&&zam ziU&&zan ziV&&zaq zdW&&zak zt8&&zaH 30 zdW&&Nat.ble 30 zaP&&zaC zoN)=true:=by kernel_rfl
def Tryz.zoR:List Ent:= [ckE]
def Tryz.zud:List Sh:= []
def Tryz.zoS:List AV:= [sl1 []]
def Tryz.zCV:List (SB×Bool):= [(.cmp .neq (.var 7) (.lit 0),true)]
def Tryz.zy3:List Leaf:= [
 ⟨.tup [.int .u64 (.lit 0),.int .u64 (.lit 0)],[],[],0,[]⟩]
def Tryz.zGH:List (List (SB×Bool)×Nat):= [
 ([], 0)]
theorem Tryz.zCU:(ev prog (zau zoR) 100000 (.call 58 zoS (zas 0 zud) (zaR zy3 0))).ways zCV=some zGH:=by kernel_rfl
theorem Tryz.zGI:(zai zud&&zaf zoR&&AV.smallL zoS&&zal zy3)=true:=by kernel_rfl
def Tryz.zo7:List Ent:= [ckE,rd0E]
def Tryz.zup:List Sh:= []
def Tryz.zo8:List AV:= [.cst 0 none,sl1 []]
def Tryz.zC3:List (SB×Bool):= [(.cmp .neq (.var 7) (.lit 0),true)]
def Tryz.zzh:List Leaf:= [
 ⟨.int .i64 (.var 7),[],[],0,[]⟩]
def Tryz.zGT:List (List (SB×Bool)×Nat):= [
 ([], 0)]
theorem Tryz.zC2:(ev prog (zau zo7) 100000 (.call 172 zo8 (zas 0 zup) (zaR zzh 0))).ways zC3=some zGT:=by kernel_rfl
theorem Tryz.zGU:(zai zup&&zaf zo7&&AV.smallL zo8&&zal zzh)=true:=by kernel_rfl
open Go.RowKit
def Tryz.SegF (F:Nat→Prop) (w:World) (sa:Option Addr) (l:List Sg):Prop:=l= []∨ ∃R o,sa=some ⟨R,o,none⟩∧F R∧w.rangeAt R o (zaS l)
theorem Tryz.SegF.kept {F:Nat→Prop} {w w':World} {sa:Option Addr} {l:List Sg} (h:SegF F w sa l) (hb: ∀b,F b→w'.heap[b]? =w.heap[b]?):SegF F w' sa l:=by
 rcases h with h|⟨R,o,e,hF,hr⟩
 ·exact .inl h
 ·exact .inr ⟨R,o,e,hF,zaV hr (hb R hF)⟩
theorem Tryz.SegF.v {F:Nat→Prop} {w:World} {sa:Option Addr} {l:List Sg} (h:SegF F w sa l) (hok: ∀x∈l,x.ok) (c:Nat):SegV (fun _=>False) w (.slice sa l.length c) l:=by
 rcases h with h|⟨R,o,e,hF,hr⟩
 ·exact ⟨sa,c,rfl,hok,.inl h⟩
 ·exact ⟨sa,c,rfl,hok,.inr ⟨R,o,e,fun h=>h,hr⟩⟩
def Tryz.segG (sa:Option Addr) (l:List Sg):Gho where
 fact k _ F w:=SegF F w sa l
 loc:=fun k _ _ F w w' h _ hb hs=>h.kept hb
def Tryz.zk1 (P L Bs B N:Nat) (g:Nat→Int) (sa:Option Addr) (l:List Sg):Gho where
 fact k _ F w:=(F P∧F L∧F Bs∧F B∧GM w P L Bs B N g)∧SegF F w sa l
 loc:=fun k _ _ F w w' h _ hb hs=>by
  obtain ⟨⟨h1,h2,h3,h4,h6⟩,h7⟩:=h
  exact ⟨⟨h1,h2,h3,h4,h6.kept (fun b _ hb'=>by rcases hb' with rfl|rfl|rfl|rfl<;>exact hb _ (by assumption)) hs⟩,h7.kept hb⟩
theorem Tryz.zeu (k:Nat) (h:k<4611686018427387904):IntKind.wrap .i64 ((k:Int)+1)=((k+1:Nat):Int):=by rw [zbL (by omega) (by omega)];omega
def Tryz.zay (wr:Bool):List Sg→Int
 | [] => 0
 | x::r=>if x.wr=wr then x.len+zay wr r else zay wr r
def Tryz.zbp (l:List Sg):Int×Int:=if zaU l=0 then (zay false l,zay true l) else (0,0)
theorem Tryz.zcv (b:Bool): ∀(l:List Sg),(∀x∈l,x.ok)→0≤zay b l∧zay b l≤l.length*4294967296
 | [], _=>by simp [zay]
 | x::r,h=>by
  obtain ⟨h1,h2⟩:=zcv b r fun y hy=>h y (List.mem_cons_of_mem _ hy)
  obtain ⟨_,_,h3,h4⟩:=h x (List.mem_cons_self ..)
  unfold zay
  have e:(((x::r).length:Nat):Int)=r.length+1:=by simp
  rw [e]
  split<;>omega
theorem Tryz.zi6 (b:Bool) (l:List Sg) (k:Nat) (h:k<l.length):zay b (l.take (k+1))=zay b (l.take k)+(if l[k].wr=b then l[k].len else 0):=by
 induction l generalizing k with
 | nil=>simp at h
 | cons x r ih=>
  cases k with
  | zero=>simp only [List.take_succ_cons,List.take_zero,zay,List.getElem_cons_zero];split<;>simp
  | succ k=>
   have:=ih k (by simpa using h)
   simp only [List.take_succ_cons,zay,List.getElem_cons_succ]
   rw [this]
   split<;>omega
theorem Tryz.ze0 {l:List Sg} (h:zaU l=0):l.length≤64:=by
 unfold zaU at h
 split at h
 ·omega
 ·omega
def Tryz.zbA (n k x5 x6 e:Int) (x:Sg) (b2:Bool) (p sl:Value):Val:=vof [n,k,0,x.at1,x.len,x5,x6,e] [x.wr,false,b2] [p,sl]
set_option maxRecDepth 10000 in
theorem Tryz.zCT {ρ:Val} {w0:World} {K:Nat→Prop} {sa:Option Addr} {c:Nat} {l:List Sg} (hl:l.length≤64) (hok: ∀x∈l,x.ok) (hv1:ρ.v 1= .slice sa l.length c) (hn:(lnv 0).den ρ=l.length) (h5:(u64v 5).den ρ=zay false l) (h6:(u64v 6).den ρ=zay true l):
  zkT prog ρ w0 K (segG sa l) zey:=by
 refine zfS rfl (fun d hd=>by unfold zey at hd;simp at hd;rw [hd];rfl) fun cc hc j a w F hsz hdf hsl _ hf _ _=> ?_
 have hf:SegF F w sa l:=hf
 have g2:=R_val rfl (hsl (2,.int .u64 (.lit 0)) (by simp [zey])).2
 have g3:=R_val rfl (hsl (3,.int .u64 (.lit 0)) (by simp [zey])).2
 have g9:=R_val rfl (hsl (9,sl1 []) (by simp [zey])).2
 have g10:=R_val rfl (hsl (10,.int .i64 (lnv 0)) (by simp [zey])).2
 have g11:=R_val rfl (hsl (11,.int .i64 (.lit 0)) (by simp [zey])).2
 simp only [AV.val,sl1,hv1,hn,zad] at g2 g3 g9 g10 g11
 have hcc:cc=zaK prog [0,0,1,0,1,1,58]:=by
  have:=zhk (P:=prog) (p:= [0,1,0,1,1,58]) (by kernel_rfl)
  have hc:zaK prog [0,1,0,1,1,58]= .loop cc:=hc
  rw [hc] at this
  injection this
 subst hcc
 have hsz:a.tmps.size=30:=hsz
 refine zbJ (fun (k:Nat) a' w'=>k≤l.length∧a'.tmps.size=30∧a'.defers= []∧a'.tmps.getD 2 undef= .int .u64 (zay false (l.take k))∧a'.tmps.getD 3 undef= .int .u64 (zay true (l.take k))∧a'.tmps.getD 9 undef= .slice sa l.length c∧a'.tmps.getD 10 undef= .int .i64 l.length∧a'.tmps.getD 11 undef= .int .i64 k∧Below w.heap.size w w')
  (fun k=>l.length-k) (fun k a1 w1 hI=> ?_) 0 a w ⟨Nat.zero_le _,hsz,hdf,by rw [g2];rfl,by rw [g3];rfl,g9,g10,by rw [g11];rfl,Below.refl _ _⟩
 obtain ⟨hk,q0,qd,q2,q3,q9,q10,q11,hb⟩:=hI
 have hb5:=zcv false (l.take k) fun x hx=>hok x (List.mem_of_mem_take hx)
 have hb6:=zcv true (l.take k) fun x hx=>hok x (List.mem_of_mem_take hx)
 have htk:(l.take k).length≤64:=by simp;omega
 by_cases hkl:k<l.length
 ·rcases hf with h0|⟨R,o,rfl,hFR,hr⟩
  ·rw [h0] at hkl;simp at hkl
  have hR:=zcF hr (by intro h0;rw [h0] at hkl;simp at hkl)
  have hx:=zb0 (zaV hr (hb.block R hR)) k hkl
  have hxo:=hok l[k] (List.getElem_mem hkl)
  have t5:=zi6 false l k hkl
  have t6:=zi6 true l k hkl
  generalize hX:l[k]=X at hx hxo t5 t6
  have d0:(lnv 0).den (zbA l.length k (zay false (l.take k)) (zay true (l.take k)) 0 X false undef (.slice (some ⟨R,o,none⟩) l.length c))=l.length:=zat (by show (0:Int)≤l.length;omega) (by show ((l.length:Nat):Int)<_;omega)
  have d1:(lnv 1).den (zbA l.length k (zay false (l.take k)) (zay true (l.take k)) 0 X false undef (.slice (some ⟨R,o,none⟩) l.length c))=k:=zat (by show (0:Int)≤k;omega) (by show (k:Int)<_;omega)
  have d3:(u64v 3).den (zbA l.length k (zay false (l.take k)) (zay true (l.take k)) 0 X false undef (.slice (some ⟨R,o,none⟩) l.length c))=X.at1:=zaG hxo.1 hxo.2.1
  have d4:(u32v 4).den (zbA l.length k (zay false (l.take k)) (zay true (l.take k)) 0 X false undef (.slice (some ⟨R,o,none⟩) l.length c))=X.len:=zbx hxo.2.2.1 hxo.2.2.2
  have d5:(u64v 5).den (zbA l.length k (zay false (l.take k)) (zay true (l.take k)) 0 X false undef (.slice (some ⟨R,o,none⟩) l.length c))=zay false (l.take k):=zaG hb5.1 (by show zay false (l.take k)<_;omega)
  have d6:(u64v 6).den (zbA l.length k (zay false (l.take k)) (zay true (l.take k)) 0 X false undef (.slice (some ⟨R,o,none⟩) l.length c))=zay true (l.take k):=zaG hb6.1 (by show zay true (l.take k)<_;omega)
  have dx:(zbA l.length k (zay false (l.take k)) (zay true (l.take k)) 0 X false undef (.slice (some ⟨R,o,none⟩) l.length c)).b 0=X.wr:=rfl
  have dv:(zbA l.length k (zay false (l.take k)) (zay true (l.take k)) 0 X false undef (.slice (some ⟨R,o,none⟩) l.length c)).v 1= .slice (some ⟨R,o,none⟩) l.length c:=rfl
  have hsx: ∀j:J,j 1=some ⟨R,o+3*k,0,none⟩→Dw.R (zbA l.length k (zay false (l.take k)) (zay true (l.take k)) 0 X false undef (.slice (some ⟨R,o,none⟩) l.length c)) j (sl1 [(lnv 1,1)]) (.slice (some ⟨R,o,none⟩) l.length c):=fun j h=>⟨rfl,_,_,_,rfl,d0.symm,⟨R,o,_,k,rfl,h,rfl,d1,hkl,rfl⟩,trivial⟩
  generalize zbA l.length k (zay false (l.take k)) (zay true (l.take k)) 0 X false undef (.slice (some ⟨R,o,none⟩) l.length c)=ρ' at*
  refine wp_mono (zaz (ρ:=ρ') (K:=fun _=>False) (g:=Gho.none) (bl:= [(R,o+3*k)]) mixed zCR zGE (fun b h=>h.elim)
   ⟨zba hx (by unfold Sg.cells;simp) (zab (zac d3) (zab (zac d4) (zab (zap dx) RL.nil))) (fun h=>h),trivial⟩
   ⟨fun h=>(by cases h),trivial⟩ zaO trivial trivial trivial q0 qd ?_ (zaa.2 ⟨by rw [zaY,d0,d1];simp only [decide_eq_true_eq];omega,zae.2 trivial⟩)) fun ex a2 w2 hh=> ?_
  ·intro t ht
   simp only [zeX,List.mem_cons,List.not_mem_nil,or_false] at ht
   rcases ht with rfl|rfl|rfl|rfl|rfl
   ·rw [q2];exact zac d5
   ·rw [q3];exact zac d6
   ·rw [q9];exact hsx _ rfl
   ·rw [q10];exact zac d0
   ·rw [q11];exact zac d1
  ·obtain ⟨q,hq,hto,lf,hlf,rfl,hsz2,j2,hdf2,he⟩:=hh
   have hb2:=zar he (fun _ h=>h)
   have hws:IntKind.wrap .u64 (zay false (l.take k)+X.len)=zay false (l.take k)+X.len:=zbE (by have:=hxo.2.2.1;omega) (by have:=hxo.2.2.2;omega)
   have hws':IntKind.wrap .u64 (zay true (l.take k)+X.len)=zay true (l.take k)+X.len:=zbE (by have:=hxo.2.2.1;omega) (by have:=hxo.2.2.2;omega)
   have hwk:=zeu k (by omega)
   unfold zy0 at hq
   simp only [List.mem_cons,List.not_mem_nil,or_false] at hq
   rcases hq with rfl|rfl
   all_goals
    simp only [zaa,zae,zaA,dx,and_true] at hto
    cases hlf
    have hsl2:=zaB he.ret
    simp only [AV.valL,AV.val,d0,d1,d4,d5,d6,dv,den_add,zad,hws,hws',hwk,List.map_cons,List.map_nil,List.cons.injEq,and_true] at hsl2
    obtain ⟨p2,p3,p9,p10,p11⟩:=hsl2
    refine ⟨k+1,by omega,by omega,hsz2,hdf2,?_,?_,p9,p10,p11,hb.trans (hb2.mono hb.size)⟩
   ·rw [p2,t5,hto];simp
   ·rw [p3,t6,hto];simp
   ·rw [p2,t5,hto];simp
   ·rw [p3,t6,hto];simp
 ·have hkk:k=l.length:=by omega
  subst hkk
  rw [List.take_length] at q2 q3 hb5 hb6 htk
  have d0:(lnv 0).den (zbA l.length l.length (zay false l) (zay true l) 0 ⟨0,0,false⟩ false undef (.slice sa l.length c))=l.length:=zat (by show (0:Int)≤l.length;omega) (by show ((l.length:Nat):Int)<_;omega)
  have d1:(lnv 1).den (zbA l.length l.length (zay false l) (zay true l) 0 ⟨0,0,false⟩ false undef (.slice sa l.length c))=l.length:=zat (by show (0:Int)≤l.length;omega) (by show ((l.length:Nat):Int)<_;omega)
  have d5:(u64v 5).den (zbA l.length l.length (zay false l) (zay true l) 0 ⟨0,0,false⟩ false undef (.slice sa l.length c))=zay false l:=zaG hb5.1 (by show zay false l<_;omega)
  have d6:(u64v 6).den (zbA l.length l.length (zay false l) (zay true l) 0 ⟨0,0,false⟩ false undef (.slice sa l.length c))=zay true l:=zaG hb6.1 (by show zay true l<_;omega)
  have hsx:Dw.R (zbA l.length l.length (zay false l) (zay true l) 0 ⟨0,0,false⟩ false undef (.slice sa l.length c)) (jOf []) (sl1 []) (.slice sa l.length c):=⟨rfl,_,_,_,rfl,d0.symm,trivial⟩
  generalize zbA l.length l.length (zay false l) (zay true l) 0 ⟨0,0,false⟩ false undef (.slice sa l.length c)=ρ' at*
  refine wp_mono (zaz (ρ:=ρ') (K:=fun _=>False) (g:=Gho.none) (bl:= []) mixed zyY zCQ (fun b h=>h.elim) trivial trivial zaO trivial trivial trivial q0 qd ?_ (zaa.2 ⟨by rw [zaY,d0,d1];simp,zae.2 trivial⟩)) fun ex a2 w2 hh=> ?_
  ·intro t ht
   simp only [zdW,List.mem_cons,List.not_mem_nil,or_false] at ht
   rcases ht with rfl|rfl|rfl|rfl|rfl
   ·rw [q2];exact zac d5
   ·rw [q3];exact zac d6
   ·rw [q9];exact hsx
   ·rw [q10];exact zac d0
   ·rw [q11];exact zac d1
  ·obtain ⟨q,hq,hto,lf,hlf,rfl,hsz2,j2,hdf2,he⟩:=hh
   have hb2:=zar he (fun _ h=>h)
   unfold zt7 at hq
   simp only [List.mem_cons,List.not_mem_nil,or_false] at hq
   subst hq
   cases hlf
   have hsl2:=zaB he.ret
   simp only [AV.valL,AV.val,d5,d6,List.map_cons,List.map_nil,List.cons.injEq,and_true] at hsl2
   obtain ⟨p2,p3⟩:=hsl2
   refine ⟨⟨.lit true,.exit 0,[(2,.int .u64 (u64v 5)),(3,.int .u64 (u64v 6))],0⟩,rfl,rfl,hsz2,hdf2,(fun t ht=>by cases ht),fun s hs=> ?_,hb.trans (hb2.mono hb.size)⟩
   simp only [List.mem_cons,List.not_mem_nil,or_false] at hs
   rcases hs with rfl|rfl
   ·rw [p2];exact zac h5
   ·rw [p3];exact zac h6
theorem Tryz.zdF {A:Nat→Prop} {w:World} {sa:Option Addr} {c:Nat} {l:List Sg} (h:SegV A w (.slice sa l.length c) l):(segG sa l).G 0 (jOf []) w:=by
 obtain ⟨sa',c',e,hok,hr⟩:=h
 injection e with e1 _ e3
 subst e1
 refine ⟨fun b=>b<w.heap.size,fun b hb=>⟨hb,fun hm=> ?_⟩,?_⟩
 ·obtain ⟨k,L,h1,_⟩:=hm
  cases k<;>cases h1
 ·by_cases h0:l= []
  ·exact .inl h0
  ·rcases hr with h|⟨R,o,e,_,hr⟩
   ·exact .inl h
   ·exact .inr ⟨R,o,e,zcF hr h0,hr⟩
theorem Tryz.zi2 {ρ:Val} {j:J} {sa:Option Addr} {c:Nat} {l:List Sg} (hv:ρ.v 1= .slice sa l.length c) (d0:(lnv 0).den ρ=l.length):Dw.R ρ j (sl1 []) (.slice sa l.length c):=⟨hv.symm,sa,_,c,rfl,d0.symm,trivial⟩
theorem Tryz.zrF {ρ:Val} {w0:World} {K:Nat→Prop} {g:Gho} {sa:Option Addr} {c:Nat} {l:List Sg} (hv:ρ.v 1= .slice sa l.length c) (d0:(lnv 0).den ρ=l.length) (h7:ρ.i 7=zaU l) (hf: ∀w F q,g.fact 0 q F w→SegV (fun _=>False) w (.slice sa l.length c) l):
  zaQ prog ρ w0 K g ckE:=
 zaw (Dw.enters_of (by kernel_rfl)) (by decide) [.slice sa l.length c] (.int .i64 (zaU l)) (fun j=>zab (zi2 hv d0) RL.nil) (fun j=>zac h7) fun w F q h=>zpe (hf w F q h)
theorem Tryz.zpd {A:Nat→Prop} {w:World} {v:Value} {l:List Sg} (h:SegV A w v l) (hln:l.length<4611686018427387904):
  Calls prog 58 #[v] w fun e w'=>e= .returned (.tuple #[.int .u64 (zbp l).1,.int .u64 (zbp l).2])∧Below w.heap.size w w':=by
 have h0:=h
 obtain ⟨sa,c,rfl,hok,hr⟩:=h
 have hG:=zdF h0
 have hF:=fun w F q (hf:(segG sa l).fact 0 q F w)=>SegF.v hf hok c
 have d0:(lnv 0).den (zbA l.length 0 (zay false l) (zay true l) (zaU l) ⟨0,0,false⟩ false undef (.slice sa l.length c))=l.length:=zat (by show (0:Int)≤l.length;omega) (by show ((l.length:Nat):Int)<_;omega)
 have h7:(zbA l.length 0 (zay false l) (zay true l) (zaU l) ⟨0,0,false⟩ false undef (.slice sa l.length c)).i 7=zaU l:=rfl
 have hv:(zbA l.length 0 (zay false l) (zay true l) (zaU l) ⟨0,0,false⟩ false undef (.slice sa l.length c)).v 1= .slice sa l.length c:=rfl
 unfold zbp
 by_cases hE:zaU l=0
 ·have hl:=ze0 hE
  have hb5:=zcv false l hok
  have hb6:=zcv true l hok
  have d5:(u64v 5).den (zbA l.length 0 (zay false l) (zay true l) (zaU l) ⟨0,0,false⟩ false undef (.slice sa l.length c))=zay false l:=zaG hb5.1 (by show zay false l<_;omega)
  have d6:(u64v 6).den (zbA l.length 0 (zay false l) (zay true l) (zaU l) ⟨0,0,false⟩ false undef (.slice sa l.length c))=zay true l:=zaG hb6.1 (by show zay true l<_;omega)
  generalize zbA l.length 0 (zay false l) (zay true l) (zaU l) ⟨0,0,false⟩ false undef (.slice sa l.length c)=ρ at*
  rw [if_pos hE]
  refine Calls.mono (zha (ρ:=ρ) (K:=fun _=>False) (g:=segG sa l) (bl:= []) (vals:= [.slice sa l.length c]) mixed zGF zJb (fun b h=>h.elim) trivial trivial hG ⟨zrF hv d0 h7 hF,trivial⟩ ⟨zCT hl hok hv d0 d5 d6,trivial⟩ trivial (zab (zi2 hv d0) RL.nil) (zae.2 trivial)) fun e w' hh=> ?_
  obtain ⟨p,hpm,hto,lf,hlf,j,he⟩:=hh
  have hb:=zar he (fun _ h=>h)
  unfold zFi at hpm
  simp only [List.mem_cons,List.not_mem_nil,or_false] at hpm
  rcases hpm with rfl|rfl
  all_goals
   simp only [zaa,zae,zcL,zaM,zad,h7,hE,and_true] at hto
   cases hlf
  ·exact absurd hto (by decide)
  ·exact ⟨he.ret.trans (by simp only [AV.val,AV.valL,d5,d6]),hb⟩
 ·generalize zbA l.length 0 (zay false l) (zay true l) (zaU l) ⟨0,0,false⟩ false undef (.slice sa l.length c)=ρ at*
  rw [if_neg hE]
  refine Calls.mono (zaD (ρ:=ρ) (K:=fun _=>False) (g:=segG sa l) (bl:= []) (vals:= [.slice sa l.length c]) mixed zCU zGI (fun b h=>h.elim) trivial trivial hG ⟨zrF hv d0 h7 hF,trivial⟩ (zab (zi2 hv d0) RL.nil) (zaa.2 ⟨by rw [zcL,zaM,h7,zad];simpa using hE,zae.2 trivial⟩)) fun e w' hh=> ?_
  obtain ⟨_,j,he⟩:=zcr hh
  exact ⟨he.ret,zar he (fun _ h=>h)⟩
def Tryz.zcm (N:Nat):List Sg→Bool
 | [] => true
 | x::r=>decide (1≤x.len∧x.at1+x.len≤N)&&zcm N r
def Tryz.zf9 (N:Nat) (l:List Sg):Int:=if zaU l=0 then (if zcm N l=true then 0 else 5) else zaU l
set_option maxRecDepth 10000 in
theorem Tryz.zC1 {ρ:Val} {w0:World} {K:Nat→Prop} {P L Bs B N:Nat} {g:Nat→Int} {sa:Option Addr} {c:Nat} {l:List Sg} (hN:N≤1048576) (h1:1≤N) (hl:l.length≤64) (hok: ∀x∈l,x.ok) (hRm: ∀R o,sa=some ⟨R,o,none⟩→R≠P∧R≠L∧R≠Bs∧R≠B) (hv0:ρ.v 0= .pointer (some ⟨P,0,none⟩)) (hv1:ρ.v 1= .slice sa l.length c) (hn:(lnv 0).den ρ=l.length) (hb2:ρ.b 2=zcm N l):
  zkT prog ρ w0 K (zk1 P L Bs B N g sa l) zdY:=by
 refine zfS rfl (fun d hd=>by unfold zdY at hd;simp at hd;rcases hd with rfl|rfl<;>rfl) fun cc hc j a w F hsz hdf hsl _ hf _ _=> ?_
 obtain ⟨⟨_,_,_,_,hm⟩,hf⟩:=hf
 have g0:=R_val rfl (hsl (0,.cst 0 none) (by simp [zdY])).2
 have g9:=R_val rfl (hsl (23,sl1 []) (by simp [zdY])).2
 have g10:=R_val rfl (hsl (24,.int .i64 (lnv 0)) (by simp [zdY])).2
 have g11:=R_val rfl (hsl (25,.int .i64 (.lit 0)) (by simp [zdY])).2
 simp only [AV.val,sl1,hv0,hv1,hn,zad] at g0 g9 g10 g11
 have hcc:cc=zaK prog [0,0,1,0,1,1,1,172]:=by
  have:=zhk (P:=prog) (p:= [0,1,0,1,1,1,172]) (by kernel_rfl)
  have hc:zaK prog [0,1,0,1,1,1,172]= .loop cc:=hc
  rw [hc] at this
  injection this
 subst hcc
 have hsz:a.tmps.size=38:=hsz
 refine zbJ (fun (k:Nat) a' w'=>k≤l.length∧a'.tmps.size=38∧a'.defers= []∧a'.tmps.getD 0 undef= .pointer (some ⟨P,0,none⟩)∧zcm N l=zcm N (l.drop k)∧a'.tmps.getD 23 undef= .slice sa l.length c∧a'.tmps.getD 24 undef= .int .i64 l.length∧a'.tmps.getD 25 undef= .int .i64 k∧Below w.heap.size w w')
  (fun k=>l.length-k) (fun k a1 w1 hI=> ?_) 0 a w ⟨Nat.zero_le _,hsz,hdf,g0,rfl,g9,g10,by rw [g11];rfl,Below.refl _ _⟩
 obtain ⟨hk,q0,qd,q1,qs,q9,q10,q11,hb⟩:=hI
 have hm1:=hm.below hb
 by_cases hkl:k<l.length
 ·rcases hf with h0|⟨R,o,rfl,hFR,hr⟩
  ·rw [h0] at hkl;simp at hkl
  have hR:=zcF hr (by intro h0;rw [h0] at hkl;simp at hkl)
  have hx:=zb0 (zaV hr (hb.block R hR)) k hkl
  have hxo:=hok l[k] (List.getElem_mem hkl)
  rw [List.drop_eq_getElem_cons hkl,zcm] at qs
  generalize hX:l[k]=X at hx hxo qs
  generalize hy:decide (1≤X.len∧X.at1+X.len≤N)=y at qs
  have d0:(lnv 0).den (zbA l.length k 0 0 0 X y (.pointer (some ⟨P,0,none⟩)) (.slice (some ⟨R,o,none⟩) l.length c))=l.length:=zat (by show (0:Int)≤l.length;omega) (by show ((l.length:Nat):Int)<_;omega)
  have d1:(lnv 1).den (zbA l.length k 0 0 0 X y (.pointer (some ⟨P,0,none⟩)) (.slice (some ⟨R,o,none⟩) l.length c))=k:=zat (by show (0:Int)≤k;omega) (by show (k:Int)<_;omega)
  have d3:(u64v 3).den (zbA l.length k 0 0 0 X y (.pointer (some ⟨P,0,none⟩)) (.slice (some ⟨R,o,none⟩) l.length c))=X.at1:=zaG hxo.1 hxo.2.1
  have d4:(u32v 4).den (zbA l.length k 0 0 0 X y (.pointer (some ⟨P,0,none⟩)) (.slice (some ⟨R,o,none⟩) l.length c))=X.len:=zbx hxo.2.2.1 hxo.2.2.2
  have dx:(zbA l.length k 0 0 0 X y (.pointer (some ⟨P,0,none⟩)) (.slice (some ⟨R,o,none⟩) l.length c)).b 0=X.wr:=rfl
  have dy:(zbA l.length k 0 0 0 X y (.pointer (some ⟨P,0,none⟩)) (.slice (some ⟨R,o,none⟩) l.length c)).b 2=y:=rfl
  have dv:(zbA l.length k 0 0 0 X y (.pointer (some ⟨P,0,none⟩)) (.slice (some ⟨R,o,none⟩) l.length c)).v 1= .slice (some ⟨R,o,none⟩) l.length c:=rfl
  have dp:(zbA l.length k 0 0 0 X y (.pointer (some ⟨P,0,none⟩)) (.slice (some ⟨R,o,none⟩) l.length c)).v 0= .pointer (some ⟨P,0,none⟩):=rfl
  have hsx: ∀j:J,j 1=some ⟨R,o+3*k,0,none⟩→Dw.R (zbA l.length k 0 0 0 X y (.pointer (some ⟨P,0,none⟩)) (.slice (some ⟨R,o,none⟩) l.length c)) j (sl1 [(lnv 1,1)]) (.slice (some ⟨R,o,none⟩) l.length c):=fun j h=>⟨rfl,_,_,_,rfl,d0.symm,⟨R,o,_,k,rfl,h,rfl,d1,hkl,rfl⟩,trivial⟩
  generalize zbA l.length k 0 0 0 X y (.pointer (some ⟨P,0,none⟩)) (.slice (some ⟨R,o,none⟩) l.length c)=ρ' at*
  have hMn: ∀b,b=P∨b=L∨b=Bs∨b=B→ ¬Mine (jOf [(R,o+3*k)]) b:=fun b hb hmn=>by
   obtain ⟨r1,r2,r3,r4⟩:=hRm R o rfl
   obtain ⟨i,L',e1,_,e3⟩:=hmn
   match i,e1 with
   | 0,e1=>cases e1
   | 1,e1=>
    cases e1
    have e3:R=b:=e3
    rw [e3] at r1 r2 r3 r4
    rcases hb with h|h|h|h<;>contradiction
   | i+2,e1=>cases e1
  refine wp_mono (zaz (ρ:=ρ') (K:=fun _=>False) (g:=memG P L Bs B N [g]) (bl:= [(R,o+3*k)]) mixed zCZ zGQ (fun b h=>h.elim)
   ⟨zba hx (by unfold Sg.cells;simp) (zab (zac d3) (zab (zac d4) (zab (zap dx) RL.nil))) (fun h=>h),trivial⟩
   ⟨fun h=>(by cases h),trivial⟩ (za7 hm1 hMn) ⟨?_,trivial⟩ trivial trivial q0 qd ?_ (zaa.2 ⟨by rw [zaY,d0,d1];simp only [decide_eq_true_eq];omega,zae.2 trivial⟩)) fun ex a2 w2 hh=> ?_
  ·refine zaw (Dw.enters_of (by kernel_rfl)) (by decide) [.pointer (some ⟨P,0,none⟩),.int .u64 X.at1,.int .u64 X.len] (.bool y) (fun j=>zab (za5 dp rfl) (zab (zac d3) (zab (zac d4) RL.nil))) (fun j=>zap dy) fun w F q hf=> ?_
   obtain ⟨_,_,_,_,g',e,hm'⟩:=hf
   cases e
   rw [←hy]
   exact zBC P L Bs B N X.at1 X.len g w hm' hN h1 hxo.1 hxo.2.1 hxo.2.2.1
  ·intro t ht
   simp only [zeZ,List.mem_cons,List.not_mem_nil,or_false] at ht
   rcases ht with rfl|rfl|rfl|rfl
   ·rw [q1];exact za5 dp rfl
   ·rw [q9];exact hsx _ rfl
   ·rw [q10];exact zac d0
   ·rw [q11];exact zac d1
  ·obtain ⟨q,hq,hto,lf,hlf,rfl,hsz2,j2,hdf2,he⟩:=hh
   have hb3:=zar he (fun _ h=>h)
   have hwk:=zeu k (by omega)
   unfold zze at hq
   simp only [List.mem_cons,List.not_mem_nil,or_false] at hq
   rcases hq with rfl|rfl
   all_goals
    simp only [zaa,zae,zaA,dy,and_true] at hto
    subst hto
    cases hlf
    have hsl2:=zaB he.ret
    simp only [AV.valL,AV.val,d0,d1,d4,dv,dp,den_add,zad,hwk,List.map_cons,List.map_nil,List.cons.injEq,and_true] at hsl2
   ·refine ⟨⟨.lit true,.ret,[(4,.int .i64 (.lit 5))],0⟩,?_,rfl,hsz2,hdf2,(fun t ht=>by cases ht),fun s hs=> ?_,hb.trans (hb3.mono hb.size)⟩
    ·unfold zdY
     rw [zb7,if_neg (by rw [zaA,hb2,qs];simp)]
     rfl
    ·simp only [List.mem_cons,List.not_mem_nil,or_false] at hs
     subst hs
     rw [hsl2];exact zac rfl
   ·obtain ⟨p1,p9,p10,p11⟩:=hsl2
    exact ⟨k+1,by omega,by omega,hsz2,hdf2,p1,by rw [qs];simp,p9,p10,p11,hb.trans (hb3.mono hb.size)⟩
 ·have hkk:k=l.length:=by omega
  subst hkk
  rw [List.drop_length,zcm] at qs
  have d0:(lnv 0).den (zbA l.length l.length 0 0 0 ⟨0,0,false⟩ false (.pointer (some ⟨P,0,none⟩)) (.slice sa l.length c))=l.length:=zat (by show (0:Int)≤l.length;omega) (by show ((l.length:Nat):Int)<_;omega)
  have d1:(lnv 1).den (zbA l.length l.length 0 0 0 ⟨0,0,false⟩ false (.pointer (some ⟨P,0,none⟩)) (.slice sa l.length c))=l.length:=zat (by show (0:Int)≤l.length;omega) (by show ((l.length:Nat):Int)<_;omega)
  have dp:(zbA l.length l.length 0 0 0 ⟨0,0,false⟩ false (.pointer (some ⟨P,0,none⟩)) (.slice sa l.length c)).v 0= .pointer (some ⟨P,0,none⟩):=rfl
  have hsx:Dw.R (zbA l.length l.length 0 0 0 ⟨0,0,false⟩ false (.pointer (some ⟨P,0,none⟩)) (.slice sa l.length c)) (jOf []) (sl1 []) (.slice sa l.length c):=⟨rfl,_,_,_,rfl,d0.symm,trivial⟩
  generalize zbA l.length l.length 0 0 0 ⟨0,0,false⟩ false (.pointer (some ⟨P,0,none⟩)) (.slice sa l.length c)=ρ' at*
  refine wp_mono (zaz (ρ:=ρ') (K:=fun _=>False) (g:=Gho.none) (bl:= []) mixed zzc zCY (fun b h=>h.elim) trivial trivial zaO trivial trivial trivial q0 qd ?_ (zaa.2 ⟨by rw [zaY,d0,d1];simp,zae.2 trivial⟩)) fun ex a2 w2 hh=> ?_
  ·intro t ht
   simp only [zdX,List.mem_cons,List.not_mem_nil,or_false] at ht
   rcases ht with rfl|rfl|rfl|rfl
   ·rw [q1];exact za5 dp rfl
   ·rw [q9];exact hsx
   ·rw [q10];exact zac d0
   ·rw [q11];exact zac d1
  ·obtain ⟨q,hq,hto,lf,hlf,rfl,hsz2,j2,hdf2,he⟩:=hh
   have hb3:=zar he (fun _ h=>h)
   unfold zuj at hq
   simp only [List.mem_cons,List.not_mem_nil,or_false] at hq
   subst hq
   cases hlf
   refine ⟨⟨.var 2,.exit 0,[],0⟩,?_,rfl,hsz2,hdf2,(fun t ht=>by cases ht),fun s hs=>(by cases hs),hb.trans (hb3.mono hb.size)⟩
   unfold zdY
   rw [zb7,if_pos (by rw [zaA,hb2,qs])]
theorem Tryz.zsr {ρ:Val} {w0:World} {K:Nat→Prop} {gh:Gho} {P L Bs B N:Nat} {g:Nat→Int} (hp:ρ.v 0= .pointer (some ⟨P,0,none⟩)) (hf: ∀w F q,gh.fact 0 q F w→GM w P L Bs B N g):zaQ prog ρ w0 K gh rd0E:=
 zaw (Dw.enters_of (by kernel_rfl)) (by decide) [.pointer (some ⟨P,0,none⟩),.int .u64 0,.int .i64 0] (.tuple #[.slice none 0 0,.int .i64 0]) (fun j=>zab (za5 hp rfl) (zab (zac rfl) (zab (zac rfl) RL.nil))) (fun j=>zcC (zab rfl (zab (zac rfl) RL.nil))) fun w F q h=>
  Calls.mono (zpl P L Bs B N 0 g w (hf w F q h)) fun e w' hh=>⟨hh.1,hh.2▸Below.refl _ _⟩
theorem Tryz.zzm {A:Nat→Prop} {w:World} {P L Bs B N:Nat} {g:Nat→Int} {sa:Option Addr} {c:Nat} {l:List Sg} (hm:GM w P L Bs B N g) (hN:N≤1048576) (h1:1≤N) (h:SegV A w (.slice sa l.length c) l) (hln:l.length<4611686018427387904)
  (hRm: ∀R o,sa=some ⟨R,o,none⟩→R≠P∧R≠L∧R≠Bs∧R≠B):
  Calls prog 172 #[.pointer (some ⟨P,0,none⟩),.slice sa l.length c] w fun e w'=>e= .returned (.int .i64 (zf9 N l))∧Below w.heap.size w w':=by
 have h0:=h
 obtain ⟨sa',c',e',hok,hr⟩:=h
 obtain ⟨F0,hF0,hF1⟩:=zdF h0
 have hG:(zk1 P L Bs B N g sa l).G 0 (jOf []) w:=by
  refine ⟨fun b=>F0 b∨b=P∨b=L∨b=Bs∨b=B,fun b hb=>⟨?_,?_⟩,⟨.inr (.inl rfl),.inr (.inr (.inl rfl)),.inr (.inr (.inr (.inl rfl))),.inr (.inr (.inr (.inr rfl))),hm⟩,?_⟩
  ·rcases hb with hb|rfl|rfl|rfl|rfl
   ·exact (hF0 b hb).1
   ·exact hm.pl
   ·exact hm.ll
   ·exact hm.sl
   ·exact hm.bl
  ·rintro ⟨k,L',h1,_⟩
   cases k<;>cases h1
  ·have hF1:SegF F0 w sa l:=hF1
   rcases hF1 with h|⟨R,o,e,hF,hr⟩
   ·exact .inl h
   ·exact .inr ⟨R,o,e,.inl hF,hr⟩
 have hF:=fun w F q (hf:(zk1 P L Bs B N g sa l).fact 0 q F w)=>SegF.v hf.2 hok c
 have hM:=fun w F q (hf:(zk1 P L Bs B N g sa l).fact 0 q F w)=>hf.1.2.2.2.2
 have d0:(lnv 0).den (zbA l.length 0 0 0 (zaU l) ⟨0,0,false⟩ (zcm N l) (.pointer (some ⟨P,0,none⟩)) (.slice sa l.length c))=l.length:=zat (by show (0:Int)≤l.length;omega) (by show ((l.length:Nat):Int)<_;omega)
 have h7:(zbA l.length 0 0 0 (zaU l) ⟨0,0,false⟩ (zcm N l) (.pointer (some ⟨P,0,none⟩)) (.slice sa l.length c)).i 7=zaU l:=rfl
 have hb2:(zbA l.length 0 0 0 (zaU l) ⟨0,0,false⟩ (zcm N l) (.pointer (some ⟨P,0,none⟩)) (.slice sa l.length c)).b 2=zcm N l:=rfl
 have hv0:(zbA l.length 0 0 0 (zaU l) ⟨0,0,false⟩ (zcm N l) (.pointer (some ⟨P,0,none⟩)) (.slice sa l.length c)).v 0= .pointer (some ⟨P,0,none⟩):=rfl
 have hv:(zbA l.length 0 0 0 (zaU l) ⟨0,0,false⟩ (zcm N l) (.pointer (some ⟨P,0,none⟩)) (.slice sa l.length c)).v 1= .slice sa l.length c:=rfl
 unfold zf9
 generalize zbA l.length 0 0 0 (zaU l) ⟨0,0,false⟩ (zcm N l) (.pointer (some ⟨P,0,none⟩)) (.slice sa l.length c)=ρ at*
 by_cases hE:zaU l=0
 ·have hl:=ze0 hE
  rw [if_pos hE]
  refine Calls.mono (zha (ρ:=ρ) (K:=fun _=>False) (g:=zk1 P L Bs B N g sa l) (bl:= []) (vals:= [.pointer (some ⟨P,0,none⟩),.slice sa l.length c]) mixed zGR zJi (fun b h=>h.elim) trivial trivial hG ⟨zrF hv d0 h7 hF,zsr hv0 hM,trivial⟩ ⟨zC1 hN h1 hl hok hRm hv0 hv d0 hb2,trivial⟩ trivial (zab (za5 hv0 rfl) (zab (zi2 hv d0) RL.nil)) (zae.2 trivial)) fun e w' hh=> ?_
  obtain ⟨p,hpm,hto,lf,hlf,j,he⟩:=hh
  have hb:=zar he (fun _ h=>h)
  unfold zFr at hpm
  simp only [List.mem_cons,List.not_mem_nil,or_false] at hpm
  rcases hpm with rfl|rfl|rfl
  all_goals
   simp only [zaa,zae,zcL,zaA,zaM,zad,h7,hb2,hE,and_true] at hto
   cases hlf
  ·exact absurd hto (by decide)
  ·rw [if_pos hto.2];exact ⟨he.ret,hb⟩
  ·rw [if_neg (by rw [hto.2];decide)];exact ⟨he.ret,hb⟩
 ·rw [if_neg hE]
  refine Calls.mono (zaD (ρ:=ρ) (K:=fun _=>False) (g:=zk1 P L Bs B N g sa l) (bl:= []) (vals:= [.pointer (some ⟨P,0,none⟩),.slice sa l.length c]) mixed zC2 zGU (fun b h=>h.elim) trivial trivial hG ⟨zrF hv d0 h7 hF,zsr hv0 hM,trivial⟩ (zab (za5 hv0 rfl) (zab (zi2 hv d0) RL.nil)) (zaa.2 ⟨by rw [zcL,zaM,h7,zad];simpa using hE,zae.2 trivial⟩)) fun e w' hh=> ?_
  obtain ⟨_,j,he⟩:=zcr hh
  exact ⟨he.ret.trans (by simp only [AV.val,zaM,h7]),zar he (fun _ h=>h)⟩
end Go.Proofs
namespace Go.Dw
open Go.RowKit
structure EntW where
 e:Ent
 rows:List (Nat×List AV×List AV)
def isVar (H:Heap) (n:Nat) (row row':List AV):Bool:=
 match H.m.get n with
 | some (.cells v 0 g none false true)=>(match Nat.beq g n,Nat.beq v.n row.length,Nat.beq row'.length row.length with
  | true,true,true=>AV.beqL (v.list 0 v.n) row
  | _,_,_=>false)
 | _=>false
def zn8 (H:Heap):List (Nat×List AV×List AV)→Bool
 | [] => true
 | r::l=>match isVar H r.1 r.2.1 r.2.2 with|true=>zn8 H l|false=>false
def zd0 (H:Heap):List (Nat×List AV×List AV)→Heap
 | [] => H
 | r::l=>zd0 (H.upd r.1 (.cells (Vec.ofList r.2.2) 0 r.1 none false true)) l
def zd1:List (Nat×List AV×List AV)→List Nat
 | [] => []
 | r::l=>r.1::zd1 l
def zil:List (Nat×List AV×List AV)→List (Nat×List AV)
 | [] => []
 | r::l=>(r.1,r.2.1)::zil l
def subN:List Nat→List Nat→Bool
 | [], _=>true
 | a::l,m=>match m.any (Nat.beq a) with|true=>subN l m|false=>false
def EntW.fits (e:EntW) (f:FuncId) (args:List AV) (H:Heap):Bool:=
 match e.e.fits f args H,zn8 H e.rows,zcw H (zil e.rows),subN (zd1 e.rows) (AV.namesL args) with
 | true,true,true,true=>zgu (zd1 e.rows)
 | _,_,_,_=>false
theorem zhI: ∀ {l:List (Nat×List AV×List AV)} {r},r∈l→(r.1,r.2.1)∈zil l
 | [], r,h=>by cases h
 | x::l,r,h=>by
  unfold zil
  rcases List.mem_cons.1 h with rfl|h
  ·exact List.mem_cons_self ..
  ·exact List.mem_cons_of_mem _ (zhI h)
theorem znb: ∀ {l m:List Nat},subN l m=true→ ∀a∈l,a∈m
 | [], _,_,a,h=>by cases h
 | x::l,m,hs,a,h=>by
  unfold subN at hs
  split at hs
  case h_2=>cases hs
  rename_i h1
  rcases List.mem_cons.1 h with rfl|h
  ·obtain ⟨y,h2,h3⟩:=List.any_eq_true.1 h1
   rw [zav h3];exact h2
  ·exact znb hs a h
def ziA:List EntW→FuncId→List AV→Heap→Option (List (AV×Heap))
 | [], _,_,_=>none
 | e::l,f,args,H=>match e.fits f args H with
  | true=>some [(e.e.res,zd0 (e.e.heap H) e.rows)]
  | false=>ziA l f args H
def zkA (l:List Ent) (m:List EntW):FuncId→List AV→Heap→Option (List (AV×Heap)):=fun f args H=>
 match zau l f args H with
 | some r=>some r
 | none=>ziA m f args H
def zle (j:J) (rows:List (Nat×List AV×List AV)) (b:Nat):Prop:= ∃r∈rows,∃L,j r.1=some L∧b=L.blk
def zKi (P:Program) (ρ:Val) (w0:World) (K:Nat→Prop) (g:Gho) (e:EntW):Prop:=
 Enters P e.e.f∧ ∀(j:J) (w:World) (vals:List Value) (F:Nat→Prop) (n:Nat),RL ρ j e.e.args vals→(∀k,n≤k→j k=none)→(e.e.nopq≠0→n=e.e.base)→(∀b,F b→b<w.heap.size)→w0.heap.size≤w.heap.size→
  (∀ r∈e.rows,∃L vs,j r.1=some L∧L.off=0∧(w0.heap.size≤L.blk∨K L.blk)∧ ¬F L.blk∧RL ρ j r.2.1 vs∧Own w L.blk vs)→
  (∀ r∈e.rows,∀r'∈e.rows,r.1≠r'.1→ ∀L L',j r.1=some L→j r'.1=some L'→L.blk≠L'.blk)→g.fact e.e.gs (opqs j) F w→
   Calls P e.e.f vals.toArray w fun en w'=> ∃u qs F',en= .returned u∧qs.length=e.e.nopq∧R ρ (jq j n qs) e.e.res u∧g.fact e.e.gs' (opqs (jq j n qs)) F' w'∧(∀b,F' b→b<w'.heap.size∧(F b∨w.heap.size≤b))∧
    (∀ r∈e.rows,∀L,j r.1=some L→ ∃vs,RL ρ (jq j n qs) r.2.2 vs∧Own w' L.blk vs)∧Mv (fun b=>(F b∧(w0.heap.size≤b∨K b))∨zle j e.rows b) w w'
def zyi (P:Program) (ρ:Val) (w0:World) (K:Nat→Prop) (g:Gho):List EntW→Prop
 | [] => True
 | e::l=>zKi P ρ w0 K g e∧zyi P ρ w0 K g l
def zf0:List (Nat×List AV×List AV)→Bool
 | [] => true
 | r::l=>match AV.smallL r.2.1,AV.smallL r.2.2 with|true,true=>zf0 l|_,_=>false
def zdB:List EntW→Bool
 | [] => true
 | e::l=>match AV.smallL e.e.args,e.e.res.small,zf0 e.rows with|true,true,true=>zdB l|_,_,_=>false
theorem zdU: ∀ {l:List (Nat×List AV×List AV)},zf0 l=true→ ∀r∈l,AV.smallL r.2.1=true∧AV.smallL r.2.2=true
 | [], _,r,h=>by cases h
 | x::l,hl,r,h=>by
  unfold zf0 at hl
  split at hl
  ·rename_i h1 h2
   rcases List.mem_cons.1 h with rfl|h
   ·exact ⟨h1,h2⟩
   ·exact zdU hl r h
  ·cases hl
theorem zEk {H:Heap} {n:Nat} {row row':List AV} (h:isVar H n row row'=true): ∃v,H.m.get n=some (.cells v 0 n none false true)∧v.n=row.length∧row'.length=row.length∧v.list 0 v.n=row:=by
 unfold isVar at h
 split at h
 case h_2=>cases h
 rename_i v g hm
 split at h
 case h_2=>cases h
 rename_i h1 h2 h3
 have h1:=zav h1
 subst h1
 exact ⟨v,hm,zav h2,zav h3,AV.beqL_eq h⟩
theorem zkQ {H:Heap}: ∀ {l:List (Nat×List AV×List AV)},zn8 H l=true→ ∀r∈l,isVar H r.1 r.2.1 r.2.2=true
 | [], _,r,h=>by cases h
 | x::l,hl,r,h=>by
  unfold zn8 at hl
  split at hl
  ·rename_i h1
   rcases List.mem_cons.1 h with rfl|h
   ·exact h1
   ·exact zkQ hl r h
  ·cases hl
theorem zs3 {n:Nat} {l:List Nat} (h:zgu (n::l)=true):n∉l∧zgu l=true:=by
 unfold zgu at h
 split at h
 ·cases h
 ·rename_i hh
  refine ⟨fun hm=> ?_,h⟩
  have:l.any (Nat.beq n)=true:=List.any_eq_true.2 ⟨n,hm,by simp⟩
  rw [this] at hh
  cases hh
theorem zfG: ∀ {l:List (Nat×List AV×List AV)} {r},r∈l→r.1∈zd1 l
 | [], r,h=>by cases h
 | x::l,r,h=>by
  unfold zd1
  rcases List.mem_cons.1 h with rfl|h
  ·exact List.mem_cons_self ..
  ·exact List.mem_cons_of_mem _ (zfG h)
theorem Inv.turns {ρ:Val} {x:Cx} {j:J} {w':World}: ∀(rows:List (Nat×List AV×List AV)) {H:Heap} {wm:World},Inv ρ x j H wm→zgu (zd1 rows)=true→
  (∀ r∈rows,∃v L vs,H.m.get r.1=some (.cells v 0 r.1 none false true)∧v.n=r.2.2.length∧j r.1=some L∧L.off=0∧RL ρ j r.2.2 vs∧Own w' L.blk vs)→
  (∀ r∈rows,∀r'∈rows,r.1≠r'.1→ ∀L L',j r.1=some L→j r'.1=some L'→L.blk≠L'.blk)→
  (∃ hp:Array Go.Obj,wm= { w' with heap:=hp })→wm.heap.size=w'.heap.size→(∀b,¬zle j rows b→wm.heap[b]? =w'.heap[b]?)→
  Inv ρ x j (zd0 H rows) w'
 | [], H,wm,hi,_,_,_,⟨hp,hw⟩,hsz,hout=>by
  have:hp=w'.heap:=by
   apply Array.ext_getElem?
   intro i
   have:=hout i (by rintro ⟨r,h,_⟩;cases h)
   rw [hw] at this
   exact this
  subst this
  rw [hw] at hi
  exact hi
 | r::rows,H,wm,hi,hnd,hr,hne,⟨hp,hw⟩,hsz,hout=>by
  obtain ⟨hn1,hn2⟩:=zs3 hnd
  obtain ⟨v,L,vs,h1,h2,h3,h4,h5,arr,e,h6,h7⟩:=hr r (List.mem_cons_self ..)
  have hlt:L.blk<wm.heap.size:=hi.blk _ _ h3 (hi.qrow h3 h1)
  have hb:=(hi.obj _ _ h3)
  let w1:World:= { w' with heap:=wm.heap.setIfInBounds L.blk (.cells arr e (0,0)) }
  have hset:w1.heap[L.blk]? =some (.cells arr e (0,0)):=by
   show (wm.heap.setIfInBounds L.blk _)[L.blk]? =_
   rw [Array.getElem?_setIfInBounds_self_of_lt hlt]
  have hoth: ∀k,k≠L.blk→w1.heap[k]? =wm.heap[k]? :=fun k hk=>by
   show (wm.heap.setIfInBounds L.blk _)[k]? =_
   rw [Array.getElem?_setIfInBounds_ne (fun h=>hk h.symm)]
  have hlen:=RL.length h5
  have hcell: ∀i a,r.2.2[i]? =some a→ ∃x,arr[L.off+i]? =some x∧R ρ j a x:=fun i a hi'=>by
   obtain ⟨x,q1,q2⟩:=h5.get i a hi'
   exact ⟨x,by rw [h4,Nat.zero_add];exact h7 i x q1,q2⟩
  have hn:L.off+v.n≤arr.size:=by
   rcases Nat.eq_zero_or_pos v.n with h0|h0
   ·omega
   ·obtain ⟨x,q1,_⟩:=hcell (v.n-1) _ (List.getElem?_eq_getElem (by omega))
    have:=(Array.getElem?_eq_some_iff.1 q1).1
    omega
  have hi1:=hi.turned h3 h1 h2.symm hset hoth (by show (wm.heap.setIfInBounds L.blk _).size=_;simp) (by rw [hw]) (by rw [hw]) (by rw [hw]) hn hcell
  unfold zd0
  rw [Heap.upd_eq]
  refine Inv.turns rows hi1 hn2 (fun r' hr'=> ?_) (fun r1 h1' r2 h2'=>hne r1 (List.mem_cons_of_mem _ h1') r2 (List.mem_cons_of_mem _ h2')) ⟨_,rfl⟩ (by show (wm.heap.setIfInBounds L.blk _).size=_;simp [hsz]) (fun b hb=> ?_)
  ·obtain ⟨v',L',vs',g1,g2⟩:=hr r' (List.mem_cons_of_mem _ hr')
   have hne':r'.1≠r.1:=fun h=>hn1 (h▸zfG hr')
   exact ⟨v',L',vs',by show (H.m.set r.1 _).get r'.1=_;rw [T.get_set_ne _ _ hne'];exact g1,g2⟩
  ·by_cases hbl:b=L.blk
   ·subst hbl;rw [hset,h6]
   ·rw [hoth b hbl]
    refine hout b ?_
    rintro ⟨r',hr',L',g1,g2⟩
    rcases List.mem_cons.1 hr' with rfl|hr'
    ·rw [h3] at g1;cases g1;exact hbl g2
    ·exact hb ⟨r',hr',L',g1,g2⟩
theorem zhA: ∀(rows:List (Nat×List AV×List AV)) (H:Heap),(zd0 H rows).nx=H.nx∧(zd0 H rows).gw=H.gw∧ ∀k,k∉zd1 rows→(zd0 H rows).m.get k=H.m.get k
 | [], H=>⟨rfl,rfl,fun _ _=>rfl⟩
 | r::rows,H=>by
  unfold zd0
  rw [Heap.upd_eq]
  obtain ⟨h1,h2,h3⟩:=zhA rows ⟨H.m.set r.1 (.cells (Vec.ofList r.2.2) 0 r.1 none false true),H.nx,H.gw⟩
  refine ⟨h1,h2,fun k hk=> ?_⟩
  unfold zd1 at hk
  rw [h3 k (fun h=>hk (List.mem_cons_of_mem _ h))]
  exact T.get_set_ne _ _ (fun h=>hk (h▸List.mem_cons_self ..))
theorem zwG {P:Program} {ρ:Val} {w0:World} {K:Nat→Prop} {g:Gho} (m:Nat→Bool) {l:List EntW} (hs:zdB l=true) (h:zyi P ρ w0 K g l):zfY P (ρ.mark m) (cxOf w0 K g) (ziA l):=by
  intro f args H r hr
  induction l with
  | nil=>cases hr
  | cons e l ih=>
    unfold zdB at hs
    split at hs
    case h_2=>cases hs
    rename_i s1 s2 s3
    unfold ziA at hr
    split at hr
    case h_2=>exact ih hs h.2 hr
    rename_i hf
    cases hr
    unfold EntW.fits at hf
    split at hf
    case h_2=>cases hf
    rename_i hf1 hf2 hf3 hf4
    unfold Ent.fits at hf1
    split at hf1
    · cases hf1
    rename_i hff
    have hff:=zav hff
    subst hff
    split at hf1
    case h_2=>cases hf1
    rename_i ha hgs
    have ha:=AV.beqL_eq ha
    have hgs:=zav hgs
    subst ha
    obtain ⟨h1,h2⟩:=h.1
    refine ⟨h1,fun k hk j w vals hi hv=> ?_⟩
    have hk:Ob.den (ρ.mark m) (k e.e.res (zd0 (e.e.heap H) e.rows)):=hk
    have hG:=hi.gho
    rw [hgs] at hG
    obtain ⟨F,g1,g2⟩:=hG
    have hnone: ∀k,H.nx≤k→j k=none:=fun k hk=>by
      cases hjk:j k with
      | none=>rfl
      | some L=>have:=hi.dom k L hjk;omega
    have hbase:e.e.nopq≠0→H.nx=e.e.base:=fun hn=>by
      split at hf1
      · rename_i h0;exact absurd h0 hn
      · exact zav hf1
    have hpl: ∀r∈e.rows,∃L,j r.1=some L:=fun r hr=>⟨_,namesL_some hv r.1 (znb hf4 _ (zfG hr))⟩
    have hrow: ∀r∈e.rows,∃v L vs arr t,H.m.get r.1=some (.cells v 0 r.1 none false true)∧v.n=r.2.1.length∧r.2.2.length=r.2.1.length∧j r.1=some L∧L.q=none∧L.off=0∧(cxOf w0 K g).own L.blk∧w.heap[L.blk]? =some (.cells arr t (0,0))∧RL ρ j r.2.1 vs∧ ∀(i:Nat) (y:Value),vs[i]? =some y→arr[i]? =some y:=fun r hr=>by
      obtain ⟨v,q1,q2,q3,_⟩:=zEk (zkQ hf2 r hr)
      obtain ⟨L,hL⟩:=hpl r hr
      have hq:=hi.qrow hL q1
      have h0:=hi.off0 _ _ _ _ _ _ hL q1
      obtain ⟨o,k1,k2⟩:=hi.obj _ _ hL
      rw [q1] at k1;cases k1
      have hown:=k2.2.1
      rw [if_pos rfl] at hown
      obtain ⟨vals,arr,t,fr,p1,p2,p3,_⟩:=hi.rowOut hL (zch hf3 (zhI hr))
      have:=hi.fz _ _ hL hq hown _ _ _ p1
      subst this
      exact ⟨v,L,vals,arr,t,q1,q2,q3,hL,hq,h0,hown,p1,(RL_mark m (zdU s3 r hr).1).1 p2,fun i y hy=>by have:=p3 i y hy;rwa [h0,Nat.zero_add] at this⟩
    have hFr: ∀r∈e.rows,∀L,j r.1=some L→ ¬F L.blk:=fun r hr L hL hF=>by
      obtain ⟨v,L',vs,arr,t,q1,q2,q3,q4,q5,_⟩:=hrow r hr
      rw [hL] at q4;cases q4
      exact (g1 _ hF).2 ⟨r.1,L,hL,q5,rfl⟩
    have hne: ∀r∈e.rows,∀r'∈e.rows,r.1≠r'.1→ ∀L L',j r.1=some L→j r'.1=some L'→L.blk≠L'.blk:=fun r hr r' hr' hne L L' hL hL' hb=>by
      obtain ⟨v,L1,vs,arr,t,q1,q2,q3,q4,q5,_⟩:=hrow r hr
      obtain ⟨v',L2,vs',arr',t',q1',q2',q3',q4',q5',_⟩:=hrow r' hr'
      rw [hL] at q4;cases q4
      rw [hL'] at q4';cases q4'
      obtain ⟨vn,en,gn,cn,sn,on,vm,em,gm,cm,sm,om,k1,k2,k3,k4⟩:=hi.sep r.1 r'.1 L L' hne hL hL' q5 q5' hb
      rw [q1] at k1;cases k1
      rw [q1'] at k2;cases k2
      exact hne (k4 rfl).1
    refine Calls.mono (h2 j w vals F H.nx ((RL_mark m s1).1 hv) hnone hbase (fun b hF=>(g1 b hF).1) hi.fr.size (fun r hr=> ?_) hne g2) fun en w' he=> ?_
    · obtain ⟨v,L,vs,arr,t,q1,q2,q3,q4,q5,q6,q7,q8,q9,q10⟩:=hrow r hr
      exact ⟨L,vs,q4,q6,q7,hFr r hr L q4,q9,arr,t,q8,q10⟩
    · obtain ⟨u,qs,F',rfl,e2,e3,e4,e5,e6,e7⟩:=he
      classical
      let hp:Array Go.Obj:=Array.ofFn (n:=w'.heap.size) fun i=>if zle j e.rows i.val then (w.heap[i.val]?).getD w'.heap[i] else w'.heap[i]
      let wm:World:= { w' with heap:=hp }
      have hT: ∀b,zle j e.rows b→b<w.heap.size∧Mine j b∧(cxOf w0 K g).own b:=fun b hb=>by
        obtain ⟨r,hr,L,hL,rfl⟩:=hb
        obtain ⟨v,L',vs,arr,t,q1,q2,q3,q4,q5,q6,q7,q8,_⟩:=hrow r hr
        rw [hL] at q4;cases q4
        exact ⟨hi.blk _ _ hL q5,⟨r.1,L,hL,q5,rfl⟩,q7⟩
      have hhp: ∀b,b<w'.heap.size→wm.heap[b]? =if zle j e.rows b then w.heap[b]? else w'.heap[b]? :=fun b hb=>by
        show hp[b]? =_
        rw [Array.getElem?_eq_getElem (by simp [hp];exact hb)]
        simp only [hp,Array.getElem_ofFn]
        by_cases ht:zle j e.rows b
        · rw [if_pos ht,if_pos ht]
          rw [Array.getElem?_eq_getElem (hT b ht).1]
          rfl
        · rw [if_neg ht,if_neg ht,Array.getElem?_eq_getElem hb]
          rfl
      have hsz:wm.heap.size=w'.heap.size:=by show hp.size=_;simp [hp]
      have hmv:Mv (fun b=> ¬Mine j b∧(cxOf w0 K g).own b) w wm:=⟨e7.os,e7.tape,e7.output,by rw [hsz];exact e7.size,fun b hb hnb=>by
        rw [hhp b (Nat.lt_of_lt_of_le hb e7.size)]
        by_cases ht:zle j e.rows b
        · rw [if_pos ht]
        · rw [if_neg ht]
          refine e7.block b hb ?_
          rintro (⟨hF,ho⟩|h)
          · exact hnb ⟨(g1 b hF).2,ho⟩
          · exact ht h⟩
      have hFn: ∀b,F' b→ ¬zle j e.rows b:=fun b hF' ht=>by
        rcases (e5 b hF').2 with hF|hF
        · exact (g1 b hF).2 (hT b ht).2.1
        · have:=(hT b ht).1;omega
      have hns:(cxOf w0 K g).G e.e.gs' (jq j H.nx qs) wm:=⟨F',fun b hF'=>⟨by rw [hsz];exact (e5 b hF').1,fun hm=>by
        have hm:=zny hnone hm
        rcases (e5 b hF').2 with hF|hF
        · exact (g1 b hF).2 hm
        · obtain ⟨k,L,k1,k2,k3⟩:=hm
          have:=hi.blk k L k1 k2
          omega⟩,g.loc _ _ _ _ _ _ e4 (fun _ _ h=>h) (fun b hb=>by rw [hhp b (e5 b hb).1,if_neg (hFn b hb)]) (by omega)⟩
      obtain ⟨i1,i2⟩:=Inv.ent (e:=e.e) hi hgs e2 hns hmv
      have hjq: ∀r∈e.rows,jq j H.nx qs r.1=j r.1:=fun r hr=>by
        obtain ⟨L,hL⟩:=hpl r hr
        rw [hL];exact zFg hi qs _ _ hL
      have hTq: ∀b,zle (jq j H.nx qs) e.rows b↔zle j e.rows b:=fun b=>by
        constructor
        · rintro ⟨r,hr,L,hL,hb⟩;exact ⟨r,hr,L,(hjq r hr)▸hL,hb⟩
        · rintro ⟨r,hr,L,hL,hb⟩;exact ⟨r,hr,L,(hjq r hr).symm▸hL,hb⟩
      obtain ⟨z1,z2,z3,z4,z5⟩:=e.e.heap_eq H hi.nx0 hgs
      have hobj: ∀r∈e.rows,(e.e.heap H).m.get r.1=H.m.get r.1:=fun r hr=>by
        obtain ⟨L,hL⟩:=hpl r hr
        have:=hi.dom _ _ hL
        have hn0:=hi.ne0 hL
        rw [z4 r.1 (by omega),if_neg (by omega)]
      have i3:=Inv.turns e.rows (w':=w') i1 hf (fun r hr=>by
        obtain ⟨v,L,vs,arr,t,q1,q2,q3,q4,q5,q6,_⟩:=hrow r hr
        obtain ⟨vs',k1,k2⟩:=e6 r hr L q4
        exact ⟨v,L,vs',by rw [hobj r hr];exact q1,by omega,by rw [hjq r hr];exact q4,q6,(RL_mark m (zdU s3 r hr).2).2 k1,k2⟩)
        (fun r hr r' hr' hh L L' hL hL'=>hne r hr r' hr' hh L L' ((hjq r hr)▸hL) ((hjq r' hr')▸hL')) ⟨hp,rfl⟩ hsz (fun b hb=>by
          rw [hTq] at hb
          by_cases hlt:b<w'.heap.size
          · rw [hhp b hlt,if_neg hb]
          · rw [Array.getElem?_eq_none (by omega),Array.getElem?_eq_none (by omega)])
      obtain ⟨y1,y2,y3⟩:=zhA e.rows (e.e.heap H)
      refine ⟨u,rfl,e.e.res,_,_,(R_mark m s2).2 e3,i3,⟨i2.sub,i2.fresh,fun n hp hn hlt=> ?_,by rw [y1];exact i2.nx⟩,hk⟩
      have hnr:n∉zd1 e.rows:=fun hm=>by
        have:=namesL_some hv n (znb hf4 _ hm)
        rw [hn] at this;cases this
      rw [y3 n hnr,y2]
      exact i2.keep n hp hn hlt
theorem zx3 {P:Program} {ρ:Val} {x:Cx} {l:List Ent} {m:List EntW} (h1:zfY P ρ x (zau l)) (h2:zfY P ρ x (ziA m)):zfY P ρ x (zkA l m):=by
 intro f args H r hr
 unfold zkA at hr
 split at hr
 ·rename_i r' h;cases hr;exact h1 f args H _ h
 ·exact h2 f args H r hr
theorem zxD {P:Program} {ρ:Val} {w:World} {K:Nat→Prop} {g:Gho} {bl:List (Nat×Nat)} {shs:List Sh} {gs:Nat} {ents:List Ent} {wents:List EntW} {lents:List LEnt} {aents:List AEnt} {n:Nat} {f:FuncId} {args:List AV} {vals:List Value} {ls:List Leaf} {asm:List (SB×Bool)} {ps:List (List (SB×Bool)×Nat)}
  (hmo:P.follows .mixedOrders=true)
  (h:(evL P (zkA ents wents) (zaF lents) (zaE aents) n (.call f args (zas gs shs) (zaR ls 0))).ways asm=some ps)
  (hs:(zai shs&&zaf ents&&zdB wents&&zam lents&&zan aents&&AV.smallL args&&zal ls)=true)
  (hK: ∀b,K b→b<w.heap.size) (ho:ShsOk ρ (jOf bl) (cxOf w K g) bl shs) (hap:apart bl shs) (hG:g.G gs (jOf bl) w) (he:zmO P ρ w K g ents) (hw:zyi P ρ w K g wents) (hl:zqS P ρ w K g lents) (haa:zrR P ρ w K g aents) (ha:RL ρ (jOf bl) args vals) (ht:Told ρ asm):
  Calls P f vals.toArray w fun e w'=> ∃p∈ps,Told ρ p.1∧ ∃l,ls[p.2]? =some l∧ ∃j,zod ρ w K g bl l e w' j:=by
 simp only [Bool.and_eq_true] at hs
 obtain ⟨⟨⟨⟨⟨⟨s1,s2⟩,sw⟩,s5⟩,s9⟩,s3⟩,s4⟩:=hs
 unfold Ob.ways at h
 cases hps:(evL P (zkA ents wents) (zaF lents) (zaE aents) n (.call f args (zas gs shs) (zaR ls 0))).paths asm with
 | none=>rw [hps] at h;cases h
 | some ps0=>
 rw [hps] at h
 cases h
 have h:=hps
 refine Calls.mono (zqI (x:=cxOf w K g) hmo (fun m=>zx3 (zgP (zdf m s2 he)) (zwG m sw hw)) (fun m=>zhl m s5 hl) (fun m=>zhw m s9 haa) (fun m=>zgK hK (zdT m s1 ho) hap hG) (fun m=>(RL_mark m s3).2 ha) ht h) fun e w' hh=> ?_
 obtain ⟨p,hp,hto,l,hl,m,u,v,j',H',rfl,h1,h2,h3,h4⟩:=hh
 obtain ⟨x1,x2,x3,x4⟩:=zce s4 hl
 exact ⟨(p.1.drop asm.length,p.2),zdh hp,fun c hc=>hto c (List.mem_of_mem_drop hc),l,hl,j',zit x1 x2 x3 x4 h1 h2 h3 h4⟩
end Go.Dw
namespace Go.Proofs
open Go.Dw Go.RowKit
def Tryz.zkH (n:Nat):Nat→List AV
 | 0=> []
 | k+1=> .int .u8 (u8v n)::zkH (n+1) k
def Tryz.sl16:AV:= .sx 0 (.lit 16) 1 [(.lit 0,1)]
def Tryz.zJY:Ent:=⟨179,[.cst 0 none,.int .u64 (u64v 10),.int .u64 (u32v 11)],0,0,0,.bool (.var 2),0⟩
def Tryz.inE:Ent:=⟨172,[.cst 0 none,sl1 []],0,0,0,.int .i64 (.var 8),0⟩
end Go.Proofs
namespace Go.Proofs
open Go.Dw
def Tryz.zlh:List Ent:= [zJY]
def Tryz.zoj:List Sh:= []
def Tryz.zli:List AV:= [.cst 0 none,.int .u64 (u64v 10),.int .u32 (u32v 11)]
def Tryz.zyp:List (SB×Bool):= []
def Tryz.ztQ:List Leaf:= [
 ⟨.tup [.int .i64 (.lit 0),.int .i64 (.lit 4)],[],[],0,[]⟩,
 ⟨.tup [.int .i64 (.lit 0),.int .i64 (.lit 5)],[],[],0,[]⟩,
 ⟨.tup [.int .i64 (.flds [⟨11,0,4294967295,4,28,0⟩] 0),.int .i64 (.lit 0)],[],[],0,[]⟩]
def Tryz.ztP:List (List (SB×Bool)×Nat):= [
 ([((.cmp .eql (u32v 11) (.lit 0)),true)],0),
 ([((.cmp .eql (u32v 11) (.lit 0)),false),((.cmp .neq (.flds [⟨11,0,4294967295,0,4,0⟩] 0) (.lit 0)),true)],0),
 ([((.cmp .eql (u32v 11) (.lit 0)),false),((.cmp .neq (.flds [⟨11,0,4294967295,0,4,0⟩] 0) (.lit 0)),false),((.cmp .gtr (.flds [⟨11,0,4294967295,4,28,0⟩] 0) (.lit 64)),true)],0),
 ([((.cmp .eql (u32v 11) (.lit 0)),false),((.cmp .neq (.flds [⟨11,0,4294967295,0,4,0⟩] 0) (.lit 0)),false),((.cmp .gtr (.flds [⟨11,0,4294967295,4,28,0⟩] 0) (.lit 64)),false),(.var 2,false)],1),
 ([((.cmp .eql (u32v 11) (.lit 0)),false),((.cmp .neq (.flds [⟨11,0,4294967295,0,4,0⟩] 0) (.lit 0)),false),((.cmp .gtr (.flds [⟨11,0,4294967295,4,28,0⟩] 0) (.lit 64)),false),(.var 2,true)],2)]
theorem Tryz.zyo:(ev prog (zau zlh) 100000 (.call 178 zli (zas 0 zoj) (zaR ztQ 0))).ways zyp=some ztP:=by kernel_rfl
theorem Tryz.zCG:(zai zoj&&zaf zlh&&AV.smallL zli&&zal ztQ)=true:=by kernel_rfl
def Tryz.zlf:List Ent:= [ckE,inE]
def Tryz.zoh:List Sh:= []
def Tryz.zlg:List AV:= [.cst 0 none,sl1 []]
def Tryz.zym:List (SB×Bool):= []
def Tryz.ztO:List Leaf:= [
 ⟨.tup [.nils,.int .i64 (.lit 4)],[],[],0,[]⟩,
 ⟨.tup [.nils,.int .i64 (.var 8)],[],[],0,[]⟩,
 ⟨.tup [.sx 1 ((lnv 0)) 3 [],.int .i64 (.lit 0)],[],[],0,[]⟩]
def Tryz.ztN:List (List (SB×Bool)×Nat):= [
 ([((.cmp .eql (lnv 0) (.lit 0)),true)],0),
 ([((.cmp .eql (lnv 0) (.lit 0)),false),((.cmp .neq (.var 7) (.lit 0)),true)],0),
 ([((.cmp .eql (lnv 0) (.lit 0)),false),((.cmp .neq (.var 7) (.lit 0)),false),((.cmp .neq (.var 8) (.lit 0)),true)],1),
 ([((.cmp .eql (lnv 0) (.lit 0)),false),((.cmp .neq (.var 7) (.lit 0)),false),((.cmp .neq (.var 8) (.lit 0)),false)],2)]
theorem Tryz.zyl:(ev prog (zau zlf) 100000 (.call 156 zlg (zas 0 zoh) (zaR ztO 0))).ways zym=some ztN:=by kernel_rfl
theorem Tryz.zCE:(zai zoh&&zaf zlf&&AV.smallL zlg&&zal ztO)=true:=by kernel_rfl
open Go.RowKit
def Tryz.zkG (i s:Nat):Nat→List Fld
 | 0=> []
 | k+1=>⟨i,0,255,0,8,s⟩::zkG (i+1) (s+8) k
theorem Tryz.zwD (g:Nat→Int) (a k:Nat):zah g a (k+1)=g a+256*zah g (a+1) k:=by
 induction k with
 | zero=>simp [zah]
 | succ k ih=>
  rw [zah,ih]
  conv=>rhs;rw [zah]
  rw [show a+1+k=a+(k+1) by omega,Int.pow_succ,Int.mul_add]
  have:g (a+(k+1))*(256^k*256)=256*(g (a+(k+1))*256^k):=by
   rw [←Int.mul_assoc,Int.mul_comm _ 256]
  omega
theorem Tryz.zbF (g:Nat→Int) (hg: ∀j,0≤g j∧g j<256) (a k:Nat):0≤zah g a k∧zah g a k<256^k:=zbt g hg a k
theorem Tryz.zrG {ρ:Val} {g:Nat→Int} (hg: ∀j,0≤g j∧g j<256): ∀(k i s a:Nat),(∀t,t<k→ρ.i (i+t)=g (a+t))→zaj ρ (zkG i s k) 0=(zah g a k).toNat*2^s
 | 0,i,s,a,_=>by simp [zkG,zaj,zah]
 | k+1,i,s,a,h=>by
  have h0:=h 0 (by omega)
  rw [Nat.add_zero,Nat.add_zero] at h0
  have ih:=zrG hg k (i+1) (s+8) (a+1) fun t ht=>by
   have:=h (t+1) (by omega)
   rw [show i+1+t=i+(t+1) by omega,show a+1+t=a+(t+1) by omega];exact this
  obtain ⟨b0,b1⟩:=hg a
  obtain ⟨x,hx⟩:=Int.eq_ofNat_of_zero_le b0
  obtain ⟨y,hy⟩:=Int.eq_ofNat_of_zero_le (zbF g hg (a+1) k).1
  rw [hx] at b1
  unfold zkG zaj
  rw [ih,zwD,hx,hy]
  simp only [Fld.den,h0,hx,Int.toNat_natCast,Nat.shiftRight_zero]
  have e1:max 0 (min x 255)=x:=by omega
  rw [e1,Nat.mod_eq_of_lt (by omega)]
  have e2:((x:Int)+256*(y:Int)).toNat=x+256*y:=by omega
  rw [e2,Nat.shiftLeft_eq,Nat.or_comm,Nat.pow_add]
  have e3:y*(2^s*2^8)=y<<<(s+8):=by rw [Nat.shiftLeft_eq,Nat.pow_add]
  rw [e3,←Nat.shiftLeft_add_eq_or_of_lt (by rw [Nat.pow_add,Nat.mul_comm];exact Nat.mul_lt_mul_of_pos_left (by omega) (Nat.pow_pos (by decide))),Nat.shiftLeft_eq,Nat.pow_add,Nat.add_mul]
  have:y*(2^s*2^8)=256*y*2^s:=by rw [Nat.mul_comm (2^s),←Nat.mul_assoc,Nat.mul_comm y]
  omega
theorem Tryz.zfs {ρ:Val} {g:Nat→Int} (hg: ∀j,0≤g j∧g j<256) (k i a:Nat) (h: ∀t,t<k→ρ.i (i+t)=g (a+t)):SE.den ρ (.flds (zkG i 0 k) 0)=zah g a k:=by
 show ((zaj ρ (zkG i 0 k) 0:Nat):Int)=_
 rw [zrG hg k i 0 a h]
 have:=(zbF g hg a k).1
 simp
 omega
def Tryz.brho (g:Nat→Int) (a:Nat) (v:Value):Val:=⟨fun i=>g (a+(i-20)),fun _=>false,fun _=>v⟩
theorem Tryz.zm4 {ρ:Val} {j:J} {g:Nat→Int} (hg: ∀j,0≤g j∧g j<256): ∀(k i a:Nat),(∀t,t<k→ρ.i (i+t)=g (a+t))→RL ρ j (zkH i k) (row g a k)
 | 0,i,a,_=>by unfold zkH row;exact RL.nil
 | k+1,i,a,h=>by
  have h0:=h 0 (by omega)
  rw [Nat.add_zero,Nat.add_zero] at h0
  have e:row g a (k+1)= .int .u8 (g a)::row g (a+1) k:=by
   unfold row
   rw [List.range_succ_eq_map,List.map_cons,List.map_map]
   congr 1
   apply List.map_congr_left
   intro t _
   show Value.int .u8 (g (a+(t+1)))= .int .u8 (g (a+1+t))
   rw [show a+(t+1)=a+1+t by omega]
  rw [e]
  unfold zkH
  obtain ⟨b0,b1⟩:=hg a
  refine zab (zac ?_) (zm4 hg k (i+1) (a+1) fun t ht=>by
   have:=h (t+1) (by omega)
   rw [show i+1+t=i+(t+1) by omega,show a+1+t=a+(t+1) by omega];exact this)
  rw [zJ5 (by rw [h0];exact b0) (by rw [h0];exact b1),h0]
theorem Tryz.zbi {ρ:Val} {i lo hi fr n sh:Nat} (h0:(lo:Int)≤ρ.i i) (h1:ρ.i i≤(hi:Int)):SE.den ρ (.flds [⟨i,lo,hi,fr,n,sh⟩] 0)=(ρ.i i/(2^fr:Nat)%(2^n:Nat))*(2^sh:Nat):=by
 obtain ⟨x,hx⟩:=Int.eq_ofNat_of_zero_le (Int.le_trans (Int.natCast_nonneg lo) h0)
 rw [hx] at h0 h1
 simp only [SE.den,zaj,Fld.den,hx,Int.toNat_natCast,Nat.or_zero]
 have e:max lo (min x hi)=x:=by omega
 rw [e,Nat.shiftRight_eq_div_pow,Nat.shiftLeft_eq]
 show ((x/2^fr%2^n*2^sh:Nat):Int)=_
 push_cast
 rfl
def Tryz.entN (N:Nat) (at1 n:Int):Int×Int:=if n=0∨ ¬n%16=0∨64<n/16 then (0,4) else if at1+n≤N then (n/16,0) else (0,5)
def Tryz.erho (at1 n:Int) (b2:Bool) (p:Value):Val:=vof [0,0,0,0,0,0,0,0,0,0,at1,n] [false,false,b2] [p]
theorem Tryz.ztu {P L Bs B N:Nat} {A n:Int} {g:Nat→Int} {w:World} (st:GM w P L Bs B N g) (hN:N≤1048576) (h1:1≤N) (ha0:0≤A) (ha1:A<18446744073709551616) (hn0:0≤n) (hn1:n<4294967296):
  Calls prog 178 #[.pointer (some ⟨P,0,none⟩),.int .u64 A,.int .u32 n] w fun e w'=>e= .returned (.tuple #[.int .i64 (entN N A n).1,.int .i64 (entN N A n).2])∧Below w.heap.size w w':=by
 have dA:(u64v 10).den (erho A n (decide (1≤n∧A+n≤N)) (.pointer (some ⟨P,0,none⟩)))=A:=zaG ha0 ha1
 have dn:(u32v 11).den (erho A n (decide (1≤n∧A+n≤N)) (.pointer (some ⟨P,0,none⟩)))=n:=zbx hn0 hn1
 have d4:SE.den (erho A n (decide (1≤n∧A+n≤N)) (.pointer (some ⟨P,0,none⟩))) (.flds [⟨11,0,4294967295,0,4,0⟩] 0)=n%16:=(zbi hn0 (by show n≤_;omega)).trans (by show n/((2^0:Nat):Int)%((2^4:Nat):Int)*((2^0:Nat):Int)=_;have e1:((2^0:Nat):Int)=1:=rfl;have e2:((2^4:Nat):Int)=16:=rfl;rw [e1,e2];omega)
 have d28:SE.den (erho A n (decide (1≤n∧A+n≤N)) (.pointer (some ⟨P,0,none⟩))) (.flds [⟨11,0,4294967295,4,28,0⟩] 0)=n/16:=(zbi hn0 (by show n≤_;omega)).trans (by show n/((2^4:Nat):Int)%((2^28:Nat):Int)*((2^0:Nat):Int)=_;have e1:((2^0:Nat):Int)=1:=rfl;have e2:((2^4:Nat):Int)=16:=rfl;have e3:((2^28:Nat):Int)=268435456:=rfl;rw [e1,e2,e3];omega)
 have dp:(erho A n (decide (1≤n∧A+n≤N)) (.pointer (some ⟨P,0,none⟩))).v 0= .pointer (some ⟨P,0,none⟩):=rfl
 have db:(erho A n (decide (1≤n∧A+n≤N)) (.pointer (some ⟨P,0,none⟩))).b 2=decide (1≤n∧A+n≤N):=rfl
 generalize erho A n (decide (1≤n∧A+n≤N)) (.pointer (some ⟨P,0,none⟩))=ρ at*
 refine Calls.mono (zaD (ρ:=ρ) (K:=fun _=>False) (g:=memG P L Bs B N [g]) (bl:= []) (vals:= [.pointer (some ⟨P,0,none⟩),.int .u64 A,.int .u32 n]) mixed zyo zCG (fun b h=>h.elim) trivial trivial
  (za7 st fun b _ hm=>by obtain ⟨k,L',h1,_⟩:=hm;cases k<;>cases h1) ⟨?_,trivial⟩ (zab (za5 dp rfl) (zab (zac dA) (zab (zac dn) RL.nil))) (zae.2 trivial)) fun e w' hh=> ?_
 ·refine zaw (Dw.enters_of (by kernel_rfl)) (by decide) [.pointer (some ⟨P,0,none⟩),.int .u64 A,.int .u64 n] (.bool (decide (1≤n∧A+n≤N))) (fun j=>zab (za5 dp rfl) (zab (zac dA) (zab (zac dn) RL.nil))) (fun j=>zap db) fun w F q hf=> ?_
  obtain ⟨_,_,_,_,g',e,hm'⟩:=hf
  cases e
  exact zBC P L Bs B N A n g w hm' hN h1 ha0 ha1 hn0
 ·obtain ⟨p,hpm,hto,l,hl,j,he⟩:=hh
  have hb:=zar he (fun _ h=>h)
  unfold ztP at hpm
  simp only [List.mem_cons,List.not_mem_nil,or_false] at hpm
  unfold entN
  rcases hpm with rfl|rfl|rfl|rfl|rfl
  all_goals
   simp only [zaa,zae,zbj,zcL,zbC,zaA,dn,d4,d28,db,zad,decide_eq_true_eq,decide_eq_false_iff_not,and_true,beq_iff_eq,bne_iff_ne,ne_eq,beq_eq_false_iff_ne,bne_eq_false_iff_eq] at hto
   cases hl
   refine ⟨he.ret.trans ?_,hb⟩
   simp only [AV.val,AV.valL,d28,zad]
  ·rw [if_pos (.inl hto)]
  ·rw [if_pos (.inr (.inl hto.2))]
  ·rw [if_pos (.inr (.inr (by omega)))]
  ·rw [if_neg (by omega),if_neg (by omega)]
  ·rw [if_neg (by omega),if_pos hto.2.2.2.2]
def Tryz.zcU (N:Nat) (l:List Sg):Int:=if l= []∨ ¬zaU l=0 then 4 else zf9 N l
def Tryz.lrho (n e i:Int) (p sl:Value):Val:=vof [n,0,0,0,0,0,0,e,i] [] [p,sl]
theorem Tryz.zxN {A:Nat→Prop} {w:World} {P L Bs B N:Nat} {g:Nat→Int} {sa:Option Addr} {c:Nat} {l:List Sg} (hm:GM w P L Bs B N g) (hN:N≤1048576) (h1:1≤N) (h:SegV A w (.slice sa l.length c) l) (hln:l.length<4611686018427387904)
  (hRm: ∀R o,sa=some ⟨R,o,none⟩→R≠P∧R≠L∧R≠Bs∧R≠B):
  Calls prog 156 #[.pointer (some ⟨P,0,none⟩),.slice sa l.length c] w fun e w'=>e= .returned (.tuple #[if zcU N l=0 then .slice sa l.length c else .slice none 0 0,.int .i64 (zcU N l)])∧Below w.heap.size w w':=by
 have h0:=h
 obtain ⟨sa',c',e',hok,hr⟩:=h
 obtain ⟨F0,hF0,hF1⟩:=zdF h0
 have hG:(zk1 P L Bs B N g sa l).G 0 (jOf []) w:=by
  refine ⟨fun b=>F0 b∨b=P∨b=L∨b=Bs∨b=B,fun b hb=>⟨?_,?_⟩,⟨.inr (.inl rfl),.inr (.inr (.inl rfl)),.inr (.inr (.inr (.inl rfl))),.inr (.inr (.inr (.inr rfl))),hm⟩,?_⟩
  ·rcases hb with hb|rfl|rfl|rfl|rfl
   ·exact (hF0 b hb).1
   ·exact hm.pl
   ·exact hm.ll
   ·exact hm.sl
   ·exact hm.bl
  ·rintro ⟨k,L',h1,_⟩
   cases k<;>cases h1
  ·have hF1:SegF F0 w sa l:=hF1
   rcases hF1 with h|⟨R,o,e,hF,hr⟩
   ·exact .inl h
   ·exact .inr ⟨R,o,e,.inl hF,hr⟩
 have hF:=fun w F q (hf:(zk1 P L Bs B N g sa l).fact 0 q F w)=>SegF.v hf.2 hok c
 have hM:=fun w F q (hf:(zk1 P L Bs B N g sa l).fact 0 q F w)=>hf.1.2.2.2.2
 have d0:(lnv 0).den (lrho l.length (zaU l) (zf9 N l) (.pointer (some ⟨P,0,none⟩)) (.slice sa l.length c))=l.length:=zat (by show (0:Int)≤l.length;omega) (by show ((l.length:Nat):Int)<_;omega)
 have h7:(lrho l.length (zaU l) (zf9 N l) (.pointer (some ⟨P,0,none⟩)) (.slice sa l.length c)).i 7=zaU l:=rfl
 have h8:(lrho l.length (zaU l) (zf9 N l) (.pointer (some ⟨P,0,none⟩)) (.slice sa l.length c)).i 8=zf9 N l:=rfl
 have hv0:(lrho l.length (zaU l) (zf9 N l) (.pointer (some ⟨P,0,none⟩)) (.slice sa l.length c)).v 0= .pointer (some ⟨P,0,none⟩):=rfl
 have hv:(lrho l.length (zaU l) (zf9 N l) (.pointer (some ⟨P,0,none⟩)) (.slice sa l.length c)).v 1= .slice sa l.length c:=rfl
 generalize lrho l.length (zaU l) (zf9 N l) (.pointer (some ⟨P,0,none⟩)) (.slice sa l.length c)=ρ at*
 refine Calls.mono (zaD (ρ:=ρ) (K:=fun _=>False) (g:=zk1 P L Bs B N g sa l) (bl:= []) (vals:= [.pointer (some ⟨P,0,none⟩),.slice sa l.length c]) mixed zyl zCE (fun b h=>h.elim) trivial trivial hG
  ⟨zrF hv d0 h7 hF,?_,trivial⟩ (zab (za5 hv0 rfl) (zab (zi2 hv d0) RL.nil)) (zae.2 trivial)) fun e w' hh=> ?_
 ·exact zaw (Dw.enters_of (by kernel_rfl)) (by decide) [.pointer (some ⟨P,0,none⟩),.slice sa l.length c] (.int .i64 (zf9 N l)) (fun j=>zab (za5 hv0 rfl) (zab (zi2 hv d0) RL.nil)) (fun j=>zac h8) fun w F q hf=>zzm (hM w F q hf) hN h1 (hF w F q hf) hln hRm
 ·obtain ⟨p,hpm,hto,lf,hlf,j,he⟩:=hh
  have hb:=zar he (fun _ h=>h)
  have hne:l= []↔((l.length:Nat):Int)=0:=by rw [←List.length_eq_zero_iff];omega
  unfold ztN at hpm
  simp only [List.mem_cons,List.not_mem_nil,or_false] at hpm
  rcases hpm with rfl|rfl|rfl|rfl
  all_goals
   simp only [zaa,zae,zbj,zcL,zaM,d0,h7,h8,zad,and_true,beq_iff_eq,bne_iff_ne,ne_eq,beq_eq_false_iff_ne,bne_eq_false_iff_eq] at hto
   cases hlf
   refine ⟨he.ret.trans ?_,hb⟩
   simp only [AV.val,AV.valL,hv,h8,zaM,zad]
  ·have hE:zcU N l=4:=by unfold zcU;exact if_pos (.inl (hne.2 hto))
   rw [hE,if_neg (by decide)]
  ·have hE:zcU N l=4:=by unfold zcU;exact if_pos (.inr hto.2)
   rw [hE,if_neg (by decide)]
  ·have hE:zcU N l=zf9 N l:=by unfold zcU;exact if_neg (by rintro (h|h);exact hto.1 (hne.1 h);exact h hto.2.1)
   rw [hE,if_neg hto.2.2]
  ·have hE:zcU N l=zf9 N l:=by unfold zcU;exact if_neg (by rintro (h|h);exact hto.1 (hne.1 h);exact h hto.2.1)
   rw [hE,if_pos hto.2.2,hto.2.2]
structure Tryz.PgOk (r:Rg):Prop where
 bnd:1≤r.n∧r.n≤16
 d:r.d=4096
 v:r.v=4096+16*r.n
 c:r.c=4100+16*r.n
def Tryz.Rg.pval (r:Rg):Value:= .agg #[.bool true,.int .i64 r.n,.int .u64 r.d,.int .u64 r.v,.int .u64 r.c]
structure Tryz.PTk where
 ct:Int
 sg:List Sg
def Tryz.zbk (k:Int):List (Int×PTk)→Option PTk
 | [] => none
 | e::r=>if k=e.1 then some e.2 else zbk k r
def Tryz.zb5 (k:Int):List (Int×PTk)→List (Int×PTk)
 | [] => []
 | e::r=>if k=e.1 then r else e::zb5 k r
def Tryz.zcc:List (Int×PTk)→Int
 | [] => 0
 | e::r=>e.2.ct+zcc r
structure Tryz.PS where
 ev:Bool
 tb:Bool
 nx:Int
 nw:Bool
 us:Int
 uw:Bool
 tk:List (Int×PTk)
 ou:Int
 ph:Nat
 op:Int
 nn:Bool
 hd:Int
 sg:List Sg
 wr:Int
 it:Bool
 dn:Bool
 br:Bool
def Tryz.PS.row (s:PS) (r:Rg) (P M:Nat) (sv:Value):List Value:=
 [.pointer (some ⟨P,0,.none⟩),.bool true,.int .i64 r.n,.int .u64 r.d,.int .u64 r.v,.int .u64 r.c,.bool s.ev,.bool s.tb,.bool true,.int .i64 s.nx,.bool s.nw,.int .i64 s.us,.bool s.uw,.map (some M),.int .i64 s.ou,.int .i64 s.ph,
  .int .i64 s.op,.bool s.nn,.int .i64 s.hd,sv,.int .u32 s.wr,.bool s.it,.bool s.dn,.bool s.br]
def Tryz.PS.goto (s:PS) (k:Nat):PS:= { s with ph:=k,dn:=false,br:=false }
def Tryz.PS.stop (s:PS):PS:= { s with ph:=0,dn:=true,br:=false }
def Tryz.PS.brk (s:PS):PS:= { s with br:=true,ph:=0,op:=0,nn:=false,hd:=0,sg:= [],wr:=0,it:=false }
def Tryz.zaL (n at0:Int) (wr:Bool) (by0:Int):Int×Bool:=if at0+by0<n then (at0+by0,wr) else (at0+by0-n,!wr)
def Tryz.zcs (f:Int) (wr:Bool):Bool:=(decide (f/128%2=1)==wr)&&(decide (f/32768%2=1) !=wr)
structure Tryz.PCh where
 id:Int
 ct:Int
 sg:List Sg
 e:Int
def Tryz.pSeg (g:Nat→Int) (a:Nat):Sg:=⟨zah g a 8,zah g (a+8) 4,zah g (a+14) 2/2%2*2 !=0⟩
def Tryz.zk8 (g:Nat→Int) (a:Nat):Nat→List Sg→List Sg×Int
 | 0,l=>(l,0)
 | k+1,l=>if zah g (a+14) 2/4%2=1 then ([],4) else zk8 g (a+16) k (l++ [pSeg g a])
def Tryz.zbw (N:Nat) (g:Nat→Int) (at1 n:Int):List Sg×Int:=
 if (entN N at1 n).2≠0 then ([],(entN N at1 n).2) else zk8 g at1.toNat (entN N at1 n).1.toNat []
def Tryz.zbM (N:Nat) (g:Nat→Int) (n:Int) (tb:Bool):Nat→Int→Int→List Sg→Int→PCh
 | 0,_,ct,l,id=>⟨id,ct,l,4⟩
 | k+1,at0,ct,l,_=>
  let a:=(4096+16*at0).toNat
  let f:=zah g (a+14) 2
  let id:=zah g (a+12) 2
  if f/4%2=1 then
   if tb=false∨1<ct+1∨f%2=1 then ⟨id,ct+1,l,4⟩
   else ⟨id,ct+1,(zbw N g (zah g a 8) (zah g (a+8) 4)).1,(zbw N g (zah g a 8) (zah g (a+8) 4)).2⟩
  else if f%2=0 then ⟨id,ct+1,l++ [pSeg g a],0⟩
  else zbM N g n tb k (zaL n at0 true 1).1 (ct+1) (l++ [pSeg g a]) id
def Tryz.zbW (N:Nat) (g:Nat→Int) (n:Int) (at0:Int) (tb:Bool):PCh:=
 let t:=zbM N g n tb n.toNat at0 0 [] 0
 if t.e≠0 then ⟨0,0,[],t.e⟩ else if n≤t.id then ⟨0,0,[],4⟩ else if zcU N t.sg≠0 then ⟨0,0,[],zcU N t.sg⟩ else t
def Tryz.posW (at0:Int) (wr:Bool):Int:=at0+if wr then 32768 else 0
def Tryz.znx (n ea:Int) (ew:Bool) (na:Int) (nw:Bool) (by0:Int):Bool:=decide ((na-(if ew=nw then ea else ea-n)-1)%65536<by0%65536)
def Tryz.zc4 (n us:Int) (uw:Bool) (ct w:Int) (it0:Bool):Bool:=
 if w/65536%4=0 then true
 else if w/65536%4=2 then
  (if w%32768<n then znx n (w%32768) (decide (w/32768%2=1)) us uw ct else true)
 else it0
def Tryz.zcb (g:Nat→Int) (s:PS):Bool:=zcs (zah g (4096+16*s.nx+14).toNat 2) s.nw
def Tryz.zdJ (N:Nat) (r:Rg) (s:PS) (g:Nat→Int) (ph:Nat):Value×Int×PS×(Nat→Int):=
 let acc:=fun (k what i:Int)=>Value.agg #[.int .i64 k,.int .i64 what,.int .i64 i]
 match ph with
 | 1=>(acc 2 1 s.nx,0,if zcb g s then s.goto 5 else if s.ev then s.goto 2 else ({ s with nn:=true }:PS).stop,g)
 | 2=>(acc 3 11 0,0,s.goto 3,putW g r.c.toNat 4 (posW s.nx s.nw+131072))
 | 3=>(acc 4 0 0,0,s.goto 4,g)
 | 4=>(acc 2 1 s.nx,0,if zcb g s then s.goto 5 else ({ s with nn:=true }:PS).stop,g)
 | 5=>(acc 4 0 0,0,s.goto 6,g)
 | 6=>
  let t:=zbW N g r.n s.nx s.tb
  if t.e≠0∨zbk t.id s.tk≠none∨r.n<t.ct+s.ou then (acc 1 0 0,4,s.brk,g)
  else (acc 1 0 0,0,({ s with tk:=s.tk++ [(t.id,⟨t.ct,t.sg⟩)],ou:=s.ou+t.ct,nx:=(zaL r.n s.nx s.nw t.ct).1,nw:=(zaL r.n s.nx s.nw t.ct).2,hd:=t.id,sg:=t.sg }:PS).stop,g)
 | 7=>(acc 3 1 s.us,0,s.goto 8,putW (putW g (4096+16*s.us+8).toNat 4 s.wr) (4096+16*s.us+12).toNat 2 s.hd)
 | 8=>(acc 4 0 0,0,s.goto 9,g)
 | 9=>(acc 3 1 s.us,0,s.goto 10,putW g (4096+16*s.us+14).toNat 2 ((if 0<s.wr then 2 else 0)+if s.uw then 32896 else 0))
 | 10=>(acc 4 0 0,0,s.goto 11,g)
 | _=>
  let w:=zah g r.v.toNat 4
  let ct:=match zbk s.hd s.tk with|some t=>t.ct|none=>0
  let u:=zaL r.n s.us s.uw ct
  (acc 2 10 0,0,({ s with us:=u.1,uw:=u.2,it:=zc4 r.n u.1 u.2 ct w s.it,tk:=zb5 s.hd s.tk,ou:=s.ou-ct }:PS).stop,g)
def Tryz.zaT (N:Nat) (r:Rg) (s:PS) (g:Nat→Int):Value×Int×PS×(Nat→Int):=
 if s.br then (.agg #[.int .i64 0,.int .i64 0,.int .i64 0],4,s,g) else if s.ph=0 then (.agg #[.int .i64 0,.int .i64 0,.int .i64 0],8,s,g) else zdJ N r s g s.ph
def Tryz.zck (s:PS):Int×PS:=
 if s.br then (4,s) else if s.ph≠0 then (8,s) else (0,({ s with op:=3,nn:=false,hd:=0,sg:= [],wr:=0,it:=false }:PS).goto 1)
def Tryz.zc7 (s:PS) (h wr:Int):Int×PS:=
 if s.br then (4,s) else if s.ph≠0 then (8,s) else
  match zbk h s.tk with
  | none=>(6,s)
  | some t=>if (zbp t.sg).2<wr then (2,s) else (0,({ s with op:=4,nn:=false,hd:=h,sg:= [],wr:=wr,it:=false }:PS).goto 7)
def Tryz.posA (i b:Nat):AV:= .agg [.int .i64 (lnv i),.bool (.var b)]
end Go.Proofs
namespace Go.Proofs
open Go.Dw
def Tryz.zuq:List Ent:= []
def Tryz.zzj:List Sh:= []
def Tryz.zur:List AV:= [posA 4 0,.int .i64 (lnv 5),.int .i64 (szv 0)]
def Tryz.zGY:List (SB×Bool):= []
def Tryz.zFu:List Leaf:= [
 ⟨.tup [.agg [.int .i64 (.lit 0),.bool (.lit false)],.int .i64 (.lit 2)],[],[],0,[]⟩,
 ⟨.tup [.agg [.int .i64 (.bin .sub .i64 (.bin .add .i64 (lnv 4) (lnv 5)) (szv 0)),.bool (.not (.var 0))],.int .i64 (.lit 0)],[],[],0,[]⟩,
 ⟨.tup [.agg [.int .i64 (.bin .add .i64 (lnv 4) (lnv 5)),.bool (.var 0)],.int .i64 (.lit 0)],[],[],0,[]⟩]
def Tryz.zFt:List (List (SB×Bool)×Nat):= [
 ([((.cmp .geq (lnv 4) (szv 0)),true)],0),
 ([((.cmp .geq (lnv 4) (szv 0)),false),((.cmp .gtr (lnv 5) (szv 0)),true)],0),
 ([((.cmp .geq (lnv 4) (szv 0)),false),((.cmp .gtr (lnv 5) (szv 0)),false),((.cmp .geq (.bin .add .i64 (lnv 4) (lnv 5)) (szv 0)),true)],1),
 ([((.cmp .geq (lnv 4) (szv 0)),false),((.cmp .gtr (lnv 5) (szv 0)),false),((.cmp .geq (.bin .add .i64 (lnv 4) (lnv 5)) (szv 0)),false)],2)]
theorem Tryz.zGX:(ev prog (zau zuq) 100000 (.call 123 zur (zas 0 zzj) (zaR zFu 0))).ways zGY=some zFt:=by kernel_rfl
theorem Tryz.zJj:(zai zzj&&zaf zuq&&AV.smallL zur&&zal zFu)=true:=by kernel_rfl
def Tryz.zuh:List Ent:= []
def Tryz.zzb:List Sh:= []
def Tryz.zui:List AV:= [posA 4 0,posA 6 1,.int .i64 (lnv 5),.int .i64 (szv 0)]
def Tryz.zGP:List (SB×Bool):= []
def Tryz.zFq:List Leaf:= [
 ⟨.tup [.bool (.lit false),.int .i64 (.lit 2)],[],[],0,[]⟩,
 ⟨.tup [.bool (.cmp .lss (.bin .sub .u16 (.bin .sub .u16 (.flds [⟨6,0,4611686018427387903,0,16,0⟩] 0) (.wrap .u16 (.bin .sub .i64 (lnv 4) (szv 0)))) (.lit 1)) (.bin .sub .u16 (.flds [⟨6,0,4611686018427387903,0,16,0⟩] 0) (.wrap .u16 (.bin .sub .i64 (lnv 6) (lnv 5))))),.int .i64 (.lit 0)],[],[],0,[]⟩,
 ⟨.tup [.bool (.cmp .lss (.bin .sub .u16 (.bin .sub .u16 (.flds [⟨6,0,4611686018427387903,0,16,0⟩] 0) (.flds [⟨4,0,4611686018427387903,0,16,0⟩] 0)) (.lit 1)) (.bin .sub .u16 (.flds [⟨6,0,4611686018427387903,0,16,0⟩] 0) (.wrap .u16 (.bin .sub .i64 (lnv 6) (lnv 5))))),.int .i64 (.lit 0)],[],[],0,[]⟩]
def Tryz.zFp:List (List (SB×Bool)×Nat):= [
 ([((.cmp .geq (lnv 4) (szv 0)),true)],0),
 ([((.cmp .geq (lnv 4) (szv 0)),false),((.cmp .geq (lnv 6) (szv 0)),true)],0),
 ([((.cmp .geq (lnv 4) (szv 0)),false),((.cmp .geq (lnv 6) (szv 0)),false),((.cmp .gtr (lnv 5) (szv 0)),true)],0),
 ([((.cmp .geq (lnv 4) (szv 0)),false),((.cmp .geq (lnv 6) (szv 0)),false),((.cmp .gtr (lnv 5) (szv 0)),false),((.beq (.var 0) (.var 1)),false)],1),
 ([((.cmp .geq (lnv 4) (szv 0)),false),((.cmp .geq (lnv 6) (szv 0)),false),((.cmp .gtr (lnv 5) (szv 0)),false),((.beq (.var 0) (.var 1)),true)],2)]
theorem Tryz.zGO:(ev prog (zau zuh) 100000 (.call 129 zui (zas 0 zzb) (zaR zFq 0))).ways zGP=some zFp:=by kernel_rfl
theorem Tryz.zJg:(zai zzb&&zaf zuh&&AV.smallL zui&&zal zFq)=true:=by kernel_rfl
def Tryz.zt5:List Ent:= []
def Tryz.zyW:List Sh:= []
def Tryz.zt6:List AV:= [posA 4 0]
def Tryz.zGC:List (SB×Bool):= []
def Tryz.zFf:List Leaf:= [
 ⟨.int .u16 (.flds [⟨4,0,4611686018427387903,0,15,0⟩] 32768),[],[],0,[]⟩,
 ⟨.int .u16 (.flds [⟨4,0,4611686018427387903,0,15,0⟩] 0),[],[],0,[]⟩]
def Tryz.zFe:List (List (SB×Bool)×Nat):= [
 ([(.var 0,true)],0),
 ([(.var 0,false)],1)]
theorem Tryz.zGB:(ev prog (zau zt5) 100000 (.call 121 zt6 (zas 0 zyW) (zaR zFf 0))).ways zGC=some zFe:=by kernel_rfl
theorem Tryz.zJa:(zai zyW&&zaf zt5&&AV.smallL zt6&&zal zFf)=true:=by kernel_rfl
def Tryz.zv6:List Ent:= []
def Tryz.zBU:List Sh:= []
def Tryz.zv7:List AV:= [.int .u16 (u16v 11),.bool (.var 0)]
def Tryz.zIt:List (SB×Bool):= []
def Tryz.zFY:List Leaf:= [
 ⟨.bool (.not (.beq (.cmp .neq (.flds [⟨11,0,65535,15,1,15⟩] 0) (.lit 0)) (.var 0))),[],[],0,[]⟩,
 ⟨.bool (.lit false),[],[],0,[]⟩]
def Tryz.zFX:List (List (SB×Bool)×Nat):= [
 ([((.beq (.cmp .neq (.flds [⟨11,0,65535,7,1,7⟩] 0) (.lit 0)) (.var 0)),true)],0),
 ([((.beq (.cmp .neq (.flds [⟨11,0,65535,7,1,7⟩] 0) (.lit 0)) (.var 0)),false)],1)]
theorem Tryz.zIs:(ev prog (zau zv6) 100000 (.call 152 zv7 (zas 0 zBU) (zaR zFY 0))).ways zIt=some zFX:=by kernel_rfl
theorem Tryz.zJ8:(zai zBU&&zaf zv6&&AV.smallL zv7&&zal zFY)=true:=by kernel_rfl
def Tryz.zrx:List Ent:= []
def Tryz.zv3:List Sh:= []
def Tryz.zry:List AV:= [.int .u16 (.lit 0),.bool (.var 0),.bool (.lit true)]
def Tryz.zEt:List (SB×Bool):= []
def Tryz.zBP:List Leaf:= [
 ⟨.int .u16 (.lit 32896),[],[],0,[]⟩,
 ⟨.int .u16 (.lit 0),[],[],0,[]⟩]
def Tryz.zBO:List (List (SB×Bool)×Nat):= [
 ([(.var 0,true)],0),
 ([(.var 0,false)],1)]
theorem Tryz.zEs:(ev prog (zau zrx) 100000 (.call 126 zry (zas 0 zv3) (zaR zBP 0))).ways zEt=some zBO:=by kernel_rfl
theorem Tryz.zIq:(zai zv3&&zaf zrx&&AV.smallL zry&&zal zBP)=true:=by kernel_rfl
def Tryz.zrv:List Ent:= []
def Tryz.zv2:List Sh:= []
def Tryz.zrw:List AV:= [.int .u16 (.lit 2),.bool (.var 0),.bool (.lit true)]
def Tryz.zEr:List (SB×Bool):= []
def Tryz.zBN:List Leaf:= [
 ⟨.int .u16 (.lit 32898),[],[],0,[]⟩,
 ⟨.int .u16 (.lit 2),[],[],0,[]⟩]
def Tryz.zBM:List (List (SB×Bool)×Nat):= [
 ([(.var 0,true)],0),
 ([(.var 0,false)],1)]
theorem Tryz.zEq:(ev prog (zau zrv) 100000 (.call 126 zrw (zas 0 zv2) (zaR zBN 0))).ways zEr=some zBM:=by kernel_rfl
theorem Tryz.zIp:(zai zv2&&zaf zrv&&AV.smallL zrw&&zal zBN)=true:=by kernel_rfl
def Tryz.zuv:List Ent:= []
def Tryz.zzr:List Sh:= []
def Tryz.zuw:List AV:= [posA 4 0,.int .i64 (lnv 5),.int .i64 (szv 0)]
def Tryz.zG6:List (SB×Bool):= []
def Tryz.zFw:List Leaf:= [
 ⟨.tup [.agg [.int .i64 (.lit 0),.bool (.lit false)],.int .i64 (.lit 2)],[],[],0,[]⟩,
 ⟨.tup [.agg [.int .i64 (.bin .sub .i64 (.bin .add .i64 (lnv 4) (lnv 5)) (szv 0)),.bool (.not (.var 0))],.int .i64 (.lit 0)],[],[],0,[]⟩,
 ⟨.tup [.agg [.int .i64 (.bin .add .i64 (lnv 4) (lnv 5)),.bool (.var 0)],.int .i64 (.lit 0)],[],[],0,[]⟩]
def Tryz.zFv:List (List (SB×Bool)×Nat):= [
 ([((.cmp .geq (lnv 4) (szv 0)),true)],0),
 ([((.cmp .geq (lnv 4) (szv 0)),false),((.cmp .gtr (lnv 5) (szv 0)),true)],0),
 ([((.cmp .geq (lnv 4) (szv 0)),false),((.cmp .gtr (lnv 5) (szv 0)),false),((.cmp .geq (.bin .add .i64 (lnv 4) (lnv 5)) (szv 0)),true)],1),
 ([((.cmp .geq (lnv 4) (szv 0)),false),((.cmp .gtr (lnv 5) (szv 0)),false),((.cmp .geq (.bin .add .i64 (lnv 4) (lnv 5)) (szv 0)),false)],2)]
theorem Tryz.zG5:(ev prog (zau zuv) 100000 (.call 20 zuw (zas 0 zzr) (zaR zFw 0))).ways zG6=some zFv:=by kernel_rfl
theorem Tryz.zJr:(zai zzr&&zaf zuv&&AV.smallL zuw&&zal zFw)=true:=by kernel_rfl
open Go.RowKit
theorem Tryz.zBT {ρ:Val} {a b:SB}:SB.den ρ (.beq a b)=(a.den ρ==b.den ρ):=rfl
theorem Tryz.zCj {ρ:Val} {i s:Nat} {f:Int} (e:ρ.i i=f) (h:0≤f∧f<65536):SE.den ρ (.flds [⟨i,0,65535,s,1,s⟩] 0)=f/(2^s:Nat)%2*(2^s:Nat):=by
 have:=zbi (ρ:=ρ) (i:=i) (lo:=0) (hi:=65535) (fr:=s) (n:=1) (sh:=s) (by rw [e];exact h.1) (by rw [e];show f≤65535;omega)
 rw [e] at this
 exact this
theorem Tryz.znY {ρ:Val} {i hi n k:Nat} {f:Int} (e:ρ.i i=f) (h0:0≤f) (h1:f≤(hi:Int)) (h2:f<((2^n:Nat):Int)) {c:Nat} (hc:c=k<<<n):SE.den ρ (.flds [⟨i,0,hi,0,n,0⟩] c)=f+((k*2^n:Nat):Int):=by
 subst hc
 obtain ⟨x,hx⟩:=Int.eq_ofNat_of_zero_le h0
 subst hx
 simp only [SE.den,zaj,Fld.den,e,Int.toNat_natCast]
 have e1:max 0 (min x hi)=x:=by omega
 have h2:x<2^n:=by omega
 rw [e1,Nat.shiftRight_zero,Nat.mod_eq_of_lt h2,Nat.shiftLeft_zero,Nat.or_comm,←Nat.shiftLeft_add_eq_or_of_lt h2,Nat.shiftLeft_eq]
 show ((k*2^n+x:Nat):Int)=x+((k*2^n:Nat):Int)
 omega
theorem Tryz.zF5 {f:Int} {b:Bool} (h:0≤f∧f<65536) (w:World):Calls prog 152 #[.int .u16 f,.bool b] w fun e w'=>e= .returned (.bool (zcs f b))∧Below w.heap.size w w':=by
 have e11:(vof [0,0,0,0,0,0,0,0,0,0,0,f] [b] []).i 11=f:=rfl
 have d11:(u16v 11).den (vof [0,0,0,0,0,0,0,0,0,0,0,f] [b] [])=f:=zbD h.1 h.2
 have b0:(vof [0,0,0,0,0,0,0,0,0,0,0,f] [b] []).b 0=b:=rfl
 generalize vof [0,0,0,0,0,0,0,0,0,0,0,f] [b] []=ρ at e11 d11 b0
 have q7:=zCj (s:=7) e11 h
 have q15:=zCj (s:=15) e11 h
 refine Calls.mono (zaD (ρ:=ρ) (K:=fun _=>False) (g:=Gho.none) (bl:= []) (vals:= [.int .u16 f,.bool b]) mixed zIs zJ8 (fun b h=>h.elim) trivial trivial zaO trivial (zab (zac d11) (zab (zap b0) RL.nil)) (zae.2 trivial)) fun e w' hh=> ?_
 obtain ⟨p,hpm,hto,l,hl,j,he⟩:=hh
 have hb:=zar he (fun _ h=>h)
 have e1:(f/((2^7:Nat):Int)%2*((2^7:Nat):Int) !=0)=decide (f/128%2=1):=by
  have:((2^7:Nat):Int)=128:=rfl
  rw [this]
  by_cases hh:f/128%2=1
  ·rw [hh];rfl
  ·rw [show f/128%2=0 by omega];rfl
 have e2:(f/((2^15:Nat):Int)%2*((2^15:Nat):Int) !=0)=decide (f/32768%2=1):=by
  have:((2^15:Nat):Int)=32768:=rfl
  rw [this]
  by_cases hh:f/32768%2=1
  ·rw [hh];rfl
  ·rw [show f/32768%2=0 by omega];rfl
 unfold zFX at hpm
 simp only [List.mem_cons,List.not_mem_nil,or_false] at hpm
 unfold zcs
 rcases hpm with rfl|rfl
 all_goals
  simp only [zaa,zae,zBT,zcL,zaA,q7,b0,zad,e1,and_true] at hto
  cases hl
  refine ⟨he.ret.trans ?_,hb⟩
  simp only [AV.val,zBS,zBT,zcL,zaA,zbN,q15,b0,zad,e2]
  rw [hto]
  simp [bne]
def Tryz.zAS (n a c b:Int) (x y:Bool):Val:=vof [n,0,0,0,a,c,b] [x,y] []
structure Tryz.PcD (ρ:Val) (n a c b:Int) (x y:Bool):Prop where
 d0:(szv 0).den ρ=n
 d4:(lnv 4).den ρ=a
 d5:(lnv 5).den ρ=c
 d6:(lnv 6).den ρ=b
 i4:ρ.i 4=a
 i6:ρ.i 6=b
 b0:ρ.b 0=x
 b1:ρ.b 1=y
theorem Tryz.pcD {n a c b:Int} {x y:Bool} (hn:1≤n∧n≤32768) (ha:0≤a∧a<32768) (hc:0≤c∧c≤32768) (hb:0≤b∧b<32768):PcD (zAS n a c b x y) n a c b x y:=
 ⟨zdz hn.1 hn.2,zat ha.1 (by show a<_;omega),zat hc.1 (by show c<_;omega),zat hb.1 (by show b<_;omega),rfl,rfl,rfl,rfl⟩
def Tryz.posV (a:Int) (x:Bool):Value:= .agg #[.int .i64 a,.bool x]
theorem Tryz.zmK {n a c:Int} {x:Bool} (hn:1≤n∧n≤32768) (ha:0≤a∧a<n) (hc:0≤c∧c≤n) (w:World):
  Calls prog 123 #[posV a x,.int .i64 c,.int .i64 n] w fun e w'=>e= .returned (.tuple #[posV (zaL n a x c).1 (zaL n a x c).2,.int .i64 0])∧Below w.heap.size w w':=by
 have D:=pcD (n:=n) (a:=a) (c:=c) (b:=0) (x:=x) (y:=false) hn ⟨ha.1,by omega⟩ ⟨hc.1,by omega⟩ ⟨by decide,by decide⟩
 generalize zAS n a c 0 x false=ρ at D
 refine Calls.mono (zaD (ρ:=ρ) (K:=fun _=>False) (g:=Gho.none) (bl:= []) (vals:= [posV a x,.int .i64 c,.int .i64 n]) mixed zGX zJj (fun b h=>h.elim) trivial trivial zaO trivial (zab (zbg (zab (zac D.d4) (zab (zap D.b0) RL.nil))) (zab (zac D.d5) (zab (zac D.d0) RL.nil))) (zae.2 trivial)) fun e w' hh=> ?_
 obtain ⟨p,hpm,hto,l,hl,j,he⟩:=hh
 have hb:=zar he (fun _ h=>h)
 have w1:IntKind.wrap .i64 (a+c)=a+c:=zbL (by omega) (by omega)
 have w2:IntKind.wrap .i64 (a+c-n)=a+c-n:=zbL (by omega) (by omega)
 unfold zFt at hpm
 simp only [List.mem_cons,List.not_mem_nil,or_false] at hpm
 rcases hpm with rfl|rfl|rfl|rfl
 all_goals
  simp only [zaa,zae,zcf,zbC,den_add,D.d0,D.d4,D.d5,w1,decide_eq_true_eq,decide_eq_false_iff_not,and_true] at hto
  cases hl
  refine ⟨?_,hb⟩
 ·omega
 ·omega
 ·rw [he.ret]
  have e1:zaL n a x c=(a+c-n,!x):=by unfold zaL;rw [if_neg (by omega)]
  rw [e1]
  simp only [AV.val,AV.valL,den_add,zbs,zad,zBS,zaA,D.d0,D.d4,D.d5,D.b0,w1,w2]
  rfl
 ·rw [he.ret]
  have e1:zaL n a x c=(a+c,x):=by unfold zaL;rw [if_pos (by omega)]
  rw [e1]
  simp only [AV.val,AV.valL,den_add,zad,zaA,D.d4,D.d5,D.b0,w1]
  rfl
theorem Tryz.zsn {n a c:Int} {x:Bool} (hn:1≤n∧n≤32768) (ha:0≤a∧a<n) (hc:0≤c∧c≤n) (w:World):
  Calls prog 20 #[posV a x,.int .i64 c,.int .i64 n] w fun e w'=>e= .returned (.tuple #[posV (zaL n a x c).1 (zaL n a x c).2,.int .i64 0])∧Below w.heap.size w w':=by
 have D:=pcD (n:=n) (a:=a) (c:=c) (b:=0) (x:=x) (y:=false) hn ⟨ha.1,by omega⟩ ⟨hc.1,by omega⟩ ⟨by decide,by decide⟩
 generalize zAS n a c 0 x false=ρ at D
 refine Calls.mono (zaD (ρ:=ρ) (K:=fun _=>False) (g:=Gho.none) (bl:= []) (vals:= [posV a x,.int .i64 c,.int .i64 n]) mixed zG5 zJr (fun b h=>h.elim) trivial trivial zaO trivial (zab (zbg (zab (zac D.d4) (zab (zap D.b0) RL.nil))) (zab (zac D.d5) (zab (zac D.d0) RL.nil))) (zae.2 trivial)) fun e w' hh=> ?_
 obtain ⟨p,hpm,hto,l,hl,j,he⟩:=hh
 have hb:=zar he (fun _ h=>h)
 have w1:IntKind.wrap .i64 (a+c)=a+c:=zbL (by omega) (by omega)
 have w2:IntKind.wrap .i64 (a+c-n)=a+c-n:=zbL (by omega) (by omega)
 unfold zFv at hpm
 simp only [List.mem_cons,List.not_mem_nil,or_false] at hpm
 rcases hpm with rfl|rfl|rfl|rfl
 all_goals
  simp only [zaa,zae,zcf,zbC,den_add,D.d0,D.d4,D.d5,w1,decide_eq_true_eq,decide_eq_false_iff_not,and_true] at hto
  cases hl
  refine ⟨?_,hb⟩
 ·omega
 ·omega
 ·rw [he.ret]
  have e1:zaL n a x c=(a+c-n,!x):=by unfold zaL;rw [if_neg (by omega)]
  rw [e1]
  simp only [AV.val,AV.valL,den_add,zbs,zad,zBS,zaA,D.d0,D.d4,D.d5,D.b0,w1,w2]
  rfl
 ·rw [he.ret]
  have e1:zaL n a x c=(a+c,x):=by unfold zaL;rw [if_pos (by omega)]
  rw [e1]
  simp only [AV.val,AV.valL,den_add,zad,zaA,D.d4,D.d5,D.b0,w1]
  rfl
theorem Tryz.zEd {n a b c:Int} {x y:Bool} (hn:1≤n∧n≤32768) (ha:0≤a∧a<n) (hb:0≤b∧b<n) (hc:0≤c∧c≤n) (w:World):
  Calls prog 129 #[posV a x,posV b y,.int .i64 c,.int .i64 n] w fun e w'=>e= .returned (.tuple #[.bool (znx n a x b y c),.int .i64 0])∧Below w.heap.size w w':=by
 have D:=pcD (n:=n) (a:=a) (c:=c) (b:=b) (x:=x) (y:=y) hn ⟨ha.1,by omega⟩ ⟨hc.1,by omega⟩ ⟨hb.1,by omega⟩
 generalize zAS n a c b x y=ρ at D
 refine Calls.mono (zaD (ρ:=ρ) (K:=fun _=>False) (g:=Gho.none) (bl:= []) (vals:= [posV a x,posV b y,.int .i64 c,.int .i64 n]) mixed zGO zJg (fun b h=>h.elim) trivial trivial zaO trivial (zab (zbg (zab (zac D.d4) (zab (zap D.b0) RL.nil))) (zab (zbg (zab (zac D.d6) (zab (zap D.b1) RL.nil))) (zab (zac D.d5) (zab (zac D.d0) RL.nil)))) (zae.2 trivial)) fun e w' hh=> ?_
 obtain ⟨p,hpm,hto,l,hl,j,he⟩:=hh
 have hbl:=zar he (fun _ h=>h)
 have q4:SE.den ρ (.flds [⟨4,0,4611686018427387903,0,16,0⟩] 0)=a:=(zbi (by rw [D.i4];exact ha.1) (by rw [D.i4];show a≤4611686018427387903;omega)).trans (by rw [D.i4];show a/1%65536*1=a;omega)
 have q6:SE.den ρ (.flds [⟨6,0,4611686018427387903,0,16,0⟩] 0)=b:=(zbi (by rw [D.i6];exact hb.1) (by rw [D.i6];show b≤4611686018427387903;omega)).trans (by rw [D.i6];show b/1%65536*1=b;omega)
 have w1:IntKind.wrap .i64 (a-n)=a-n:=zbL (by omega) (by omega)
 have w2:IntKind.wrap .i64 (b-c)=b-c:=zbL (by omega) (by omega)
 unfold zFp at hpm
 simp only [List.mem_cons,List.not_mem_nil,or_false] at hpm
 rcases hpm with rfl|rfl|rfl|rfl|rfl
 all_goals
  simp only [zaa,zae,zcf,zbC,zBT,zaA,D.d0,D.d4,D.d5,D.d6,D.b0,D.b1,decide_eq_true_eq,decide_eq_false_iff_not,beq_iff_eq,beq_eq_false_iff_ne,ne_eq,and_true] at hto
  cases hl
  refine ⟨?_,hbl⟩
 ·omega
 ·omega
 ·omega
 ·rw [he.ret]
  simp only [AV.val,AV.valL,zaY,zbs,zv5,zad,D.d0,D.d4,D.d5,D.d6,q4,q6,w1,w2,zof]
  unfold znx
  rw [if_neg hto.2.2.2]
  congr 5
  exact decide_eq_decide.2 (by omega)
 ·rw [he.ret]
  simp only [AV.val,AV.valL,zaY,zbs,zv5,zad,D.d0,D.d4,D.d5,D.d6,q4,q6,w1,w2,zof]
  unfold znx
  rw [if_pos hto.2.2.2]
  congr 5
  exact decide_eq_decide.2 (by omega)
theorem Tryz.zDM {a:Int} {x:Bool} (ha:0≤a∧a<32768) (w:World):
  Calls prog 121 #[posV a x] w fun e w'=>e= .returned (.int .u16 (posW a x))∧Below w.heap.size w w':=by
 have D:=pcD (n:=1) (a:=a) (c:=0) (b:=0) (x:=x) (y:=false) ⟨by decide,by decide⟩ ha ⟨by decide,by decide⟩ ⟨by decide,by decide⟩
 generalize zAS 1 a 0 0 x false=ρ at D
 refine Calls.mono (zaD (ρ:=ρ) (K:=fun _=>False) (g:=Gho.none) (bl:= []) (vals:= [posV a x]) mixed zGB zJa (fun b h=>h.elim) trivial trivial zaO trivial (zab (zbg (zab (zac D.d4) (zab (zap D.b0) RL.nil))) RL.nil) (zae.2 trivial)) fun e w' hh=> ?_
 obtain ⟨p,hpm,hto,l,hl,j,he⟩:=hh
 have hbl:=zar he (fun _ h=>h)
 unfold zFe at hpm
 simp only [List.mem_cons,List.not_mem_nil,or_false] at hpm
 rcases hpm with rfl|rfl
 all_goals
  simp only [zaa,zae,zaA,D.b0,and_true] at hto
  cases hl
  refine ⟨?_,hbl⟩
  rw [he.ret]
  simp only [AV.val]
 ·rw [znY (k:=1) (n:=15) (hi:=4611686018427387903) (c:=32768) D.i4 ha.1 (by show a≤4611686018427387903;omega) ha.2 rfl,hto];rfl
 ·rw [znY (k:=0) (n:=15) (hi:=4611686018427387903) (c:=0) D.i4 ha.1 (by show a≤4611686018427387903;omega) ha.2 rfl,hto];rfl
theorem Tryz.zvE {f:Int} {x:Bool} (hf:f=0∨f=2) (w:World):
  Calls prog 126 #[.int .u16 f,.bool x,.bool true] w fun e w'=>e= .returned (.int .u16 (f+if x then 32896 else 0))∧Below w.heap.size w w':=by
 have b0:(vof [] [x] []).b 0=x:=rfl
 generalize vof [] [x] []=ρ at b0
 rcases hf with rfl|rfl
 ·refine Calls.mono (zaD (ρ:=ρ) (K:=fun _=>False) (g:=Gho.none) (bl:= []) (vals:= [.int .u16 0,.bool x,.bool true]) mixed zEs zIq (fun b h=>h.elim) trivial trivial zaO trivial (zab (zac rfl) (zab (zap b0) (zab (zap rfl) RL.nil))) (zae.2 trivial)) fun e w' hh=> ?_
  obtain ⟨p,hpm,hto,l,hl,j,he⟩:=hh
  have hbl:=zar he (fun _ h=>h)
  unfold zBO at hpm
  simp only [List.mem_cons,List.not_mem_nil,or_false] at hpm
  rcases hpm with rfl|rfl
  all_goals
   simp only [zaa,zae,zaA,b0,and_true] at hto
   cases hl
   exact ⟨he.ret.trans (by rw [hto];rfl),hbl⟩
 ·refine Calls.mono (zaD (ρ:=ρ) (K:=fun _=>False) (g:=Gho.none) (bl:= []) (vals:= [.int .u16 2,.bool x,.bool true]) mixed zEq zIp (fun b h=>h.elim) trivial trivial zaO trivial (zab (zac rfl) (zab (zap b0) (zab (zap rfl) RL.nil))) (zae.2 trivial)) fun e w' hh=> ?_
  obtain ⟨p,hpm,hto,l,hl,j,he⟩:=hh
  have hbl:=zar he (fun _ h=>h)
  unfold zBM at hpm
  simp only [List.mem_cons,List.not_mem_nil,or_false] at hpm
  rcases hpm with rfl|rfl
  all_goals
   simp only [zaa,zae,zaA,b0,and_true] at hto
   cases hl
   exact ⟨he.ret.trans (by rw [hto];rfl),hbl⟩
def Tryz.prg:AV:= .agg [.bool (.lit true),.int .i64 (szv 0),.int .u64 (u64v 1),.int .u64 (u64v 2),.int .u64 (u64v 3)]
def Tryz.prow (ph:Int) (br:SB):List AV:=
  [.cst 0 none,.bool (.lit true),.int .i64 (szv 0),.int .u64 (u64v 1),.int .u64 (u64v 2),.int .u64 (u64v 3),.bool (.var 0),.bool (.var 1),.bool (.lit true),.int .i64 (lnv 4),.bool (.var 2),.int .i64 (lnv 5),.bool (.var 6),.map 2,.int .i64 (lnv 9),.int .i64 (.lit ph),
   .int .i64 (.var 6),.bool (.var 3),.int .i64 (u16v 7),.cst 1 none,.int .u32 (u32v 8),.bool (.var 4),.bool (.var 5),.bool br]
def Tryz.pshs (ph:Int):List Sh:= [.own (prow ph (.lit false)),.mapx []]
def Tryz.zpB (ph:Int) (k:AV) (v:Option AV):List Sh:= [.own (prow ph (.lit false)),.mapx [(k,v)]]
def Tryz.dplc (i:Nat) (k:Int):SE:= .bin .add .u64 (.bin .add .u64 (u64v 1) (.bin .mul .u64 (.lit 16) (lnv i))) (.lit k)
def Tryz.pld2 (a:SE):Ent:=⟨53,[.cst 0 none,.int .u64 a,.int .i64 (.lit 2)],0,0,0,.tup [.int .u64 (u16v 11),.int .i64 (.lit 0)],0⟩
def Tryz.pld4 (a:SE):Ent:=⟨53,[.cst 0 none,.int .u64 a,.int .i64 (.lit 4)],0,0,0,.tup [.int .u64 (u32v 11),.int .i64 (.lit 0)],0⟩
def Tryz.pst (a:SE) (k:Int) (v:SE):Ent:=⟨25,[.cst 0 none,.int .u64 a,.int .i64 (.lit k),.int .u64 v],0,0,0,.int .i64 (.lit 0),1⟩
def Tryz.ppkE (e:SE):Ent:=⟨122,[.cst 0 none,prg,.agg [.int .i64 (lnv 4),.bool (.var 2)],.bool (.var 1)],0,9,1,.tup [.agg [.int .i64 (u16v 13),.int .i64 (lnv 14),.opq 9 none],.int .i64 e],1⟩
def Tryz.pclE:Ent:=⟨57,[.opq 9 none],1,11,1,.opq 11 none,2⟩
def Tryz.pswE:Ent:=⟨121,[.agg [.int .i64 (lnv 4),.bool (.var 2)]],0,0,0,.int .u16 (u16v 18),0⟩
def Tryz.pavE:Ent:=⟨152,[.int .u16 (u16v 11),.bool (.var 2)],0,0,0,.bool (.var 7),0⟩
def Tryz.pmkE (f:Int):Ent:=⟨126,[.int .u16 (.lit f),.bool (.var 6),.bool (.lit true)],0,0,0,.int .u16 (u16v 18),0⟩
def Tryz.pgoE (k:Nat) (at0 wr ct:Nat):Ent:=⟨123,[.agg [.int .i64 (lnv at0),.bool (.var wr)],.int .i64 (lnv ct),.int .i64 (szv 0)],k,0,0,.tup [.agg [.int .i64 (lnv 15),.bool (.var 8)],.int .i64 (.lit 0)],k⟩
def Tryz.pneE:Ent:=⟨129,[.agg [.int .i64 (.flds [⟨11,0,4294967295,0,15,0⟩] 0),.bool (.cmp .eql (.flds [⟨11,0,4294967295,15,1,0⟩] 0) (.lit 1))],.agg [.int .i64 (lnv 15),.bool (.var 8)],.int .i64 (lnv 14),.int .i64 (szv 0)],0,0,0,.tup [.bool (.var 9),.int .i64 (.lit 0)],0⟩
end Go.Proofs
namespace Go.Proofs
open Go.Dw
def Tryz.zl8:List Ent:= [pld2 (dplc 4 14),pavE]
def Tryz.zp0:List Sh:=pshs 1
def Tryz.zl9:List AV:= [.ptr 1 0]
def Tryz.zAl:List (SB×Bool):= []
def Tryz.zva:List Leaf:= [
 ⟨.tup [.agg [.int .i64 (.lit 2),.int .i64 (.lit 1),.int .i64 (lnv 4)],.int .i64 (.lit 0)],[(1,[.cst 0 none,.bool (.lit true),.int .i64 (szv 0),.int .u64 (u64v 1),.int .u64 (u64v 2),.int .u64 (u64v 3),.bool (.var 0),.bool (.var 1),.bool (.lit true),.int .i64 (lnv 4),.bool (.var 2),.int .i64 (lnv 5),.bool (.var 6),.map 2,.int .i64 (lnv 9),.int .i64 (.lit 5),.int .i64 (.var 6),.bool (.var 3),.int .i64 (u16v 7),.cst 1 none,.int .u32 (u32v 8),.bool (.var 4),.bool (.lit false),.bool (.lit false)])],[(2,[])],0,[1]⟩,
 ⟨.tup [.agg [.int .i64 (.lit 2),.int .i64 (.lit 1),.int .i64 (lnv 4)],.int .i64 (.lit 0)],[(1,[.cst 0 none,.bool (.lit true),.int .i64 (szv 0),.int .u64 (u64v 1),.int .u64 (u64v 2),.int .u64 (u64v 3),.bool (.var 0),.bool (.var 1),.bool (.lit true),.int .i64 (lnv 4),.bool (.var 2),.int .i64 (lnv 5),.bool (.var 6),.map 2,.int .i64 (lnv 9),.int .i64 (.lit 2),.int .i64 (.var 6),.bool (.var 3),.int .i64 (u16v 7),.cst 1 none,.int .u32 (u32v 8),.bool (.var 4),.bool (.lit false),.bool (.lit false)])],[(2,[])],0,[1]⟩,
 ⟨.tup [.agg [.int .i64 (.lit 2),.int .i64 (.lit 1),.int .i64 (lnv 4)],.int .i64 (.lit 0)],[(1,[.cst 0 none,.bool (.lit true),.int .i64 (szv 0),.int .u64 (u64v 1),.int .u64 (u64v 2),.int .u64 (u64v 3),.bool (.var 0),.bool (.var 1),.bool (.lit true),.int .i64 (lnv 4),.bool (.var 2),.int .i64 (lnv 5),.bool (.var 6),.map 2,.int .i64 (lnv 9),.int .i64 (.lit 0),.int .i64 (.var 6),.bool (.lit true),.int .i64 (u16v 7),.cst 1 none,.int .u32 (u32v 8),.bool (.var 4),.bool (.lit true),.bool (.lit false)])],[(2,[])],0,[1]⟩]
def Tryz.zu9:List (List (SB×Bool)×Nat):= [
 ([(.var 7,true)],0),
 ([(.var 7,false),(.var 0,true)],1),
 ([(.var 7,false),(.var 0,false)],2)]
theorem Tryz.zAk:(ev prog (zau zl8) 100000 (.call 27 zl9 (zas 0 zp0) (zaR zva 0))).ways zAl=some zu9:=by kernel_rfl
theorem Tryz.zDT:(zai zp0&&zaf zl8&&AV.smallL zl9&&zal zva)=true:=by kernel_rfl
def Tryz.zjZ:List Ent:= [pswE,pst (u64v 3) 4 (.flds [⟨18,0,65535,0,16,0⟩] 131072)]
def Tryz.zms:List Sh:=pshs 2
def Tryz.zj0:List AV:= [.ptr 1 0]
def Tryz.zxp:List (SB×Bool):= []
def Tryz.zqu:List Leaf:= [
 ⟨.tup [.agg [.int .i64 (.lit 3),.int .i64 (.lit 11),.int .i64 (.lit 0)],.int .i64 (.lit 0)],[(1,[.cst 0 none,.bool (.lit true),.int .i64 (szv 0),.int .u64 (u64v 1),.int .u64 (u64v 2),.int .u64 (u64v 3),.bool (.var 0),.bool (.var 1),.bool (.lit true),.int .i64 (lnv 4),.bool (.var 2),.int .i64 (lnv 5),.bool (.var 6),.map 2,.int .i64 (lnv 9),.int .i64 (.lit 3),.int .i64 (.var 6),.bool (.var 3),.int .i64 (u16v 7),.cst 1 none,.int .u32 (u32v 8),.bool (.var 4),.bool (.lit false),.bool (.lit false)])],[(2,[])],1,[1]⟩]
def Tryz.zqt:List (List (SB×Bool)×Nat):= [
 ([], 0)]
theorem Tryz.zxo:(ev prog (zau zjZ) 100000 (.call 27 zj0 (zas 0 zms) (zaR zqu 0))).ways zxp=some zqt:=by kernel_rfl
theorem Tryz.zAP:(zai zms&&zaf zjZ&&AV.smallL zj0&&zal zqu)=true:=by kernel_rfl
def Tryz.zjR:List Ent:= []
def Tryz.zmn:List Sh:=pshs 3
def Tryz.zjS:List AV:= [.ptr 1 0]
def Tryz.zxl:List (SB×Bool):= []
def Tryz.zqk:List Leaf:= [
 ⟨.tup [.agg [.int .i64 (.lit 4),.int .i64 (.lit 0),.int .i64 (.lit 0)],.int .i64 (.lit 0)],[(1,[.cst 0 none,.bool (.lit true),.int .i64 (szv 0),.int .u64 (u64v 1),.int .u64 (u64v 2),.int .u64 (u64v 3),.bool (.var 0),.bool (.var 1),.bool (.lit true),.int .i64 (lnv 4),.bool (.var 2),.int .i64 (lnv 5),.bool (.var 6),.map 2,.int .i64 (lnv 9),.int .i64 (.lit 4),.int .i64 (.var 6),.bool (.var 3),.int .i64 (u16v 7),.cst 1 none,.int .u32 (u32v 8),.bool (.var 4),.bool (.lit false),.bool (.lit false)])],[(2,[])],0,[1]⟩]
def Tryz.zqj:List (List (SB×Bool)×Nat):= [
 ([], 0)]
theorem Tryz.zxk:(ev prog (zau zjR) 100000 (.call 27 zjS (zas 0 zmn) (zaR zqk 0))).ways zxl=some zqj:=by kernel_rfl
theorem Tryz.zAK:(zai zmn&&zaf zjR&&AV.smallL zjS&&zal zqk)=true:=by kernel_rfl
def Tryz.zj7:List Ent:= [pld2 (dplc 4 14),pavE]
def Tryz.zmy:List Sh:=pshs 4
def Tryz.zj8:List AV:= [.ptr 1 0]
def Tryz.zxz:List (SB×Bool):= []
def Tryz.zqG:List Leaf:= [
 ⟨.tup [.agg [.int .i64 (.lit 2),.int .i64 (.lit 1),.int .i64 (lnv 4)],.int .i64 (.lit 0)],[(1,[.cst 0 none,.bool (.lit true),.int .i64 (szv 0),.int .u64 (u64v 1),.int .u64 (u64v 2),.int .u64 (u64v 3),.bool (.var 0),.bool (.var 1),.bool (.lit true),.int .i64 (lnv 4),.bool (.var 2),.int .i64 (lnv 5),.bool (.var 6),.map 2,.int .i64 (lnv 9),.int .i64 (.lit 0),.int .i64 (.var 6),.bool (.lit true),.int .i64 (u16v 7),.cst 1 none,.int .u32 (u32v 8),.bool (.var 4),.bool (.lit true),.bool (.lit false)])],[(2,[])],0,[1]⟩,
 ⟨.tup [.agg [.int .i64 (.lit 2),.int .i64 (.lit 1),.int .i64 (lnv 4)],.int .i64 (.lit 0)],[(1,[.cst 0 none,.bool (.lit true),.int .i64 (szv 0),.int .u64 (u64v 1),.int .u64 (u64v 2),.int .u64 (u64v 3),.bool (.var 0),.bool (.var 1),.bool (.lit true),.int .i64 (lnv 4),.bool (.var 2),.int .i64 (lnv 5),.bool (.var 6),.map 2,.int .i64 (lnv 9),.int .i64 (.lit 5),.int .i64 (.var 6),.bool (.var 3),.int .i64 (u16v 7),.cst 1 none,.int .u32 (u32v 8),.bool (.var 4),.bool (.lit false),.bool (.lit false)])],[(2,[])],0,[1]⟩]
def Tryz.zqF:List (List (SB×Bool)×Nat):= [
 ([(.var 7,false)],0),
 ([(.var 7,true)],1)]
theorem Tryz.zxy:(ev prog (zau zj7) 100000 (.call 27 zj8 (zas 0 zmy) (zaR zqG 0))).ways zxz=some zqF:=by kernel_rfl
theorem Tryz.zAT:(zai zmy&&zaf zj7&&AV.smallL zj8&&zal zqG)=true:=by kernel_rfl
def Tryz.zhP:List Ent:= []
def Tryz.zjU:List Sh:=pshs 5
def Tryz.zhQ:List AV:= [.ptr 1 0]
def Tryz.zsQ:List (SB×Bool):= []
def Tryz.zmr:List Leaf:= [
 ⟨.tup [.agg [.int .i64 (.lit 4),.int .i64 (.lit 0),.int .i64 (.lit 0)],.int .i64 (.lit 0)],[(1,[.cst 0 none,.bool (.lit true),.int .i64 (szv 0),.int .u64 (u64v 1),.int .u64 (u64v 2),.int .u64 (u64v 3),.bool (.var 0),.bool (.var 1),.bool (.lit true),.int .i64 (lnv 4),.bool (.var 2),.int .i64 (lnv 5),.bool (.var 6),.map 2,.int .i64 (lnv 9),.int .i64 (.lit 6),.int .i64 (.var 6),.bool (.var 3),.int .i64 (u16v 7),.cst 1 none,.int .u32 (u32v 8),.bool (.var 4),.bool (.lit false),.bool (.lit false)])],[(2,[])],0,[1]⟩]
def Tryz.zmq:List (List (SB×Bool)×Nat):= [
 ([], 0)]
theorem Tryz.zsP:(ev prog (zau zhP) 100000 (.call 27 zhQ (zas 0 zjU) (zaR zmr 0))).ways zsQ=some zmq:=by kernel_rfl
theorem Tryz.zxn:(zai zjU&&zaf zhP&&AV.smallL zhQ&&zal zmr)=true:=by kernel_rfl
def Tryz.zj3:List Ent:= [ppkE (.lit 0),pclE,pgoE 1 4 2 14]
def Tryz.zmv:List Sh:=zpB 6 (.int .i64 (u16v 13)) none
def Tryz.zj4:List AV:= [.ptr 1 0]
def Tryz.zxs:List (SB×Bool):= []
def Tryz.zqD:List Leaf:= [
 ⟨.tup [.agg [.int .i64 (.lit 1),.int .i64 (.lit 0),.int .i64 (.lit 0)],.int .i64 (.lit 4)],[(1,[.cst 0 none,.bool (.lit true),.int .i64 (szv 0),.int .u64 (u64v 1),.int .u64 (u64v 2),.int .u64 (u64v 3),.bool (.var 0),.bool (.var 1),.bool (.lit true),.int .i64 (lnv 4),.bool (.var 2),.int .i64 (lnv 5),.bool (.var 6),.map 2,.int .i64 (lnv 9),.int .i64 (.lit 0),.int .i64 (.lit 0),.bool (.lit false),.int .i64 (.lit 0),.nils,.int .u32 (.lit 0),.bool (.lit false),.bool (.var 5),.bool (.lit true)])],[(2,[])],1,[1]⟩,
 ⟨.tup [.agg [.int .i64 (.lit 1),.int .i64 (.lit 0),.int .i64 (.lit 0)],.int .i64 (.lit 0)],[(1,[.cst 0 none,.bool (.lit true),.int .i64 (szv 0),.int .u64 (u64v 1),.int .u64 (u64v 2),.int .u64 (u64v 3),.bool (.var 0),.bool (.var 1),.bool (.lit true),.int .i64 (lnv 15),.bool (.var 8),.int .i64 (lnv 5),.bool (.var 6),.map 2,.int .i64 (.bin .add .i64 (lnv 9) (lnv 14)),.int .i64 (.lit 0),.int .i64 (.var 6),.bool (.var 3),.int .i64 (u16v 13),.opq 11 none,.int .u32 (u32v 8),.bool (.var 4),.bool (.lit true),.bool (.lit false)])],[(2,[(.int .i64 (u16v 13),some (.agg [.int .i64 (u16v 13),.int .i64 (lnv 14),.opq 9 none]))])],2,[1]⟩]
def Tryz.zqC:List (List (SB×Bool)×Nat):= [
 ([((.cmp .gtr (.bin .add .i64 (lnv 14) (lnv 9)) (szv 0)),true)],0),
 ([((.cmp .gtr (.bin .add .i64 (lnv 14) (lnv 9)) (szv 0)),false)],1)]
theorem Tryz.zxr:(ev prog (zau zj3) 100000 (.call 27 zj4 (zas 0 zmv) (zaR zqD 0))).ways zxs=some zqC:=by kernel_rfl
theorem Tryz.zAR:(zai zmv&&zaf zj3&&AV.smallL zj4&&zal zqD)=true:=by kernel_rfl
def Tryz.zhV:List Ent:= [ppkE (.var 17)]
def Tryz.zj6:List Sh:=pshs 6
def Tryz.zhW:List AV:= [.ptr 1 0]
def Tryz.zs0:List (SB×Bool):= [(.cmp .neq (.var 17) (.lit 0),true)]
def Tryz.zmx:List Leaf:= [
 ⟨.tup [.agg [.int .i64 (.lit 1),.int .i64 (.lit 0),.int .i64 (.lit 0)],.int .i64 (.lit 4)],[(1,[.cst 0 none,.bool (.lit true),.int .i64 (szv 0),.int .u64 (u64v 1),.int .u64 (u64v 2),.int .u64 (u64v 3),.bool (.var 0),.bool (.var 1),.bool (.lit true),.int .i64 (lnv 4),.bool (.var 2),.int .i64 (lnv 5),.bool (.var 6),.map 2,.int .i64 (lnv 9),.int .i64 (.lit 0),.int .i64 (.lit 0),.bool (.lit false),.int .i64 (.lit 0),.nils,.int .u32 (.lit 0),.bool (.lit false),.bool (.var 5),.bool (.lit true)])],[(2,[])],1,[1]⟩]
def Tryz.zxw:List (List (SB×Bool)×Nat):= [
 ([], 0)]
theorem Tryz.zsZ:(ev prog (zau zhV) 100000 (.call 27 zhW (zas 0 zj6) (zaR zmx 0))).ways zs0=some zxw:=by kernel_rfl
theorem Tryz.zxx:(zai zj6&&zaf zhV&&AV.smallL zhW&&zal zmx)=true:=by kernel_rfl
def Tryz.zhT:List Ent:= [ppkE (.lit 0)]
def Tryz.zj5:List Sh:=zpB 6 (.int .i64 (u16v 13)) (some (.agg [.int .i64 (u16v 13),.int .i64 (lnv 19),.cst 2 none]))
def Tryz.zhU:List AV:= [.ptr 1 0]
def Tryz.zsY:List (SB×Bool):= []
def Tryz.zmw:List Leaf:= [
 ⟨.tup [.agg [.int .i64 (.lit 1),.int .i64 (.lit 0),.int .i64 (.lit 0)],.int .i64 (.lit 4)],[(1,[.cst 0 none,.bool (.lit true),.int .i64 (szv 0),.int .u64 (u64v 1),.int .u64 (u64v 2),.int .u64 (u64v 3),.bool (.var 0),.bool (.var 1),.bool (.lit true),.int .i64 (lnv 4),.bool (.var 2),.int .i64 (lnv 5),.bool (.var 6),.map 2,.int .i64 (lnv 9),.int .i64 (.lit 0),.int .i64 (.lit 0),.bool (.lit false),.int .i64 (.lit 0),.nils,.int .u32 (.lit 0),.bool (.lit false),.bool (.var 5),.bool (.lit true)])],[(2,[])],1,[1]⟩]
def Tryz.zxu:List (List (SB×Bool)×Nat):= [
 ([], 0)]
theorem Tryz.zsX:(ev prog (zau zhT) 100000 (.call 27 zhU (zas 0 zj5) (zaR zmw 0))).ways zsY=some zxu:=by kernel_rfl
theorem Tryz.zxv:(zai zj5&&zaf zhT&&AV.smallL zhU&&zal zmw)=true:=by kernel_rfl
def Tryz.zhN:List Ent:= []
def Tryz.zjT:List Sh:=pshs 8
def Tryz.zhO:List AV:= [.ptr 1 0]
def Tryz.zsN:List (SB×Bool):= []
def Tryz.zmp:List Leaf:= [
 ⟨.tup [.agg [.int .i64 (.lit 4),.int .i64 (.lit 0),.int .i64 (.lit 0)],.int .i64 (.lit 0)],[(1,[.cst 0 none,.bool (.lit true),.int .i64 (szv 0),.int .u64 (u64v 1),.int .u64 (u64v 2),.int .u64 (u64v 3),.bool (.var 0),.bool (.var 1),.bool (.lit true),.int .i64 (lnv 4),.bool (.var 2),.int .i64 (lnv 5),.bool (.var 6),.map 2,.int .i64 (lnv 9),.int .i64 (.lit 9),.int .i64 (.var 6),.bool (.var 3),.int .i64 (u16v 7),.cst 1 none,.int .u32 (u32v 8),.bool (.var 4),.bool (.lit false),.bool (.lit false)])],[(2,[])],0,[1]⟩]
def Tryz.zmo:List (List (SB×Bool)×Nat):= [
 ([], 0)]
theorem Tryz.zsM:(ev prog (zau zhN) 100000 (.call 27 zhO (zas 0 zjT) (zaR zmp 0))).ways zsN=some zmo:=by kernel_rfl
theorem Tryz.zxm:(zai zjT&&zaf zhN&&AV.smallL zhO&&zal zmp)=true:=by kernel_rfl
def Tryz.zhL:List Ent:= [pmkE 0,pst (dplc 5 14) 2 (u16v 18)]
def Tryz.zjQ:List Sh:=pshs 9
def Tryz.zhM:List AV:= [.ptr 1 0]
def Tryz.zsK:List (SB×Bool):= [(.cmp .gtr (u32v 8) (.lit 0),false)]
def Tryz.zmm:List Leaf:= [
 ⟨.tup [.agg [.int .i64 (.lit 3),.int .i64 (.lit 1),.int .i64 (lnv 5)],.int .i64 (.lit 0)],[(1,[.cst 0 none,.bool (.lit true),.int .i64 (szv 0),.int .u64 (u64v 1),.int .u64 (u64v 2),.int .u64 (u64v 3),.bool (.var 0),.bool (.var 1),.bool (.lit true),.int .i64 (lnv 4),.bool (.var 2),.int .i64 (lnv 5),.bool (.var 6),.map 2,.int .i64 (lnv 9),.int .i64 (.lit 10),.int .i64 (.var 6),.bool (.var 3),.int .i64 (u16v 7),.cst 1 none,.int .u32 (u32v 8),.bool (.var 4),.bool (.lit false),.bool (.lit false)])],[(2,[])],1,[1]⟩]
def Tryz.zml:List (List (SB×Bool)×Nat):= [
 ([], 0)]
theorem Tryz.zsJ:(ev prog (zau zhL) 100000 (.call 27 zhM (zas 0 zjQ) (zaR zmm 0))).ways zsK=some zml:=by kernel_rfl
theorem Tryz.zxj:(zai zjQ&&zaf zhL&&AV.smallL zhM&&zal zmm)=true:=by kernel_rfl
def Tryz.zhJ:List Ent:= [pmkE 2,pst (dplc 5 14) 2 (u16v 18)]
def Tryz.zjP:List Sh:=pshs 9
def Tryz.zhK:List AV:= [.ptr 1 0]
def Tryz.zsH:List (SB×Bool):= [(.cmp .gtr (u32v 8) (.lit 0),true)]
def Tryz.zmk:List Leaf:= [
 ⟨.tup [.agg [.int .i64 (.lit 3),.int .i64 (.lit 1),.int .i64 (lnv 5)],.int .i64 (.lit 0)],[(1,[.cst 0 none,.bool (.lit true),.int .i64 (szv 0),.int .u64 (u64v 1),.int .u64 (u64v 2),.int .u64 (u64v 3),.bool (.var 0),.bool (.var 1),.bool (.lit true),.int .i64 (lnv 4),.bool (.var 2),.int .i64 (lnv 5),.bool (.var 6),.map 2,.int .i64 (lnv 9),.int .i64 (.lit 10),.int .i64 (.var 6),.bool (.var 3),.int .i64 (u16v 7),.cst 1 none,.int .u32 (u32v 8),.bool (.var 4),.bool (.lit false),.bool (.lit false)])],[(2,[])],1,[1]⟩]
def Tryz.zmj:List (List (SB×Bool)×Nat):= [
 ([], 0)]
theorem Tryz.zsG:(ev prog (zau zhJ) 100000 (.call 27 zhK (zas 0 zjP) (zaR zmk 0))).ways zsH=some zmj:=by kernel_rfl
theorem Tryz.zxi:(zai zjP&&zaf zhJ&&AV.smallL zhK&&zal zmk)=true:=by kernel_rfl
def Tryz.zgq:List Ent:= []
def Tryz.zhR:List Sh:=pshs 10
def Tryz.zgr:List AV:= [.ptr 1 0]
def Tryz.zqm:List (SB×Bool):= []
def Tryz.zjW:List Leaf:= [
 ⟨.tup [.agg [.int .i64 (.lit 4),.int .i64 (.lit 0),.int .i64 (.lit 0)],.int .i64 (.lit 0)],[(1,[.cst 0 none,.bool (.lit true),.int .i64 (szv 0),.int .u64 (u64v 1),.int .u64 (u64v 2),.int .u64 (u64v 3),.bool (.var 0),.bool (.var 1),.bool (.lit true),.int .i64 (lnv 4),.bool (.var 2),.int .i64 (lnv 5),.bool (.var 6),.map 2,.int .i64 (lnv 9),.int .i64 (.lit 11),.int .i64 (.var 6),.bool (.var 3),.int .i64 (u16v 7),.cst 1 none,.int .u32 (u32v 8),.bool (.var 4),.bool (.lit false),.bool (.lit false)])],[(2,[])],0,[1]⟩]
def Tryz.zjV:List (List (SB×Bool)×Nat):= [
 ([], 0)]
theorem Tryz.zql:(ev prog (zau zgq) 100000 (.call 27 zgr (zas 0 zhR) (zaR zjW 0))).ways zqm=some zjV:=by kernel_rfl
theorem Tryz.zsT:(zai zhR&&zaf zgq&&AV.smallL zgr&&zal zjW)=true:=by kernel_rfl
def Tryz.zjh:List Ent:= [pld4 (u64v 2),pgoE 0 5 6 14]
def Tryz.zlO:List Sh:=zpB 11 (.int .i64 (u16v 7)) (some (.agg [.int .i64 (u16v 7),.int .i64 (lnv 14),.cst 2 none]))
def Tryz.zji:List AV:= [.ptr 1 0]
def Tryz.zw2:List (SB×Bool):= [(.cmp .eql (.flds [⟨11,0,4294967295,16,2,0⟩] 0) (.lit 0),true)]
def Tryz.zpu:List Leaf:= [
 ⟨.tup [.agg [.int .i64 (.lit 2),.int .i64 (.lit 10),.int .i64 (.lit 0)],.int .i64 (.lit 0)],[(1,[.cst 0 none,.bool (.lit true),.int .i64 (szv 0),.int .u64 (u64v 1),.int .u64 (u64v 2),.int .u64 (u64v 3),.bool (.var 0),.bool (.var 1),.bool (.lit true),.int .i64 (lnv 4),.bool (.var 2),.int .i64 (lnv 15),.bool (.var 8),.map 2,.int .i64 (.bin .sub .i64 (lnv 9) (lnv 14)),.int .i64 (.lit 0),.int .i64 (.var 6),.bool (.var 3),.int .i64 (u16v 7),.cst 1 none,.int .u32 (u32v 8),.bool (.lit true),.bool (.lit true),.bool (.lit false)])],[(2,[(.int .i64 (u16v 7),none)])],0,[1]⟩]
def Tryz.zpt:List (List (SB×Bool)×Nat):= [
 ([], 0)]
theorem Tryz.zw1:(ev prog (zau zjh) 100000 (.call 27 zji (zas 0 zlO) (zaR zpu 0))).ways zw2=some zpt:=by kernel_rfl
theorem Tryz.zzK:(zai zlO&&zaf zjh&&AV.smallL zji&&zal zpu)=true:=by kernel_rfl
def Tryz.zhE:List Ent:= [pld4 (u64v 2),pgoE 0 5 6 14]
def Tryz.zjf:List Sh:=zpB 11 (.int .i64 (u16v 7)) (some (.agg [.int .i64 (u16v 7),.int .i64 (lnv 14),.cst 2 none]))
def Tryz.zhF:List AV:= [.ptr 1 0]
def Tryz.zsu:List (SB×Bool):= [(.cmp .eql (.flds [⟨11,0,4294967295,16,2,0⟩] 0) (.lit 0),false),(.cmp .eql (.flds [⟨11,0,4294967295,16,2,0⟩] 0) (.lit 2),true),(.cmp .geq (.flds [⟨11,0,4294967295,0,15,0⟩] 0) (szv 0),true)]
def Tryz.zlL:List Leaf:= [
 ⟨.tup [.agg [.int .i64 (.lit 2),.int .i64 (.lit 10),.int .i64 (.lit 0)],.int .i64 (.lit 0)],[(1,[.cst 0 none,.bool (.lit true),.int .i64 (szv 0),.int .u64 (u64v 1),.int .u64 (u64v 2),.int .u64 (u64v 3),.bool (.var 0),.bool (.var 1),.bool (.lit true),.int .i64 (lnv 4),.bool (.var 2),.int .i64 (lnv 15),.bool (.var 8),.map 2,.int .i64 (.bin .sub .i64 (lnv 9) (lnv 14)),.int .i64 (.lit 0),.int .i64 (.var 6),.bool (.var 3),.int .i64 (u16v 7),.cst 1 none,.int .u32 (u32v 8),.bool (.lit true),.bool (.lit true),.bool (.lit false)])],[(2,[(.int .i64 (u16v 7),none)])],0,[1]⟩]
def Tryz.zlK:List (List (SB×Bool)×Nat):= [
 ([], 0)]
theorem Tryz.zst:(ev prog (zau zhE) 100000 (.call 27 zhF (zas 0 zjf) (zaR zlL 0))).ways zsu=some zlK:=by kernel_rfl
theorem Tryz.zwZ:(zai zjf&&zaf zhE&&AV.smallL zhF&&zal zlL)=true:=by kernel_rfl
def Tryz.zhG:List Ent:= [pld4 (u64v 2),pgoE 0 5 6 14,pneE]
def Tryz.zjg:List Sh:=zpB 11 (.int .i64 (u16v 7)) (some (.agg [.int .i64 (u16v 7),.int .i64 (lnv 14),.cst 2 none]))
def Tryz.zhH:List AV:= [.ptr 1 0]
def Tryz.zsx:List (SB×Bool):= [(.cmp .eql (.flds [⟨11,0,4294967295,16,2,0⟩] 0) (.lit 0),false),(.cmp .eql (.flds [⟨11,0,4294967295,16,2,0⟩] 0) (.lit 2),true),(.cmp .geq (.flds [⟨11,0,4294967295,0,15,0⟩] 0) (szv 0),false)]
def Tryz.zlN:List Leaf:= [
 ⟨.tup [.agg [.int .i64 (.lit 2),.int .i64 (.lit 10),.int .i64 (.lit 0)],.int .i64 (.lit 0)],[(1,[.cst 0 none,.bool (.lit true),.int .i64 (szv 0),.int .u64 (u64v 1),.int .u64 (u64v 2),.int .u64 (u64v 3),.bool (.var 0),.bool (.var 1),.bool (.lit true),.int .i64 (lnv 4),.bool (.var 2),.int .i64 (lnv 15),.bool (.var 8),.map 2,.int .i64 (.bin .sub .i64 (lnv 9) (lnv 14)),.int .i64 (.lit 0),.int .i64 (.var 6),.bool (.var 3),.int .i64 (u16v 7),.cst 1 none,.int .u32 (u32v 8),.bool (.var 9),.bool (.lit true),.bool (.lit false)])],[(2,[(.int .i64 (u16v 7),none)])],0,[1]⟩]
def Tryz.zlM:List (List (SB×Bool)×Nat):= [
 ([], 0)]
theorem Tryz.zsw:(ev prog (zau zhG) 100000 (.call 27 zhH (zas 0 zjg) (zaR zlN 0))).ways zsx=some zlM:=by kernel_rfl
theorem Tryz.zw0:(zai zjg&&zaf zhG&&AV.smallL zhH&&zal zlN)=true:=by kernel_rfl
def Tryz.zjd:List Ent:= [pld4 (u64v 2),pgoE 0 5 6 14]
def Tryz.zlJ:List Sh:=zpB 11 (.int .i64 (u16v 7)) (some (.agg [.int .i64 (u16v 7),.int .i64 (lnv 14),.cst 2 none]))
def Tryz.zje:List AV:= [.ptr 1 0]
def Tryz.zwX:List (SB×Bool):= [(.cmp .eql (.flds [⟨11,0,4294967295,16,2,0⟩] 0) (.lit 0),false),(.cmp .eql (.flds [⟨11,0,4294967295,16,2,0⟩] 0) (.lit 2),false)]
def Tryz.zps:List Leaf:= [
 ⟨.tup [.agg [.int .i64 (.lit 2),.int .i64 (.lit 10),.int .i64 (.lit 0)],.int .i64 (.lit 0)],[(1,[.cst 0 none,.bool (.lit true),.int .i64 (szv 0),.int .u64 (u64v 1),.int .u64 (u64v 2),.int .u64 (u64v 3),.bool (.var 0),.bool (.var 1),.bool (.lit true),.int .i64 (lnv 4),.bool (.var 2),.int .i64 (lnv 15),.bool (.var 8),.map 2,.int .i64 (.bin .sub .i64 (lnv 9) (lnv 14)),.int .i64 (.lit 0),.int .i64 (.var 6),.bool (.var 3),.int .i64 (u16v 7),.cst 1 none,.int .u32 (u32v 8),.bool (.var 4),.bool (.lit true),.bool (.lit false)])],[(2,[(.int .i64 (u16v 7),none)])],0,[1]⟩]
def Tryz.zpr:List (List (SB×Bool)×Nat):= [
 ([], 0)]
theorem Tryz.zwW:(ev prog (zau zjd) 100000 (.call 27 zje (zas 0 zlJ) (zaR zps 0))).ways zwX=some zpr:=by kernel_rfl
theorem Tryz.zzJ:(zai zlJ&&zaf zjd&&AV.smallL zje&&zal zps)=true:=by kernel_rfl
open Go.RowKit
structure Tryz.PtW (A:Nat→Prop) (w:World) (M:Nat) (n:Int) (tk:List (Int×PTk)):Prop where
 map: ∃arr clock,w.heap[M]? =some (.map arr clock)∧(zdA arr∧Born arr clock)∧ ∀k:Int,(zbk k tk=none→zbm arr k=none)∧ ∀t,zbk k tk=some t→ ∃v,zbm arr k=some (.agg #[.int .i64 k,.int .i64 t.ct,v])∧SegV A w v t.sg
 keys:(tk.map (·.1)).Nodup
 rng: ∀e∈tk,(0≤e.1∧e.1<n)∧1≤e.2.ct∧e.2.ct≤n
theorem Tryz.PtW.kept {A:Nat→Prop} {w w':World} {M:Nat} {n:Int} {tk:List (Int×PTk)} (h:PtW A w M n tk) (hM:w'.heap[M]? =w.heap[M]?) (hk: ∀k,k<w.heap.size→ ¬A k→w'.heap[k]? =w.heap[k]?):PtW A w' M n tk:=by
 obtain ⟨arr,clock,h1,h2,h3⟩:=h.map
 refine ⟨⟨arr,clock,hM.trans h1,h2,fun k=>⟨(h3 k).1,fun t ht=> ?_⟩⟩,h.keys,h.rng⟩
 obtain ⟨v,h4,h5⟩:=(h3 k).2 t ht
 exact ⟨v,h4,h5.kept hk⟩
theorem Tryz.zcG {k:Int} {t:PTk}: ∀ {tk:List (Int×PTk)},zbk k tk=some t→(k,t)∈tk
 | [], h=>by cases h
 | e::r,h=>by
  unfold zbk at h
  split at h
  ·rename_i he;cases h;exact List.mem_cons.2 (.inl (by rw [he]))
  ·exact List.mem_cons_of_mem _ (zcG h)
theorem Tryz.zlQ {k h:Int} {l:PTk}: ∀ {tk:List (Int×PTk)},zbk h tk=none→zbk k (tk++ [(h,l)])=if k=h then some l else zbk k tk
 | [], _=>by simp only [List.nil_append,zbk]
 | e::r,hn=>by
  unfold zbk at hn
  split at hn
  ·cases hn
  ·rename_i hne
   simp only [List.cons_append,zbk]
   rw [zlQ hn]
   by_cases hk:k=e.1
   ·rw [if_pos hk,if_neg (fun hh=>hne (by rw [←hh,hk])),if_pos hk]
   ·rw [if_neg hk,if_neg hk]
theorem Tryz.zcy {k:Int}: ∀ {tk:List (Int×PTk)},zbk k tk=none↔k∉tk.map (·.1)
 | [] => by simp [zbk]
 | e::r=>by
  unfold zbk
  by_cases h:k=e.1
  ·simp [h]
  ·rw [if_neg h,zcy (tk:=r)]
   simp [h]
theorem Tryz.ze8 (k:Int): ∀(tk:List (Int×PTk)),(zb5 k tk).Sublist tk
 | [] => List.Sublist.refl _
 | e::r=>by
  unfold zb5
  split
  ·exact List.sublist_cons_self ..
  ·exact (ze8 k r).cons_cons _
theorem Tryz.zgl {k h:Int}: ∀ {tk:List (Int×PTk)},(tk.map (·.1)).Nodup→zbk k (zb5 h tk)=if k=h then none else zbk k tk
 | [], _=>by simp [zb5,zbk]
 | e::r,hn=>by
  rw [List.map_cons,List.nodup_cons] at hn
  unfold zb5
  by_cases hh:h=e.1
  ·rw [if_pos hh]
   by_cases hk:k=h
   ·rw [if_pos hk]
    exact zcy.2 (by rw [hk,hh];exact hn.1)
   ·rw [if_neg hk]
    unfold zbk
    rw [if_neg (fun e'=>hk (e'.trans hh.symm))]
    cases r<;>simp only [zbk]
  ·rw [if_neg hh]
   unfold zbk
   rw [zgl hn.2]
   by_cases hk:k=e.1
   ·rw [if_pos hk,if_pos hk,if_neg (fun e'=>hh (e'.symm.trans hk))]
   ·rw [if_neg hk,if_neg hk]
theorem Tryz.zlP (h:Int) (t:PTk): ∀tk:List (Int×PTk),zcc (tk++ [(h,t)])=zcc tk+t.ct
 | [] => by simp [zcc]
 | e::r=>by simp only [List.cons_append,zcc,zlP h t r];omega
theorem Tryz.zdI {h:Int} {t:PTk}: ∀ {tk:List (Int×PTk)},zbk h tk=some t→zcc (zb5 h tk)=zcc tk-t.ct
 | [], hh=>by cases hh
 | e::r,hh=>by
  unfold zbk at hh
  unfold zb5
  by_cases he:h=e.1
  ·rw [if_pos he] at hh ⊢
   cases hh
   simp only [zcc]
   omega
  ·rw [if_neg he] at hh ⊢
   simp only [zcc,zdI hh]
   omega
theorem Tryz.PtW.same {A:Nat→Prop} {w w':World} {M:Nat} {n:Int} {tk:List (Int×PTk)} (h:PtW A w M n tk) (hk: ∀k,k<w.heap.size→ ¬A k→w'.heap[k]? =w.heap[k]?)
  (hm: ∃arr clock arr0 clock0,w'.heap[M]? =some (.map arr clock)∧w.heap[M]? =some (.map arr0 clock0)∧(zdA arr∧Born arr clock)∧ ∀k,zbm arr k=zbm arr0 k):PtW A w' M n tk:=by
 obtain ⟨arr,clock,arr0,clock0,h1,h2,h3,h4⟩:=hm
 obtain ⟨arr1,clock1,g1,g2,g3⟩:=h.map
 rw [g1] at h2;cases h2
 refine ⟨⟨arr,clock,h1,h3,fun k=>⟨fun hk'=>(h4 k).trans ((g3 k).1 hk'),fun t ht=> ?_⟩⟩,h.keys,h.rng⟩
 obtain ⟨v,g4,g5⟩:=(g3 k).2 t ht
 exact ⟨v,(h4 k).trans g4,g5.kept hk⟩
theorem Tryz.PtW.put {A:Nat→Prop} {w w':World} {M:Nat} {n:Int} {tk:List (Int×PTk)} (h:PtW A w M n tk) (hk: ∀k,k<w.heap.size→ ¬A k→w'.heap[k]? =w.heap[k]?) {x:Int} {t:PTk} {v:Value} (hx:zbk x tk=none) (hx0:(0≤x∧x<n)∧1≤t.ct∧t.ct≤n) (hv:SegV A w' v t.sg)
  (hm: ∃arr clock arr0 clock0,w'.heap[M]? =some (.map arr clock)∧w.heap[M]? =some (.map arr0 clock0)∧(zdA arr∧Born arr clock)∧ ∀k,zbm arr k=if k=x then some (.agg #[.int .i64 x,.int .i64 t.ct,v]) else zbm arr0 k):PtW A w' M n (tk++ [(x,t)]):=by
 obtain ⟨arr,clock,arr0,clock0,h1,h2,h3,h4⟩:=hm
 obtain ⟨arr1,clock1,g1,g2,g3⟩:=h.map
 rw [g1] at h2;cases h2
 refine ⟨⟨arr,clock,h1,h3,fun k=> ?_⟩,?_,fun e he=> ?_⟩
 ·rw [zlQ hx,h4]
  by_cases hkx:k=x
  ·rw [if_pos hkx,if_pos hkx]
   exact ⟨fun h=>(by cases h),fun t' ht'=>(by cases ht';exact ⟨v,by rw [hkx],hv⟩)⟩
  ·rw [if_neg hkx,if_neg hkx]
   refine ⟨(g3 k).1,fun t' ht'=> ?_⟩
   obtain ⟨v',g4,g5⟩:=(g3 k).2 t' ht'
   exact ⟨v',g4,g5.kept hk⟩
 ·rw [List.map_append,List.nodup_append]
  refine ⟨h.keys,by simp,fun a ha b hb hab=> ?_⟩
  simp only [List.map_cons,List.map_nil,List.mem_singleton] at hb
  subst hb hab
  exact zcy.1 hx ha
 ·rcases List.mem_append.1 he with he|he
  ·exact h.rng e he
  ·rw [List.mem_singleton] at he;subst he;exact hx0
theorem Tryz.PtW.del {A:Nat→Prop} {w w':World} {M:Nat} {n:Int} {tk:List (Int×PTk)} (h:PtW A w M n tk) (hk: ∀k,k<w.heap.size→ ¬A k→w'.heap[k]? =w.heap[k]?) {x:Int}
  (hm: ∃arr clock arr0 clock0,w'.heap[M]? =some (.map arr clock)∧w.heap[M]? =some (.map arr0 clock0)∧(zdA arr∧Born arr clock)∧ ∀k,zbm arr k=if k=x then none else zbm arr0 k):PtW A w' M n (zb5 x tk):=by
 obtain ⟨arr,clock,arr0,clock0,h1,h2,h3,h4⟩:=hm
 obtain ⟨arr1,clock1,g1,g2,g3⟩:=h.map
 rw [g1] at h2;cases h2
 refine ⟨⟨arr,clock,h1,h3,fun k=> ?_⟩,((ze8 x tk).map (·.1)).nodup h.keys,fun e he=>h.rng e ((ze8 x tk).subset he)⟩
 rw [zgl h.keys,h4]
 by_cases hkx:k=x
 ·rw [if_pos hkx,if_pos hkx]
  exact ⟨fun _=>rfl,fun t' ht'=>(by cases ht')⟩
 ·rw [if_neg hkx,if_neg hkx]
  refine ⟨(g3 k).1,fun t' ht'=> ?_⟩
  obtain ⟨v',g4,g5⟩:=(g3 k).2 t' ht'
  exact ⟨v',g4,g5.kept hk⟩
structure Tryz.PB (r:Rg) (s:PS):Prop where
 nx:0≤s.nx∧s.nx<r.n
 us:0≤s.us∧s.us<r.n
 ou:s.ou=zcc s.tk∧s.ou≤r.n
 hd:0≤s.hd∧s.hd<65536
 wr:0≤s.wr∧s.wr<4294967296
 ph:s.ph≤11
 ret:7≤s.ph→ ∃t,zbk s.hd s.tk=some t
structure Tryz.PW (A:Nat→Prop) (w:World) (S P L Bs B M N:Nat) (r:Rg) (s:PS) (g:Nat→Int):Prop where
 obj: ∃sv,Own w S (s.row r P M sv)∧SegV A w sv s.sg
 tk:PtW A w M r.n s.tk
 ne:S≠M
 aS:A S
 aM:A M
 rg:PgOk r
 pb:PB r s
 mem:GM w P L Bs B N g
 hN:N≤1048576
 sd:S≠P∧S≠L∧S≠Bs∧S≠B
 md:M≠P∧M≠L∧M≠Bs∧M≠B
 aB:A B
 lt: ∀b,A b→b<w.heap.size
 fit:4104+16*r.n≤N
section
variable {A:Nat→Prop} {w w':World} {S P L Bs B M N:Nat} {r:Tryz.Rg} {s s':Tryz.PS} {g g':Nat→Int}
theorem Tryz.PW.ltS (h:PW A w S P L Bs B M N r s g):S<w.heap.size:=h.lt _ h.aS
theorem Tryz.PW.ltM (h:PW A w S P L Bs B M N r s g):M<w.heap.size:=h.lt _ h.aM
theorem Tryz.PW.kept (h:PW A w S P L Bs B M N r s g) (hS:w'.heap[S]? =w.heap[S]?) (hM:w'.heap[M]? =w.heap[M]?) (hk: ∀k,k<w.heap.size→ ¬A k→w'.heap[k]? =w.heap[k]?) (hg: ∀k,(k=P∨k=L∨k=Bs∨k=B)→w'.heap[k]? =w.heap[k]?) (hs:w.heap.size≤w'.heap.size):PW A w' S P L Bs B M N r s g:=by
 obtain ⟨sv,h1,h2⟩:=h.obj
 exact ⟨⟨sv,h1.kept hS,h2.kept hk⟩,h.tk.kept hM hk,h.ne,h.aS,h.aM,h.rg,h.pb,h.mem.kept (fun k _ h=>hg k h) hs,h.hN,h.sd,h.md,h.aB,fun b hb=>Nat.lt_of_lt_of_le (h.lt b hb) hs,h.fit⟩
theorem Tryz.PW.below (h:PW A w S P L Bs B M N r s g) (hb:Below w.heap.size w w'):PW A w' S P L Bs B M N r s g:=
 h.kept (hb.block _ h.ltS) (hb.block _ h.ltM) (fun k hk _=>hb.block k hk) (fun k hk=>by rcases hk with rfl|rfl|rfl|rfl;exact hb.block _ h.mem.pl;exact hb.block _ h.mem.ll;exact hb.block _ h.mem.sl;exact hb.block _ h.mem.bl) hb.size
theorem Tryz.PW.kA (h:PW A w S P L Bs B M N r s g) (hm:Dw.Mv (sK S M B) w w'): ∀k,k<w.heap.size→ ¬A k→w'.heap[k]? =w.heap[k]? :=fun k hk ha=>
 hm.block k hk fun hh=>ha (by rcases hh with rfl|rfl|rfl;exact h.aS;exact h.aM;exact h.aB)
theorem Tryz.PW.next (h:PW A w S P L Bs B M N r s g) (hm:Dw.Mv (sK S M B) w w') (hg:GM w' P L Bs B N g') (ho: ∃sv,Own w' S (s'.row r P M sv)∧SegV A w' sv s'.sg) (ht:PtW A w' M r.n s'.tk) (hb:PB r s'):PW A w' S P L Bs B M N r s' g':=
 ⟨ho,ht,h.ne,h.aS,h.aM,h.rg,hb,hg,h.hN,h.sd,h.md,h.aB,fun b hb=>Nat.lt_of_lt_of_le (h.lt b hb) hm.size,h.fit⟩
theorem Tryz.PW.mine (h:PW A w S P L Bs B M N r s g): ∀b,b=P∨b=L∨b=Bs∨b=B→ ¬Mine (jOf [(S,0),(M,0)]) b:=fun b hb hm=>by
 obtain ⟨n,L',h1,_,h3⟩:=hm
 match n,h1 with
 | 0,h1=>cases h1
 | 1,h1=>cases h1;subst h3;rcases hb with e|e|e|e;exact h.sd.1 e;exact h.sd.2.1 e;exact h.sd.2.2.1 e;exact h.sd.2.2.2 e
 | 2,h1=>cases h1;subst h3;rcases hb with e|e|e|e;exact h.md.1 e;exact h.md.2.1 e;exact h.md.2.2.1 e;exact h.md.2.2.2 e
 | n+3,h1=>cases h1
theorem Tryz.PW.apart (h:PW A w S P L Bs B M N r s g) {row:List AV} {kn:List (AV×Option AV)}:apart [(S,0),(M,0)] [.own row,.mapx kn]:=
 ⟨fun _ i b' s' h1 _ _=>(by
  match i,h1 with
  | 0,h1=>cases h1;exact h.ne
  | i+1,h1=>cases h1),⟨fun _ i b' s' h1 _ _=>(by cases h1),trivial⟩⟩
theorem Tryz.PW.kold (h:PW A w S P L Bs B M N r s g): ∀b,sK S M B b→b<w.heap.size:=fun b hb=>by
 rcases hb with rfl|rfl|rfl
 ·exact h.lt _ h.aS
 ·exact h.lt _ h.aM
 ·exact h.lt _ h.aB
theorem Tryz.PW.kmem (h:PW A w S P L Bs B M N r s g): ∀k,(k=P∨k=L∨k=Bs∨k=B)→ ¬(k=S∨k=M):=fun k hk hh=>by
 rcases hh with rfl|rfl
 ·rcases hk with e|e|e|e;exact h.sd.1 e;exact h.sd.2.1 e;exact h.sd.2.2.1 e;exact h.sd.2.2.2 e
 ·rcases hk with e|e|e|e;exact h.md.1 e;exact h.md.2.1 e;exact h.md.2.2.1 e;exact h.md.2.2.2 e
end
theorem Tryz.PgOk.nums {r:Rg} (h:PgOk r):(1≤r.n∧r.n≤32768)∧(0≤r.d∧r.d<18446744073709551616)∧(0≤r.v∧r.v<18446744073709551616)∧(0≤r.c∧r.c<18446744073709551616):=by
 have h1:=h.bnd
 have h2:=h.d
 have h3:=h.v
 have h4:=h.c
 omega
structure Tryz.PDen (ρ:Val) (r:Rg) (s:PS) (p sv:Value):Prop where
 n:(szv 0).den ρ=r.n
 d:(u64v 1).den ρ=r.d
 v:(u64v 2).den ρ=r.v
 c:(u64v 3).den ρ=r.c
 nx:(lnv 4).den ρ=s.nx
 us:(lnv 5).den ρ=s.us
 op:ρ.i 6=s.op
 hd:(u16v 7).den ρ=s.hd
 wr:(u32v 8).den ρ=s.wr
 ou:(lnv 9).den ρ=s.ou
 b0:ρ.b 0=s.ev
 b1:ρ.b 1=s.tb
 b2:ρ.b 2=s.nw
 b3:ρ.b 3=s.nn
 b4:ρ.b 4=s.it
 b5:ρ.b 5=s.dn
 b6:ρ.b 6=s.uw
 p:ρ.v 0=p
 sv:ρ.v 1=sv
def Tryz.prho (r:Rg) (s:PS) (xs:List Int) (bs:List Bool) (p sv x2:Value):Val:=vof (r.n::r.d::r.v::r.c::s.nx::s.us::s.op::s.hd::s.wr::s.ou::xs) (s.ev::s.tb::s.nw::s.nn::s.it::s.dn::s.uw::bs) [p,sv,x2]
theorem Tryz.zbh {n:Int}: ∀ {tk:List (Int×PTk)},(∀e∈tk,(0≤e.1∧e.1<n)∧1≤e.2.ct∧e.2.ct≤n)→0≤zcc tk
 | [], _=>Int.le_refl 0
 | e::t,h=>by
  have h1:=h e (List.mem_cons_self ..)
  have h2:=zbh (tk:=t) fun x hx=>h x (List.mem_cons_of_mem _ hx)
  show 0≤e.2.ct+zcc t
  omega
theorem Tryz.zbf {r:Rg} {s:PS} (hr:PgOk r) (hb:PB r s) (ho:0≤s.ou) (xs:List Int) (bs:List Bool) (p sv x2:Value):PDen (prho r s xs bs p sv x2) r s p sv:=by
 obtain ⟨⟨n1,n2⟩,⟨d1,d2⟩,⟨v1,v2⟩,c1,c2⟩:=hr.nums
 have h1:=hb.nx
 have h2:=hb.us
 have h3:=hb.ou
 exact ⟨zdz n1 n2,zaG d1 d2,zaG v1 v2,zaG c1 c2,zat h1.1 (by show s.nx<_;omega),zat h2.1 (by show s.us<_;omega),rfl,zbD hb.hd.1 hb.hd.2,zbx hb.wr.1 hb.wr.2,zat ho (by show s.ou<_;omega),rfl,rfl,rfl,rfl,rfl,rfl,rfl,rfl,rfl⟩
theorem Tryz.zcd {ρ:Val} {j:J} {r:Rg} {s:PS} {P M:Nat} {sv:Value} {ph:Int} (hd:PDen ρ r s (.pointer (some ⟨P,0,none⟩)) sv) (hb:s.br=false) (hp:(s.ph:Int)=ph) (hsv:sv.oneCell'=true) (hj:j 2=some ⟨M,0,0,none⟩):RL ρ j (prow ph (.lit false)) (s.row r P M sv):=by
 refine zab (za5 hd.p rfl) (zab (zap rfl) (zab (zac hd.n) (zab (zac hd.d) (zab (zac hd.v) (zab (zac hd.c) (zab (zap hd.b0) (zab (zap hd.b1) (zab (zap rfl) (zab (zac hd.nx) (zab (zap hd.b2) (zab (zac hd.us) (zab (zap hd.b6) (zab (zKk hj) (zab (zac hd.ou) (zab (zac ?_)
  (zab (zac hd.op) (zab (zap hd.b3) (zab (zac hd.hd) (zab (za5 hd.sv hsv) (zab (zac hd.wr) (zab (zap hd.b4) (zab (zap hd.b5) (zab (zap ?_) RL.nil)))))))))))))))))))))))
 ·exact hp.symm
 ·exact hb.symm
theorem Tryz.zco {A:Nat→Prop} {w:World} {M:Nat} {n:Int} {tk:List (Int×PTk)} {ρ:Val} {j:J} {K:Nat→Prop} {g:Gho} (h:PtW A w M n tk) (hK:K M):ShOk ρ j (cxOf w K g) (M,0) (.mapx []):=by
 obtain ⟨arr,clock,h1,h2,_⟩:=h.map
 exact ⟨hK,rfl,arr,clock,[],h1,h2,rfl,fun _ _ h=>by cases h⟩
section
variable {ρ:Val} {w0:World} {K:Nat→Prop} {P L Bs B N:Nat} {g:Nat→Int} {gs:List (Nat→Int)}
theorem Tryz.zAn {a:SE} {x:Int} (hN:N≤1048576) (hp:ρ.v 0= .pointer (some ⟨P,0,none⟩)) (ha:a.den ρ=x) (h0:0≤x) (hin:x+2≤N) (hx:(u16v 11).den ρ=zah g x.toNat 2):zaQ prog ρ w0 K (memG P L Bs B N (g::gs)) (pld2 a):=
  zaw (Dw.enters_of (by kernel_rfl)) (by rfl) [.pointer (some ⟨P,0,none⟩),.int .u64 x,.int .i64 2] (.tuple #[.int .u64 (zah g x.toNat 2),.int .i64 0]) (fun j=>zab (za5 hp rfl) (zab (zac ha) (zab (zac rfl) RL.nil)))
    (fun j=>zcC (zab (zac hx) (zab (zac rfl) RL.nil))) (fun w F q hf=>by
      obtain ⟨_,_,_,_,g',hg,hm⟩:=hf
      cases hg
      exact zBg hm hN (k:=2) (.inr (.inl rfl)) h0 hin)
theorem Tryz.zno {a:SE} {x:Int} (hN:N≤1048576) (hp:ρ.v 0= .pointer (some ⟨P,0,none⟩)) (ha:a.den ρ=x) (h0:0≤x) (hin:x+4≤N) (hx:(u32v 11).den ρ=zah g x.toNat 4):zaQ prog ρ w0 K (memG P L Bs B N (g::gs)) (pld4 a):=
  zaw (Dw.enters_of (by kernel_rfl)) (by rfl) [.pointer (some ⟨P,0,none⟩),.int .u64 x,.int .i64 4] (.tuple #[.int .u64 (zah g x.toNat 4),.int .i64 0]) (fun j=>zab (za5 hp rfl) (zab (zac ha) (zab (zac rfl) RL.nil)))
    (fun j=>zcC (zab (zac hx) (zab (zac rfl) RL.nil))) (fun w F q hf=>by
      obtain ⟨_,_,_,_,g',hg,hm⟩:=hf
      cases hg
      exact zBg hm hN (k:=4) (.inr (.inr (.inl rfl))) h0 hin)
theorem Tryz.zzQ {a v:SE} {x y:Int} {k:Nat} (hN:N≤1048576) (hp:ρ.v 0= .pointer (some ⟨P,0,none⟩)) (ha:a.den ρ=x) (h0:0≤x) (hk:k=1∨k=2∨k=4∨k=8) (hin:x+k≤N) (hv:v.den ρ=y) (hK:K B):
    zaQ prog ρ w0 K (memG P L Bs B N [g,putW g x.toNat k y]) (pst a k v):=
  zrs (Dw.enters_of (by kernel_rfl)) (by rfl) [.pointer (some ⟨P,0,none⟩),.int .u64 x,.int .i64 k,.int .u64 y] (.int .i64 0) (fun j=>zab (za5 hp rfl) (zab (zac ha) (zab (zac rfl) (zab (zac hv) RL.nil))))
    (fun j=>zac rfl) (fun w F q hf=>by
      obtain ⟨h1,h2,h3,h4,g',hg,hm⟩:=hf
      cases hg
      exact Calls.mono (zCP hm hN hk y h0 hin) fun e w' ⟨e1,e2,e3⟩=>⟨e1,⟨h1,h2,h3,h4,_,rfl,e2⟩,e3.mono fun b hb=>hb▸⟨h4,hK⟩⟩)
end
theorem Tryz.zgR {ρ:Val} {i:Nat} {k x:Int} (hd:(u64v 1).den ρ=4096) (hx:(lnv i).den ρ=x) (h0:0≤x∧x<16) (hk:0≤k∧k<16):(dplc i k).den ρ=4096+16*x+k:=by
 unfold dplc
 have e1:IntKind.wrap .u64 (16*x)=16*x:=zbE (by omega) (by omega)
 have e2:IntKind.wrap .u64 (4096+16*x)=4096+16*x:=zbE (by omega) (by omega)
 rw [den_add,den_add,den_mul,zad,zad,hd,hx,e1,e2,zbE (by omega) (by omega)]
end Go.Proofs
namespace Go.Proofs
open Go.Dw Go.RowKit
def Tryz.pdes:AV:= .agg [.int .u64 (u64v 10),.int .u32 (u32v 11),.int .u16 (u16v 12),.int .u16 (u16v 13)]
def Tryz.prdE (q:Nat):Ent:=⟨17,[.cst 0 none,.int .u64 (.bin .add .u64 (u64v 1) (.bin .mul .u64 (.lit 16) (lnv 4))),.int .i64 (.lit 16)],0,q,1,.tup [.opq q none,.int .i64 (.lit 0)],1⟩
def Tryz.pdsE (q:Nat):Ent:=⟨169,[.opq q none],1,0,0,.tup [pdes,.int .i64 (.lit 0)],1⟩
def Tryz.zFA:List AV:= [.int .u64 (u64v 10),.int .u32 (u32v 11),.bool (.cmp .neq (.flds [⟨13,0,65535,1,1,1⟩] 0) (.lit 0))]
def Tryz.zDu (q:Nat):AEnt:=⟨40,.cst 1 none,1,zFA,1,q,1,.opq q none,2⟩
def Tryz.pwiE (q:Nat):Ent:=⟨170,[.cst 0 none,.int .u64 (u64v 10),.int .u32 (u32v 11)],1,q,1,.tup [.opq q none,.int .i64 (.var 17)],3⟩
def Tryz.ptg (k:Nat):SE:= .flds [⟨13,0,65535,k,1,k⟩] 0
def Tryz.ziH:List (Nat×AV):= [(0,.cst 0 none),(1,.int .u64 (u64v 1)),(6,.cst 1 none),(7,.int .i64 (.var 17)),(21,.int .i64 (lnv 5)),(22,.int .i64 (lnv 4))]
def Tryz.zd4:List (Nat×AV):= [(0,.cst 0 none),(3,.bool (.var 0)),(5,.ptr 1 0),(6,.ptr 2 0),(8,.ptr 3 0),(9,.int .i64 (.lit 0))]
def Tryz.znq:List Sh:= [.own [.bool (.lit true),.int .i64 (szv 0),.int .u64 (u64v 1),.int .u64 (u64v 2),.int .u64 (u64v 3)],.own [.int .i64 (lnv 4),.bool (.var 1)],.own [.int .i64 (u16v 6),.int .i64 (lnv 5),.cst 1 none]]
def Tryz.pg1E:Ent:=⟨123,[.agg [.int .i64 (lnv 4),.bool (.var 1)],.int .i64 (.lit 1),.int .i64 (szv 0)],1,0,0,.tup [.agg [.int .i64 (lnv 15),.bool (.var 8)],.int .i64 (.lit 0)],1⟩
end Go.Proofs
namespace Go.Proofs
open Go.Dw
def Tryz.zv0:List Ent:= []
def Tryz.zBL:List Sh:= [.ro (zkH 20 16)]
def Tryz.zv1:List AV:= [sl16]
def Tryz.zIk:List (SB×Bool):= []
def Tryz.zFW:List Leaf:= [
 ⟨.tup [.agg [.int .u64 (.flds [⟨20,0,255,0,8,0⟩,⟨21,0,255,0,8,8⟩,⟨22,0,255,0,8,16⟩,⟨23,0,255,0,8,24⟩,⟨24,0,255,0,8,32⟩,⟨25,0,255,0,8,40⟩,⟨26,0,255,0,8,48⟩,⟨27,0,255,0,8,56⟩] 0),.int .u32 (.flds [⟨28,0,255,0,8,0⟩,⟨29,0,255,0,8,8⟩,⟨30,0,255,0,8,16⟩,⟨31,0,255,0,8,24⟩] 0),.int .u16 (.flds [⟨32,0,255,0,8,0⟩,⟨33,0,255,0,8,8⟩] 0),.int .u16 (.flds [⟨34,0,255,0,8,0⟩,⟨35,0,255,0,8,8⟩] 0)],.int .i64 (.lit 0)],[],[],0,[]⟩]
def Tryz.zJ3:List (List (SB×Bool)×Nat):= [
 ([], 0)]
theorem Tryz.zIj:(ev prog (zau zv0) 100000 (.call 169 zv1 (zas 0 zBL) (zaR zFW 0))).ways zIk=some zJ3:=by kernel_rfl
theorem Tryz.zJ4:(zai zBL&&zaf zv0&&AV.smallL zv1&&zal zFW)=true:=by kernel_rfl
def Tryz.ztT:List Ent:= []
def Tryz.zyt:List Sh:= []
def Tryz.ziF:List (Nat×AV):=ziH
def Tryz.zon:List LEnt:= []
def Tryz.zoo:List AEnt:= []
def Tryz.zyu:Option AV:=none
def Tryz.zGi:List (SB×Bool):= [(.cmp .lss (lnv 4) (lnv 5),false)]
def Tryz.zEX:List zbo:= [
 ⟨(.exit 0),[6,7],none,⟨.tup [.cst 1 none,.int .i64 (.var 17)],[],[],0,[]⟩⟩]
def Tryz.zEW:List (List (SB×Bool)×Nat):= [
 ([], 0)]
theorem Tryz.zGh:(evL prog (zau ztT) (zaF zon) (zaE zoo) 100000 (.code (zaK prog [0,0,1,0,1,1,170]) [0,0,1,0,1,1,170] 57 (envS 57 ziF zyu) (zas 0 zyt) (zaJ zEX 0))).ways zGi=some zEW:=by kernel_rfl
theorem Tryz.zI0:(zai zyt&&zaf ztT&&zam zon&&zan zoo&&zaq ziF&&zak zEX&&zaH 57 ziF&&Nat.ble 57 zaP&&zaC zyu)=true:=by kernel_rfl
def Tryz.ztU:List Ent:= [prdE 1,pdsE 1]
def Tryz.zyv:List Sh:= []
def Tryz.ziG:List (Nat×AV):=ziH
def Tryz.zop:List LEnt:= []
def Tryz.zoq:List AEnt:= []
def Tryz.zyw:Option AV:=none
def Tryz.zGk:List (SB×Bool):= [(.cmp .lss (lnv 4) (lnv 5),true),(.cmp .neq (ptg 2) (.lit 0),true)]
def Tryz.zEZ:List zbo:= [
 ⟨.ret,[6,7],none,⟨.tup [.nils,.int .i64 (.lit 4)],[],[],1,[]⟩⟩]
def Tryz.zEY:List (List (SB×Bool)×Nat):= [
 ([], 0)]
theorem Tryz.zGj:(evL prog (zau ztU) (zaF zop) (zaE zoq) 100000 (.code (zaK prog [0,0,1,0,1,1,170]) [0,0,1,0,1,1,170] 57 (envS 57 ziG zyw) (zas 0 zyv) (zaJ zEZ 0))).ways zGk=some zEY:=by kernel_rfl
theorem Tryz.zI1:(zai zyv&&zaf ztU&&zam zop&&zan zoq&&zaq ziG&&zak zEZ&&zaH 57 ziG&&Nat.ble 57 zaP&&zaC zyw)=true:=by kernel_rfl
def Tryz.ztS:List Ent:= [prdE 1,pdsE 1]
def Tryz.zyr:List Sh:= []
def Tryz.ziE:List (Nat×AV):=ziH
def Tryz.zol:List LEnt:= []
def Tryz.zom:List AEnt:= [zDu 5]
def Tryz.zys:Option AV:=none
def Tryz.zGg:List (SB×Bool):= [(.cmp .lss (lnv 4) (lnv 5),true),(.cmp .neq (ptg 2) (.lit 0),false)]
def Tryz.zEV:List zbo:= [
 ⟨.normal,[0,1,6,7,21,22],none,⟨.tup [.cst 0 none,.int .u64 (u64v 1),.opq 5 none,.int .i64 (.var 17),.int .i64 (lnv 5),.int .i64 (.bin .add .i64 (lnv 4) (.lit 1))],[],[],2,[]⟩⟩]
def Tryz.zEU:List (List (SB×Bool)×Nat):= [
 ([], 0)]
theorem Tryz.zGf:(evL prog (zau ztS) (zaF zol) (zaE zom) 100000 (.code (zaK prog [0,0,1,0,1,1,170]) [0,0,1,0,1,1,170] 57 (envS 57 ziE zys) (zas 0 zyr) (zaJ zEV 0))).ways zGg=some zEU:=by kernel_rfl
theorem Tryz.zIZ:(zai zyr&&zaf ztS&&zam zol&&zan zom&&zaq ziE&&zak zEV&&zaH 57 ziE&&Nat.ble 57 zaP&&zaC zys)=true:=by kernel_rfl
def Tryz.zvm:List Ent:= []
def Tryz.zAH:List Sh:=znq
def Tryz.zjN:List (Nat×AV):=zd4
def Tryz.zqg:List LEnt:= []
def Tryz.zqh:List AEnt:= []
def Tryz.zAI:Option AV:=none
def Tryz.zHD:List (SB×Bool):= [(.cmp .lss (lnv 5) (szv 0),false)]
def Tryz.zFL:List zbo:= [
 ⟨(.exit 0),[0,3,5,6,8,9],none,⟨.tup [.cst 0 none,.bool (.var 0),.ptr 1 0,.ptr 2 0,.ptr 3 0,.int .i64 (.lit 0)],[(1,[.bool (.lit true),.int .i64 (szv 0),.int .u64 (u64v 1),.int .u64 (u64v 2),.int .u64 (u64v 3)]),(2,[.int .i64 (lnv 4),.bool (.var 1)]),(3,[.int .i64 (u16v 6),.int .i64 (lnv 5),.cst 1 none])],[],0,[1,2,3]⟩⟩]
def Tryz.zFK:List (List (SB×Bool)×Nat):= [
 ([], 0)]
theorem Tryz.zHC:(evL prog (zau zvm) (zaF zqg) (zaE zqh) 100000 (.code (zaK prog [0,0,0,1,155]) [0,0,0,1,155] 102 (envS 102 zjN zAI) (zas 0 zAH) (zaJ zFL 0))).ways zHD=some zFK:=by kernel_rfl
theorem Tryz.zJE:(zai zAH&&zaf zvm&&zam zqg&&zan zqh&&zaq zjN&&zak zFL&&zaH 102 zjN&&Nat.ble 102 zaP&&zaC zAI)=true:=by kernel_rfl
def Tryz.zmg:List Ent:= [prdE 4,pdsE 4,pg1E]
def Tryz.zqa:List Sh:=znq
def Tryz.zfO:List (Nat×AV):=zd4
def Tryz.zjJ:List LEnt:= []
def Tryz.zjK:List AEnt:= []
def Tryz.zqb:Option AV:=none
def Tryz.zAC:List (SB×Bool):= [(.cmp .lss (lnv 5) (szv 0),true),(.cmp .neq (ptg 2) (.lit 0),true),(.var 0,false)]
def Tryz.zvj:List zbo:= [
 ⟨.ret,[8,9],none,⟨.tup [.ptr 3 0,.int .i64 (.lit 4)],[(1,[.bool (.lit true),.int .i64 (szv 0),.int .u64 (u64v 1),.int .u64 (u64v 2),.int .u64 (u64v 3)]),(2,[.int .i64 (lnv 15),.bool (.var 8)]),(3,[.int .i64 (u16v 12),.int .i64 (.bin .add .i64 (lnv 5) (.lit 1)),.cst 1 none])],[],1,[1,2,3]⟩⟩]
def Tryz.zvi:List (List (SB×Bool)×Nat):= [
 ([], 0)]
theorem Tryz.zAB:(evL prog (zau zmg) (zaF zjJ) (zaE zjK) 100000 (.code (zaK prog [0,0,0,1,155]) [0,0,0,1,155] 102 (envS 102 zfO zqb) (zas 0 zqa) (zaJ zvj 0))).ways zAC=some zvi:=by kernel_rfl
theorem Tryz.zDZ:(zai zqa&&zaf zmg&&zam zjJ&&zan zjK&&zaq zfO&&zak zvj&&zaH 102 zfO&&Nat.ble 102 zaP&&zaC zqb)=true:=by kernel_rfl
def Tryz.zmf:List Ent:= [prdE 4,pdsE 4,pg1E]
def Tryz.zp8:List Sh:=znq
def Tryz.zfN:List (Nat×AV):=zd4
def Tryz.zjH:List LEnt:= []
def Tryz.zjI:List AEnt:= []
def Tryz.zp9:Option AV:=none
def Tryz.zAA:List (SB×Bool):= [(.cmp .lss (lnv 5) (szv 0),true),(.cmp .neq (ptg 2) (.lit 0),true),(.var 0,true),(.cmp .gtr (.bin .add .i64 (lnv 5) (.lit 1)) (.lit 1),true)]
def Tryz.zvh:List zbo:= [
 ⟨.ret,[8,9],none,⟨.tup [.ptr 3 0,.int .i64 (.lit 4)],[(1,[.bool (.lit true),.int .i64 (szv 0),.int .u64 (u64v 1),.int .u64 (u64v 2),.int .u64 (u64v 3)]),(2,[.int .i64 (lnv 15),.bool (.var 8)]),(3,[.int .i64 (u16v 12),.int .i64 (.bin .add .i64 (lnv 5) (.lit 1)),.cst 1 none])],[],1,[1,2,3]⟩⟩]
def Tryz.zvg:List (List (SB×Bool)×Nat):= [
 ([], 0)]
theorem Tryz.zAz:(evL prog (zau zmf) (zaF zjH) (zaE zjI) 100000 (.code (zaK prog [0,0,0,1,155]) [0,0,0,1,155] 102 (envS 102 zfN zp9) (zas 0 zp8) (zaJ zvh 0))).ways zAA=some zvg:=by kernel_rfl
theorem Tryz.zDY:(zai zp8&&zaf zmf&&zam zjH&&zan zjI&&zaq zfN&&zak zvh&&zaH 102 zfN&&Nat.ble 102 zaP&&zaC zp9)=true:=by kernel_rfl
def Tryz.zme:List Ent:= [prdE 4,pdsE 4,pg1E]
def Tryz.zp6:List Sh:=znq
def Tryz.zfM:List (Nat×AV):=zd4
def Tryz.zjF:List LEnt:= []
def Tryz.zjG:List AEnt:= []
def Tryz.zp7:Option AV:=none
def Tryz.zAy:List (SB×Bool):= [(.cmp .lss (lnv 5) (szv 0),true),(.cmp .neq (ptg 2) (.lit 0),true),(.var 0,true),(.cmp .gtr (.bin .add .i64 (lnv 5) (.lit 1)) (.lit 1),false),(.cmp .neq (ptg 0) (.lit 0),true)]
def Tryz.zvf:List zbo:= [
 ⟨.ret,[8,9],none,⟨.tup [.ptr 3 0,.int .i64 (.lit 4)],[(1,[.bool (.lit true),.int .i64 (szv 0),.int .u64 (u64v 1),.int .u64 (u64v 2),.int .u64 (u64v 3)]),(2,[.int .i64 (lnv 15),.bool (.var 8)]),(3,[.int .i64 (u16v 12),.int .i64 (.bin .add .i64 (lnv 5) (.lit 1)),.cst 1 none])],[],1,[1,2,3]⟩⟩]
def Tryz.zve:List (List (SB×Bool)×Nat):= [
 ([], 0)]
theorem Tryz.zAx:(evL prog (zau zme) (zaF zjF) (zaE zjG) 100000 (.code (zaK prog [0,0,0,1,155]) [0,0,0,1,155] 102 (envS 102 zfM zp7) (zas 0 zp6) (zaJ zvf 0))).ways zAy=some zve:=by kernel_rfl
theorem Tryz.zDX:(zai zp6&&zaf zme&&zam zjF&&zan zjG&&zaq zfM&&zak zvf&&zaH 102 zfM&&Nat.ble 102 zaP&&zaC zp7)=true:=by kernel_rfl
def Tryz.zp5:List Ent:= [prdE 4,pdsE 4,pg1E,pwiE 6]
def Tryz.zvc:List Sh:=znq
def Tryz.zg5:List (Nat×AV):=zd4
def Tryz.zmc:List LEnt:= []
def Tryz.zmd:List AEnt:= []
def Tryz.zvd:Option AV:=none
def Tryz.zDW:List (SB×Bool):= [(.cmp .lss (lnv 5) (szv 0),true),(.cmp .neq (ptg 2) (.lit 0),true),(.var 0,true),(.cmp .gtr (.bin .add .i64 (lnv 5) (.lit 1)) (.lit 1),false),(.cmp .neq (ptg 0) (.lit 0),false)]
def Tryz.zAw:List zbo:= [
 ⟨.ret,[8,9],none,⟨.tup [.ptr 3 0,.int .i64 (.var 17)],[(1,[.bool (.lit true),.int .i64 (szv 0),.int .u64 (u64v 1),.int .u64 (u64v 2),.int .u64 (u64v 3)]),(2,[.int .i64 (lnv 15),.bool (.var 8)]),(3,[.int .i64 (u16v 12),.int .i64 (.bin .add .i64 (lnv 5) (.lit 1)),.opq 6 none])],[],3,[1,2,3]⟩⟩]
def Tryz.zAv:List (List (SB×Bool)×Nat):= [
 ([], 0)]
theorem Tryz.zDV:(evL prog (zau zp5) (zaF zmc) (zaE zmd) 100000 (.code (zaK prog [0,0,0,1,155]) [0,0,0,1,155] 102 (envS 102 zg5 zvd) (zas 0 zvc) (zaJ zAw 0))).ways zDW=some zAv:=by kernel_rfl
theorem Tryz.zHx:(zai zvc&&zaf zp5&&zam zmc&&zan zmd&&zaq zg5&&zak zAw&&zaH 102 zg5&&Nat.ble 102 zaP&&zaC zvd)=true:=by kernel_rfl
def Tryz.zvl:List Ent:= [prdE 4,pdsE 4,pg1E]
def Tryz.zAF:List Sh:=znq
def Tryz.zjM:List (Nat×AV):=zd4
def Tryz.zqe:List LEnt:= []
def Tryz.zqf:List AEnt:= [zDu 8]
def Tryz.zAG:Option AV:=none
def Tryz.zHB:List (SB×Bool):= [(.cmp .lss (lnv 5) (szv 0),true),(.cmp .neq (ptg 2) (.lit 0),false),(.cmp .eql (ptg 0) (.lit 0),true)]
def Tryz.zFJ:List zbo:= [
 ⟨.ret,[8,9],none,⟨.tup [.ptr 3 0,.int .i64 (.lit 0)],[(1,[.bool (.lit true),.int .i64 (szv 0),.int .u64 (u64v 1),.int .u64 (u64v 2),.int .u64 (u64v 3)]),(2,[.int .i64 (lnv 15),.bool (.var 8)]),(3,[.int .i64 (u16v 12),.int .i64 (.bin .add .i64 (lnv 5) (.lit 1)),.opq 8 none])],[],2,[1,2,3]⟩⟩]
def Tryz.zFI:List (List (SB×Bool)×Nat):= [
 ([], 0)]
theorem Tryz.zHA:(evL prog (zau zvl) (zaF zqe) (zaE zqf) 100000 (.code (zaK prog [0,0,0,1,155]) [0,0,0,1,155] 102 (envS 102 zjM zAG) (zas 0 zAF) (zaJ zFJ 0))).ways zHB=some zFI:=by kernel_rfl
theorem Tryz.zJD:(zai zAF&&zaf zvl&&zam zqe&&zan zqf&&zaq zjM&&zak zFJ&&zaH 102 zjM&&Nat.ble 102 zaP&&zaC zAG)=true:=by kernel_rfl
def Tryz.zvk:List Ent:= [prdE 4,pdsE 4,pg1E]
def Tryz.zAD:List Sh:=znq
def Tryz.zjL:List (Nat×AV):=zd4
def Tryz.zqc:List LEnt:= []
def Tryz.zqd:List AEnt:= [zDu 8]
def Tryz.zAE:Option AV:=none
def Tryz.zHz:List (SB×Bool):= [(.cmp .lss (lnv 5) (szv 0),true),(.cmp .neq (ptg 2) (.lit 0),false),(.cmp .eql (ptg 0) (.lit 0),false)]
def Tryz.zFH:List zbo:= [
 ⟨.normal,[0,3,5,6,8,9],none,⟨.tup [.cst 0 none,.bool (.var 0),.ptr 1 0,.ptr 2 0,.ptr 3 0,.int .i64 (.lit 0)],[(1,[.bool (.lit true),.int .i64 (szv 0),.int .u64 (u64v 1),.int .u64 (u64v 2),.int .u64 (u64v 3)]),(2,[.int .i64 (lnv 15),.bool (.var 8)]),(3,[.int .i64 (u16v 12),.int .i64 (.bin .add .i64 (lnv 5) (.lit 1)),.opq 8 none])],[],2,[1,2,3]⟩⟩]
def Tryz.zFG:List (List (SB×Bool)×Nat):= [
 ([], 0)]
theorem Tryz.zHy:(evL prog (zau zvk) (zaF zqc) (zaE zqd) 100000 (.code (zaK prog [0,0,0,1,155]) [0,0,0,1,155] 102 (envS 102 zjL zAE) (zas 0 zAD) (zaJ zFH 0))).ways zHz=some zFG:=by kernel_rfl
theorem Tryz.zJC:(zai zAD&&zaf zvk&&zam zqc&&zan zqd&&zaq zjL&&zak zFH&&zaH 102 zjL&&Nat.ble 102 zaP&&zaC zAE)=true:=by kernel_rfl
def Tryz.zvb:List Ent:= []
def Tryz.zAt:List Sh:= [.own [.int .i64 (u16v 6),.int .i64 (lnv 5),.cst 1 none]]
def Tryz.zgo:List (Nat×AV):= [(8,.ptr 1 0),(9,.int .i64 (.lit 0))]
def Tryz.zp3:List LEnt:= []
def Tryz.zp4:List AEnt:= []
def Tryz.zAu:Option AV:=none
def Tryz.zHw:List (SB×Bool):= []
def Tryz.zFF:List zbo:= [
 ⟨.ret,[8,9],none,⟨.tup [.ptr 1 0,.int .i64 (.lit 4)],[(1,[.int .i64 (u16v 6),.int .i64 (lnv 5),.cst 1 none])],[],0,[1]⟩⟩]
def Tryz.zFE:List (List (SB×Bool)×Nat):= [
 ([], 0)]
theorem Tryz.zHv:(evL prog (zau zvb) (zaF zp3) (zaE zp4) 100000 (.code (zaK prog [1,1,155]) [1,1,155] 102 (envS 102 zgo zAu) (zas 0 zAt) (zaJ zFF 0))).ways zHw=some zFE:=by kernel_rfl
theorem Tryz.zJB:(zai zAt&&zaf zvb&&zam zp3&&zan zp4&&zaq zgo&&zak zFF&&zaH 102 zgo&&Nat.ble 102 zaP&&zaC zAu)=true:=by kernel_rfl
open Go.RowKit
structure Tryz.WS where
 segs:List Sg
 n:Int
 e:Int
def Tryz.OwnSeg (w:World) (b2:Nat) (v:Value) (l:List Sg):Prop:=w.ownsRow b2 43 3 v l.length (zaS l)
theorem Tryz.OwnSeg.kept {w w':World} {b2:Nat} {v:Value} {l:List Sg} (h:OwnSeg w b2 v l) (hb: ∀b,v.ownBlock=some b→w'.heap[b]? =w.heap[b]?):OwnSeg w' b2 v l:=by
 obtain ⟨h1,h2⟩:=h
 refine ⟨h1,?_⟩
 rcases h2 with h2|⟨G,cap,cur,e,h3,h4,h5⟩
 ·exact .inl h2
 ·exact .inr ⟨G,cap,cur,e,h3,by rw [hb G (by rw [e];rfl)];exact h4,h5⟩
theorem Tryz.OwnSeg.lt {w:World} {b2:Nat} {v:Value} {l:List Sg} (h:OwnSeg w b2 v l): ∀b,v.ownBlock=some b→b2≤b∧b<w.heap.size∧ ∃cur e fr,w.heap[b]? =some (.cells cur e fr):=fun b hb=>by
 obtain ⟨h1,h2⟩:=h
 rcases h2 with ⟨rfl,_⟩|⟨G,cap,cur,rfl,h3,h4,h5⟩
 ·cases hb
 ·cases hb;exact ⟨h3,(Array.getElem?_eq_some_iff.1 h4).1,_,_,_,h4⟩
theorem Tryz.OwnSeg.segV {w:World} {b2:Nat} {v:Value} {l:List Sg} (h:OwnSeg w b2 v l) (hok: ∀x∈l,x.ok) {A:Nat→Prop} (hA: ∀b,b2≤b→ ¬A b):SegV A w v l:=by
 obtain ⟨h1,h2⟩:=h
 rcases h2 with ⟨rfl,h2⟩|⟨G,cap,cur,rfl,h3,h4,h5,h6,h7,h8⟩
 ·have:l= []:=List.length_eq_zero_iff.1 h2
  subst this
  exact SegV.none
 ·refine ⟨_,cap,rfl,hok,.inr ⟨G,0,rfl,hA G h3,fun i y hy=> ?_⟩⟩
  have hlt:i<(zaS l).length:=(List.getElem?_eq_some_iff.1 hy).1
  rw [←h8] at hy
  have hi:i<l.length*3:=by rw [zcn] at hlt;omega
  rw [List.getElem?_take_of_lt hi] at hy
  simp only [World.cell?,h4,Nat.zero_add]
  simpa using hy
theorem Tryz.OwnSeg.one {w:World} {b2:Nat} {v:Value} {l:List Sg} (h:OwnSeg w b2 v l):v.oneCell'=true:=by
 obtain ⟨h1,h2⟩:=h
 rcases h2 with ⟨rfl,h2⟩|⟨G,cap,cur,rfl,_⟩<;>rfl
structure Tryz.V6 where
 E:Nat
 Mb:Nat
 Nn:Nat
 Tb:Nat
 Fb:Nat
 Lc:Nat
def Tryz.vp (b:Nat):Value:= .pointer (some ⟨b,0,none⟩)
theorem Tryz.zb4: ∀ {bl:List (Nat×Nat)} {l:List Sh},(bl.map (·.1)).Nodup→apart bl l
 | [], _,_=>by unfold apart;trivial
 | b::bl,[],_=>by unfold apart;trivial
 | b::bl,s::l,h=>by
  rw [List.map_cons,List.nodup_cons] at h
  refine ⟨fun _ i b' s' h1 _ _ e=>h.1 (e▸List.mem_map_of_mem (List.mem_of_getElem? h1)),zb4 h.2⟩
def Tryz.fwOwn (b2:Nat) (v:Value) (l:List Sg) (F:Nat→Prop) (w:World):Prop:=OwnSeg w b2 v l∧ ∀b,v.ownBlock=some b→F b
theorem Tryz.fwOwn.kept {b2:Nat} {v:Value} {l:List Sg} {F:Nat→Prop} {w w':World} (h:fwOwn b2 v l F w) (hb: ∀b,F b→w'.heap[b]? =w.heap[b]?):fwOwn b2 v l F w':=⟨h.1.kept fun b e=>hb b (h.2 b e),h.2⟩
theorem Tryz.zbY {j:J} {n:Nat} {u:Value}:opqs (jq j n [u]) n=some u:=by
 unfold opqs jq
 rw [if_pos ⟨Nat.le_refl _,by simp⟩]
 simp
section
variable {ρ:Val} {P L Bs B N:Nat} {at0 size k e n A Ln F Nx cnt x rerr e3 n3:Int} {inner table:Bool} {v:Value} {g:Nat→Int} {b2 W0:Nat} {l l3:List Tryz.Sg} {a:Nat} {w0:World} {K:Nat→Prop}
theorem Tryz.zBz:(prog.info? 43).map (fun i=>(i.zero,i.size,i.bytes))=some (some (.agg #[.int .u64 0,.int .u32 0,.bool false]),3,16):=by kernel_rfl
end
end Go.Proofs
namespace Go.Proofs
open Go.Dw Go.RowKit
def Tryz.znt (g:Nat→Int) (a:Nat):Value:= .agg #[.int .u64 (zah g a 8),.int .u32 (zah g (a+8) 4),.int .u16 (zah g (a+12) 2),.int .u16 (zah g (a+14) 2)]
theorem Tryz.zk2 {g:Nat→Int} (hg: ∀j,0≤g j∧g j<256) (a X o c:Nat) (w:World) (h:w.rangeAt X o (row g a 16)):
  Calls prog 169 #[.slice (some ⟨X,o,none⟩) 16 c] w fun e w'=>e= .returned (.tuple #[znt g a,.int .i64 0])∧Below w.heap.size w w':=by
 have hr: ∀k i b,(∀t,t<k→20≤i+t∧b+t=a+(i+t-20))→ ∀t,t<k→(brho g a (.slice (some ⟨X,o,none⟩) 16 c)).i (i+t)=g (b+t):=fun k i b hh t ht=>by
  obtain ⟨h1,h2⟩:=hh t ht
  show g (a+(i+t-20))=_
  rw [h2]
 have hsx:Dw.R (brho g a (.slice (some ⟨X,o,none⟩) 16 c)) (jOf [(X,o)]) sl16 (.slice (some ⟨X,o,none⟩) 16 c):=⟨rfl,_,_,_,rfl,rfl,⟨X,o,_,0,rfl,rfl,rfl,rfl,by decide,rfl⟩,trivial⟩
 refine Calls.mono (zaD (ρ:=brho g a (.slice (some ⟨X,o,none⟩) 16 c)) (K:=fun _=>False) (g:=Gho.none) (bl:= [(X,o)]) (vals:= [.slice (some ⟨X,o,none⟩) 16 c]) mixed zIj zJ4 (fun b h=>h.elim)
  ⟨zba h (by unfold row;simp) (zm4 hg 16 20 a (hr 16 20 a fun t _=>⟨by omega,by omega⟩)) (fun h=>h),trivial⟩ ⟨fun h=>(by cases h),trivial⟩ zaO trivial (zab hsx RL.nil) (zae.2 trivial)) fun e w' hh=> ?_
 obtain ⟨_,j,he⟩:=zcr hh
 refine ⟨he.ret.trans ?_,zar he (fun _ h=>h)⟩
 have e1:=zfs hg 8 20 a (hr 8 20 a fun t _=>⟨by omega,by omega⟩)
 have e2:=zfs hg 4 28 (a+8) (hr 4 28 (a+8) fun t _=>⟨by omega,by omega⟩)
 have e3:=zfs hg 2 32 (a+12) (hr 2 32 (a+12) fun t _=>⟨by omega,by omega⟩)
 have e4:=zfs hg 2 34 (a+14) (hr 2 34 (a+14) fun t _=>⟨by omega,by omega⟩)
 simp only [zkG] at e1 e2 e3 e4
 simp only [AV.val,AV.valL,e1,e2,e3,e4,zad]
 rfl
def Tryz.zJF (g:Nat→Int) (b2 W0:Nat) (v:Value) (l:List Sg) (a:Nat) (l3:List Sg) (q1 q2 q3:Nat) (k:Nat) (q:Nat→Option Value) (F:Nat→Prop) (w:World):Prop:=
 match k with
 | 0=>fwOwn b2 v l F w
 | 1=>fwOwn b2 v l F w∧ ∃R o c,q q1=some (.slice (some ⟨R,o,none⟩) 16 c)∧F R∧w.rangeAt R o (row g a 16)
 | 2=> ∃u,q q2=some u∧fwOwn b2 u (l++ [pSeg g a]) F w∧ ∀b,u.ownBlock=some b→v.ownBlock=some b∨W0≤b
 | _=> ∃u,q q3=some u∧fwOwn b2 u l3 F w∧ ∀b,u.ownBlock=some b→v.ownBlock=some b∨W0≤b
def Tryz.pkG (P L Bs B N:Nat) (g:Nat→Int) (b2 W0:Nat) (v:Value) (l:List Sg) (a:Nat) (l3:List Sg) (q1 q2 q3:Nat):Gho where
 fact k q F w:=(F P∧F L∧F Bs∧F B∧GM w P L Bs B N g)∧zJF g b2 W0 v l a l3 q1 q2 q3 k q F w
 loc:=fun k q q' F w w' h hq hb hs=>by
  obtain ⟨⟨h1,h2,h3,h4,h5⟩,h6⟩:=h
  refine ⟨⟨h1,h2,h3,h4,h5.kept (fun b _ hb'=>by rcases hb' with rfl|rfl|rfl|rfl<;>exact hb _ (by assumption)) hs⟩,?_⟩
  match k,h6 with
  | 0,h6=>exact fwOwn.kept h6 hb
  | 1,⟨h6,R,o,c,h7,h8,h9⟩=>exact ⟨fwOwn.kept h6 hb,R,o,c,hq _ _ h7,h8,zaV h9 (hb R h8)⟩
  | 2,⟨u,h7,h8,h9⟩=>exact ⟨u,hq _ _ h7,fwOwn.kept h8 hb,h9⟩
  | k+3,⟨u,h7,h8,h9⟩=>exact ⟨u,hq _ _ h7,fwOwn.kept h8 hb,h9⟩
structure Tryz.PkD (ρ:Val) (P:Nat) (n d v c i ct id A Ln Id F nx e:Int) (tb wr nwr:Bool) (sv:Value):Prop where
 dn:(szv 0).den ρ=n
 dd:(u64v 1).den ρ=d
 dv:(u64v 2).den ρ=v
 dc:(u64v 3).den ρ=c
 di:(lnv 4).den ρ=i
 dct:(lnv 5).den ρ=ct
 did:(u16v 6).den ρ=id
 dA:(u64v 10).den ρ=A
 dLn:(u32v 11).den ρ=Ln
 dId:(u16v 12).den ρ=Id
 dF:(u16v 13).den ρ=F
 dF0:(ptg 0).den ρ=F%2
 dF1:(ptg 1).den ρ=F/2%2*2
 dF2:(ptg 2).den ρ=F/4%2*4
 dnx:(lnv 15).den ρ=nx
 de:ρ.i 17=e
 dtb:ρ.b 0=tb
 dwr:ρ.b 1=wr
 dnwr:ρ.b 8=nwr
 dp:ρ.v 0=vp P
 dsv:ρ.v 1=sv
theorem Tryz.zvn {P:Nat} {n d v c i ct id A Ln Id F nx e:Int} {tb wr nwr:Bool} {sv:Value} (hn:1≤n∧n≤32768) (hd:0≤d∧d<18446744073709551616) (hv:0≤v∧v<18446744073709551616) (hc:0≤c∧c<18446744073709551616) (hi:0≤i∧i<4611686018427387904) (hct:0≤ct∧ct<4611686018427387904) (hid:0≤id∧id<65536)
  (h4:0≤A∧A<18446744073709551616) (h5:0≤Ln∧Ln<4294967296) (h7:0≤Id∧Id<65536) (h6:0≤F∧F<65536) (hx:0≤nx∧nx<4611686018427387904):
  ∃ ρ:Val,PkD ρ P n d v c i ct id A Ln Id F nx e tb wr nwr sv:=by
 have part: ∀k:Nat,SE.den (vof [n,d,v,c,i,ct,id,0,0,0,A,Ln,Id,F,0,nx,0,e] [tb,wr,false,false,false,false,false,false,nwr] [vp P,sv]) (ptg k)=F/((2^k:Nat):Int)%2*((2^k:Nat):Int):=fun k=>zbi (i:=13) h6.1 (by show F≤65535;omega)
 refine ⟨vof [n,d,v,c,i,ct,id,0,0,0,A,Ln,Id,F,0,nx,0,e] [tb,wr,false,false,false,false,false,false,nwr] [vp P,sv],zdz hn.1 hn.2,zaG hd.1 hd.2,zaG hv.1 hv.2,zaG hc.1 hc.2,zat hi.1 hi.2,zat hct.1 hct.2,zbD hid.1 hid.2,zaG h4.1 h4.2,zbx h5.1 h5.2,zbD h7.1 h7.2,zbD h6.1 h6.2,?_,?_,?_,zat hx.1 hx.2,rfl,rfl,rfl,rfl,rfl,rfl⟩
 ·rw [part];show F/1%2*1=_;omega
 ·rw [part];rfl
 ·rw [part];rfl
section
variable {ρ:Val} {P L Bs B N:Nat} {n d v c i ct id nx e:Int} {tb wr nwr:Bool} {sv:Value} {g:Nat→Int} {b2 W0:Nat} {l l3:List Tryz.Sg} {a q1 q2 q3:Nat} {w0:World} {K:Nat→Prop}
theorem Tryz.zsB {A Ln Id F:Int} (hd:PkD ρ P n d v c i ct id A Ln Id F nx e tb wr nwr sv) (hi:0≤i∧i<1000000) (hd0:0≤d) (ha:d+16*i=a) (hN:N≤1048576) (hin:a+16≤N):
  zaQ prog ρ w0 K (pkG P L Bs B N g b2 W0 sv l a l3 q1 q2 q3) (prdE q1):=by
 refine ⟨Dw.enters_of (by kernel_rfl),fun j w vals F n hv hn hb hF hsz hf _=> ?_⟩
 have hadr:SE.den ρ (.bin .add .u64 (u64v 1) (.bin .mul .u64 (.lit 16) (lnv 4)))=a:=by
  have e1:IntKind.wrap .u64 (16*i)=16*i:=zbE (by omega) (by omega)
  rw [den_add,den_mul,hd.dd,hd.di,zad,e1,zbE (by omega) (by omega)];exact ha
 have hv:=zcR (show AV.exactL [.cst 0 none,.int .u64 (.bin .add .u64 (u64v 1) (.bin .mul .u64 (.lit 16) (lnv 4))),.int .i64 (.lit 16)]=true by decide) hv (zab (za5 (ρ:=ρ) (j:=j) hd.dp rfl) (zab (zac hadr) (zab (zac rfl) RL.nil)))
 subst hv
 have hb:n=q1:=hb (by show (1:Nat)≠0;decide)
 subst hb
 obtain ⟨⟨f1,f2,f3,f4,hm⟩,f6⟩:=hf
 have f6:fwOwn b2 sv l F w:=f6
 refine Calls.mono (zzv P L Bs B N a 16 g w hm hN (by omega) hin) fun en w' hh=> ?_
 obtain ⟨u,rfl,⟨_,hrow⟩,hbl⟩:=hh
 rcases hrow with ⟨_,h⟩|⟨G,cap,cur,rfl,h3,h4,h5,h6,h7,h8⟩
 ·cases h
 have hGlt:G<w'.heap.size:=(Array.getElem?_eq_some_iff.1 h4).1
 refine ⟨_,[.slice (some ⟨G,0,none⟩) 16 cap],fun b=>F b∨b=G,rfl,rfl,?_,⟨⟨.inl f1,.inl f2,.inl f3,.inl f4,hm.below hbl⟩,⟨?_,fun b hb=> .inl (f6.2 b hb)⟩,G,0,cap,zbY,.inr rfl,?_⟩,?_,Dw.Mv.of_below hbl⟩
 ·refine zcC (zab ⟨⟨⟨0,0,0,some _⟩,?_,rfl⟩,rfl,fun _ h=>by cases h⟩ (zab (zac rfl) RL.nil))
  show jq j n _ n=_
  unfold jq
  rw [if_pos ⟨Nat.le_refl _,by simp⟩]
  simp
 ·exact f6.1.kept fun b hb=>hbl.block b (f6.1.lt b hb).2.1
 ·intro i y hy
  rw [←h8] at hy
  have hlt:i<16:=by
   have:=(List.getElem?_eq_some_iff.1 hy).1
   rw [List.length_take] at this
   omega
  rw [List.getElem?_take_of_lt (by omega)] at hy
  simp only [World.cell?,h4,Nat.zero_add]
  simpa using hy
 ·rintro b (hb|rfl)
  ·exact ⟨Nat.lt_of_lt_of_le (hF b hb) hbl.size,.inl hb⟩
  ·exact ⟨hGlt,.inr h3⟩
theorem Tryz.zsW (hd:PkD ρ P n d v c i ct id (zah g a 8) (zah g (a+8) 4) (zah g (a+12) 2) (zah g (a+14) 2) nx e tb wr nwr sv) (hg: ∀j,0≤g j∧g j<256):
  zaQ prog ρ w0 K (pkG P L Bs B N g b2 W0 sv l a l3 q1 q2 q3) (pdsE q1):=
 zgO (Dw.enters_of (by kernel_rfl)) fun j w vals F hv hf=>by
  obtain ⟨_,_,R,o,c,hq,_,hr⟩:=hf
  obtain ⟨u,m,rfl,⟨⟨Lq,hj,hu⟩,_⟩,hm⟩:=hv
  have hm:m= []:=hm
  subst hm
  have hu:u= .slice (some ⟨R,o,none⟩) 16 c:=by
   unfold opqs at hq
   rw [hj] at hq
   simp only [Option.bind_some] at hq
   rw [hu] at hq
   exact Option.some.inj hq
  subst hu
  refine Calls.mono (zk2 hg a R o c w hr) fun en w' hh=>⟨_,hh.1,?_,hh.2⟩
  exact zcC (zab (zbg (zab (zac hd.dA) (zab (zac hd.dLn) (zab (zac hd.dId) (zab (zac hd.dF) RL.nil))))) (zab (zac rfl) RL.nil))
theorem Tryz.zHH {A Ln Id F:Int} {G:Gho} (hd:PkD ρ P n d v c i ct id A Ln Id F (zaL n i wr 1).1 e tb wr (zaL n i wr 1).2 sv) (hn:1≤n∧n≤32768) (hi:0≤i∧i<n):zaQ prog ρ w0 K G pg1E:=
 zaw (Dw.enters_of (by kernel_rfl)) (by rfl) [posV i wr,.int .i64 1,.int .i64 n] (.tuple #[posV (zaL n i wr 1).1 (zaL n i wr 1).2,.int .i64 0]) (fun j=>zab (zbg (zab (zac hd.di) (zab (zap hd.dwr) RL.nil))) (zab (zac rfl) (zab (zac hd.dn) RL.nil)))
  (fun j=>zcC (zab (zbg (zab (zac hd.dnx) (zab (zap hd.dnwr) RL.nil))) (zab (zac rfl) RL.nil))) (fun w F q hf=>zmK hn hi ⟨by decide,by omega⟩ w)
set_option maxRecDepth 10000 in
theorem Tryz.znn {Id:Int} (hd:PkD ρ P n d v c i ct id (zah g a 8) (zah g (a+8) 4) Id (zah g (a+14) 2) nx e tb wr nwr sv) (hlo:P<b2∧L<b2∧Bs<b2∧B<b2) (hW:W0=w0.heap.size) (hb2:b2≤W0) (hK: ∀b,sv.ownBlock=some b→K b) (hl:l.length≤1000000):
    zES prog ρ w0 K (pkG P L Bs B N g b2 W0 sv l a l3 q1 q2 q3) (zDu q2):=by
  intro j w F n us bb o cap vals ty hus hcells hxs hnone hbase hF hsz hf
  have hb:n=q2:=hbase (by show (1:Nat)≠0;decide)
  subst hb
  obtain ⟨⟨f1,f2,f3,f4,hm⟩,⟨f5,f6⟩,_⟩:=hf
  have hus:=R_val (by rfl) hus
  have hus:us=sv:=by rw [hus];exact hd.dsv
  subst hus
  have hxs:=zcR (show AV.exactL zFA=true by decide) hxs (zab (zac hd.dA) (zab (zac hd.dLn) (zab (zap rfl) RL.nil)))
  have hvals:vals=(pSeg g a).cells:=by
    rw [hxs]
    unfold pSeg Sg.cells
    rw [show SB.den ρ (.cmp .neq (.flds [⟨13,0,65535,1,1,1⟩] 0) (.lit 0))=(zah g (a+14) 2/2%2*2 !=0) from by rw [zcL,show SE.den ρ (.flds [⟨13,0,65535,1,1,1⟩] 0)=_ from hd.dF1,zad]]
  subst hvals
  have hinfo:=zBz
  cases hi:prog.info? 43 with
  | none=>rw [hi] at hinfo;cases hinfo
  | some i=>
  rw [hi] at hinfo
  simp only [Option.map_some,Option.some.injEq,Prod.mk.injEq] at hinfo
  obtain ⟨i1,i2,i3⟩:=hinfo
  obtain ⟨u,w',h1,h2,h3,h4,h5⟩:=run_append_own_at (P:=prog) w b2 40 ty 43 i _ 3 16 (by kernel_rfl) hi i1 i2 i3 rfl (by decide) us l.length (zaS l) f5 ⟨bb,o,none⟩ 1 cap (pSeg g a).cells rfl
    (fun q y hy=>by
      rw [Dw.addr_add]
      exact hcells q y hy) (fun y hy=>by simp only [Sg.cells,List.mem_cons,List.not_mem_nil,or_false] at hy;rcases hy with rfl|rfl|rfl<;>rfl) (by unfold maxLen;omega) (by omega) (by omega)
  have hseg:zaS l++(pSeg g a).cells=zaS (l++ [pSeg g a]):=by simp [zaS]
  have hown:OwnSeg w' b2 u (l++ [pSeg g a]):=by
    unfold OwnSeg
    rw [←hseg,List.length_append]
    exact h2
  have hub:=hown.lt
  have hub1: ∀b,u.ownBlock=some b→us.ownBlock=some b∨w.heap.size≤b:=fun b hb=>by
    rcases h5 with h5|h5
    · exact .inl (h5▸hb)
    · rw [hb] at h5;cases h5;exact .inr (Nat.le_refl _)
  have hmv:Dw.Mv (fun b=>us.ownBlock=some b) w w':=⟨h3.os,h3.tape,h3.output,h3.size,fun b hb hn=>h3.block b hb (fun e=>hn e.symm)⟩
  have hvP: ∀b,us.ownBlock=some b→b≠P∧b≠L∧b≠Bs∧b≠B:=fun b hb=>by
    have:=(f5.lt b hb).1
    omega
  refine ⟨u,w',[u],fun b=>F b∨u.ownBlock=some b,h1,rfl,⟨⟨⟨0,0,0,some u⟩,?_,rfl⟩,hown.one,fun _ h=>(by cases h)⟩,⟨⟨.inl f1,.inl f2,.inl f3,.inl f4,hm.kept (fun b hb hb'=>hmv.block b hb (fun e=>by
      obtain ⟨r1,r2,r3,r4⟩:=hvP b e
      rcases hb' with h|h|h|h<;>contradiction)) hmv.size⟩,u,zbY,⟨hown,fun b hb=> .inr hb⟩,fun b hb=> ?_⟩,?_,hmv.mono fun b hb=>⟨f6 b hb,.inr (hK b hb)⟩⟩
  · show jq j n _ n=_
    unfold jq
    rw [if_pos ⟨Nat.le_refl _,by simp⟩]
    simp
  · rcases hub1 b hb with h|h
    · exact .inl h
    · exact .inr (by omega)
  · rintro b (hb|hb)
    · exact ⟨Nat.lt_of_lt_of_le (hF b hb) hmv.size,.inl hb⟩
    · refine ⟨(hub b hb).2.1,?_⟩
      rcases hub1 b hb with h|h
      · exact .inl (f6 b h)
      · exact .inr h
end
end Go.Proofs
namespace Go.Proofs
open Go.Dw Go.RowKit
theorem Tryz.zyV (a m:Int) (hm:0<m):((if a.tmod m<0 then a.tmod m+m else a.tmod m)=a%m)∧ -m<a.tmod m∧a.tmod m<m:=by
 rw [Int.tmod_eq_emod]
 have h1:=Int.emod_nonneg a (Int.ne_of_gt hm)
 have h2:=Int.emod_lt_of_pos a hm
 have h3:((m.natAbs:Nat):Int)=m:=Int.natAbs_of_nonneg (Int.le_of_lt hm)
 by_cases h:0≤a∨m ∣ a
 ·rw [if_pos h];simp only [Int.sub_zero,Int.ofNat_zero];refine ⟨?_,?_,?_⟩<;>first|omega|(split<;>omega)
 ·rw [if_neg h,h3]
  have h4:a%m≠0:=fun h0=>h (.inr (Int.dvd_of_emod_eq_zero h0))
  refine ⟨?_,?_,?_⟩<;>first|omega|(split<;>omega)
set_option maxRecDepth 100000 in
theorem Tryz.zvo (a m:Int) (hm:1≤m∧m≤1000000) (w:World):
  Calls prog 7 #[.int .i64 a,.int .i64 m] w fun e w'=>e= .returned (.int .i64 (a%m))∧w'=w:=by
 obtain ⟨hr,hlo,hhi⟩:=zyV a m (by omega)
 have hq:IntKind.i64.wrap (a.tmod m)=a.tmod m:=zbL (by omega) (by omega)
 have hm0:m≠0:=by omega
 have hm1: ¬m<1:=by omega
 by_cases h0:a.tmod m<0
 ·rw [if_pos h0] at hr
  have hq2:IntKind.i64.wrap (a.tmod m+m)=a.tmod m+m:=zbL (by omega) (by omega)
  rw [←hr]
  go_enter func7,ntmps7
  go_wp2
  go_ret
  exact ⟨rfl,rfl⟩
 ·rw [if_neg h0] at hr
  rw [←hr]
  go_enter func7,ntmps7
  go_wp2
  go_ret
  exact ⟨rfl,rfl⟩
theorem Tryz.zdp {bl:List (Nat×Nat)} {b:Nat} (h:Mine (jOf bl) b):b∈bl.map (·.1):=by
 obtain ⟨k,L,h1,_,h3⟩:=h
 match k,h1 with
 | 0,h1=>cases h1
 | k+1,h1=>
  have h1:(bl[k]?).map (fun b=>(⟨b.1,b.2,0,none⟩:Dw.Loc))=some L:=h1
  cases hk:bl[k]? with
  | none=>rw [hk] at h1;cases h1
  | some p=>
   rw [hk] at h1
   cases h1
   exact List.mem_map.2 ⟨p,List.mem_of_getElem? hk,h3⟩
section
variable {w:World} {a:Act} {P L Bs B N:Nat} {g:Nat→Int} {b2:Nat} {x:Tryz.V6} {table:Bool} {v:Value} {s:Tryz.WS} {M:Nat} {at0 size k:Int} {inner:Bool} {seen:List Int} {ρ:Val} {A Ln F Nx cnt xx rerr e3 n3:Int} {l3:List Tryz.Sg} {aa:Nat}
theorem Tryz.zD4 {ρ:Val} {j:J} {w:World} {b:Nat} {row:List AV} {vs:List Value} (h:Own w b vs) (hx:AV.exactL row=true) (hr:RL ρ j row vs):Own w b (AV.valL ρ (lcOf j) row):=(RL_val hx hr)▸h
end
end Go.Proofs
namespace Go.Proofs
open Go.Dw Go.RowKit
section
variable {w:World} {a:Act} {P L Bs B N:Nat} {g:Nat→Int} {b2:Nat} {x:Tryz.V6} {table:Bool} {v:Value} {s:Tryz.WS} {M:Nat} {at0 size k:Int} {inner:Bool} {seen:List Int} {f:Nat} {tab:Int→Int→Int→Tryz.WS→Tryz.WS}
theorem Tryz.zcN {ρ:Val} {j:J} {n:Nat} {u:Value} (hu:opqs j n=some u):(AV.opq n none).val ρ (lcOf j)=u:=by
 unfold opqs at hu
 show (lcOf j n).q.getD undef=u
 unfold lcOf
 cases hj:j n with
 | none=>rw [hj] at hu;cases hu
 | some Lq=>
  rw [hj] at hu
  have hu:Lq.q=some u:=hu
  show Lq.q.getD undef=u
  rw [hu];rfl
end
end Go.Proofs
namespace Go.Proofs
open Go.Dw Go.RowKit
theorem Tryz.OwnSeg.nil (w:World) (b2:Nat):OwnSeg w b2 (.slice none 0 0) []:=⟨rfl,.inl ⟨rfl,rfl⟩⟩
theorem Tryz.OwnSeg.mono {w:World} {b1 b2:Nat} {v:Value} {l:List Sg} (h:OwnSeg w b2 v l) (hb:b1≤b2):OwnSeg w b1 v l:=by
 obtain ⟨h1,h2⟩:=h
 refine ⟨h1,?_⟩
 rcases h2 with h2|⟨G,cap,cur,e,h3,h4⟩
 ·exact .inl h2
 ·exact .inr ⟨G,cap,cur,e,Nat.le_trans hb h3,h4⟩
open Go.Maps Go.Sort
section
variable {A:Nat→Prop} {w:World} {S P M:Nat} {r:Tryz.Rg} {s:Tryz.SS}
end
end Go.Proofs
namespace Go.Proofs
open Go.Dw Go.RowKit
section
variable {A:Nat→Prop} {w:World} {S P L Bs B M N:Nat} {r:Tryz.Rg} {s:Tryz.SS} {g:Nat→Int}
theorem Tryz.zpc {l:List Sg} (hok: ∀x∈l,x.ok):0≤(zbp l).1∧(zbp l).1<18446744073709551616∧0≤(zbp l).2∧(zbp l).2<18446744073709551616:=by
 unfold zbp
 by_cases hE:zaU l=0
 ·rw [if_pos hE]
  have hl:=ze0 hE
  have h1:=zcv false l hok
  have h2:=zcv true l hok
  refine ⟨h1.1,?_,h2.1,?_⟩
  ·show zay false l<_;omega
  ·show zay true l<_;omega
 ·rw [if_neg hE];decide
end
end Go.Proofs
end
