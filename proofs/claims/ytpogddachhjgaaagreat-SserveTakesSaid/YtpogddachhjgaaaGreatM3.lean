/-
  Proved: laws on the way to 'SserveTakesProof' (texts DwLoop WkA XcR XcM XcI SoB SoC SoD SoF SoG SoH SoI SoJ SoK SoL SoM SoN XaA WkB WkC WkD WkE WkF0 WkF); no condition.
-/
import Derived.Test.YtpogddachhjgaaaGreatM2
import Derived.KernelRfl
import Derived.Maps.AppendAt
import Derived.Defers
import Derived.BigFrame
import Derived.Recover
set_option linter.unusedSimpArgs false
set_option linter.unusedVariables false
noncomputable section
namespace Go.Dw
open Go.RowKit
structure LEnd where
 test:SB
 ex:Ex
 slots:List (Nat×AV)
 gs:Nat
structure LEnt where
 p:List Nat
 n:Nat
 gs:Nat
 slots:List (Nat×AV)
 keep:List Nat
 rows:List (Nat×List AV)
 base:Nat
 nopq:Nat
 ends:List LEnd
def getE (env:T AV) (t:Nat):AV:=
 match env.get t with
 | some v=>v
 | none=>zbE
def zd9:Nat→T AV→T AV
 | 0,t=>t
 | n+1,t=>zd9 n (t.set n .junk)
def ztu (env:T AV):List Nat→T AV→T AV
 | [], t=>t
 | i::l,t=>ztu env l (t.set i (getE env i))
def setE:List (Nat×AV)→T AV→T AV
 | [], t=>t
 | p::l,t=>setE l (t.set p.1 p.2)
def zvA:List Nat→List Nat→Bool
 | [], [] => true
 | a::l,b::m=>match Nat.beq a b with|true=>zvA l m|false=>false
 | _,_=>false
def zA4:AV→Bool
 | .junk=>false
 | _=>true
def ziB (N:Nat) (env:T AV):List (Nat×AV)→Bool
 | [] => true
 | p::l=>match Nat.blt p.1 N,AV.beq (getE env p.1) p.2,zA4 p.2 with|true,true,true=>ziB N env l|_,_,_=>false
def zaF (N:Nat):List (Nat×AV)→Bool
 | [] => true
 | p::l=>match Nat.blt p.1 N with|true=>zaF N l|false=>false
def zvN (N:Nat):List Nat→Bool
 | [] => true
 | p::l=>match Nat.blt p N with|true=>zvN N l|false=>false
def zwq (N:Nat):List LEnd→Bool
 | [] => true
 | e::l=>match zaF N e.slots with|true=>zwq N l|false=>false
def LEnt.fits (e:LEnt) (p:List Nat) (N:Nat) (env:T AV) (H:Heap):Bool:=
 match zvA p e.p,Nat.beq N e.n with
 | false,_=>false
 | true,false=>false
 | true,true=>match ziB N env e.slots,zvN N e.keep,zwq N e.ends,Nat.beq H.gs e.gs with
  | true,true,true,true=>(match env.get zaN,Nat.ble N zaN,zcl H e.rows with
   | none,true,true=>(match e.nopq with
    | 0=>true
    | _+1=>Nat.beq H.nx e.base)
   | _,_,_=>false)
  | _,_,_,_=>false
def LEnt.ent (e:LEnt) (d:LEnd):Ent:=⟨0,[],e.gs,e.base,e.nopq,zbE,d.gs⟩
def LEnt.env (e:LEnt) (d:LEnd) (N:Nat) (env:T AV):T AV:=setE d.slots (ztu env e.keep (zd9 N .leaf))
def LEnt.ans (e:LEnt) (N:Nat) (env:T AV) (H:Heap):List LEnd→LAns
 | [] => []
 | d::l=>(d.test,d.ex,e.env d N env,(e.ent d).heap H)::e.ans N env H l
def zBr:List LEnt→LOrc
 | [], _,_,_,_=>none
 | e::l,p,N,env,H=>match e.fits p N env H with
  | true=>some (e.ans N env H e.ends)
  | false=>zBr l p N env H
def zaC (l:List LEnt):LOrc:=fun p N env H=>
 match p with
 | 2::_=>none
 | p=>zBr l p N env H
def zlk (ρ:Val) (l:List LEnd):Option LEnd:=znR ρ (l.map fun d=>(d.test,d))
def zlv (P:Program) (ρ:Val) (w0:World) (K:Nat→Prop) (g:Gho) (e:LEnt):Prop:=
 ∀ c,zaI P e.p=c→ ∀(j:J) (a:Act) (w:World) (F:Nat→Prop) (n:Nat),a.tmps.size=e.n→a.defers= []→(∀s∈e.slots,s.1<e.n∧R ρ j s.2 (a.tmps.getD s.1 undef))→(∀r∈e.rows,∀L,j r.1=some L→ ¬F L.blk∧ ∃vals,RL ρ j r.2 vals∧Row w L vals)→
  (∀ k,n≤k→j k=none)→(e.nopq≠0→n=e.base)→(∀b,F b→b<w.heap.size)→w0.heap.size≤w.heap.size→g.fact e.gs (opqs j) F w→(∀i,i<w0.heap.size→ ¬K i→w.heap[i]? =w0.heap[i]?)→
  c.wp P (fun ex a' w'=> ∃d qs F',zlk ρ e.ends=some d∧ex=exOf d.ex∧a'.tmps.size=e.n∧a'.defers= []∧(∀t∈e.keep,a'.tmps.getD t undef=a.tmps.getD t undef)∧qs.length=e.nopq∧
   (∀ s∈d.slots,R ρ (jq j n qs) s.2 (a'.tmps.getD s.1 undef))∧g.fact d.gs (opqs (jq j n qs)) F' w'∧(∀b,F' b→b<w'.heap.size∧(F b∨w.heap.size≤b))∧Mv (fun b=>F b∧(w0.heap.size≤b∨K b)) w w') a w
def zG5 (P:Program) (ρ:Val) (w0:World) (K:Nat→Prop) (g:Gho) (e:LEnt):Prop:=
  ∀ c,zaI P e.p= .loop c→ ∀(j:J) (a:Act) (w:World) (F:Nat→Prop) (n:Nat),a.tmps.size=e.n→a.defers= []→(∀s∈e.slots,s.1<e.n∧R ρ j s.2 (a.tmps.getD s.1 undef))→(∀r∈e.rows,∀L,j r.1=some L→ ¬F L.blk∧ ∃vals,RL ρ j r.2 vals∧Row w L vals)→
    (∀ k,n≤k→j k=none)→(e.nopq≠0→n=e.base)→(∀b,F b→b<w.heap.size)→w0.heap.size≤w.heap.size→g.fact e.gs (opqs j) F w→(∀i,i<w0.heap.size→ ¬K i→w.heap[i]? =w0.heap[i]?)→
    (Code.loop c).wp P (fun ex a' w'=> ∃d qs F',zlk ρ e.ends=some d∧ex=exOf d.ex∧a'.tmps.size=e.n∧a'.defers= []∧(∀t∈e.keep,a'.tmps.getD t undef=a.tmps.getD t undef)∧qs.length=e.nopq∧
      (∀ s∈d.slots,R ρ (jq j n qs) s.2 (a'.tmps.getD s.1 undef))∧g.fact d.gs (opqs (jq j n qs)) F' w'∧(∀b,F' b→b<w'.heap.size∧(F b∨w.heap.size≤b))∧Mv (fun b=>F b∧(w0.heap.size≤b∨K b)) w w') a w
def zmK (P:Program) (ρ:Val) (w0:World) (K:Nat→Prop) (g:Gho):List LEnt→Prop
 | [] => True
 | e::l=>zlv P ρ w0 K g e∧zmK P ρ w0 K g l
def zaq:List (Nat×AV)→Bool
 | [] => true
 | s::l=>match s.2.small with|true=>zaq l|false=>false
def zdH:List LEnd→Bool
 | [] => true
 | d::l=>match d.test.small,zaq d.slots with|true,true=>zdH l|_,_=>false
def zgG:List (Nat×List AV)→Bool
 | [] => true
 | r::l=>match AV.smallL r.2 with|true=>zgG l|false=>false
theorem zgF: ∀ {l:List (Nat×List AV)},zgG l=true→ ∀s∈l,AV.smallL s.2=true
 | [], _,s,h=>by cases h
 | p::l,hl,s,h=>by
  unfold zgG at hl
  split at hl
  ·rename_i hb
   rcases List.mem_cons.1 h with rfl|h
   ·exact hb
   ·exact zgF hl s h
  ·cases hl
def zan:List LEnt→Bool
 | [] => true
 | e::l=>match zaq e.slots,zdH e.ends,zgG e.rows with|true,true,true=>zan l|_,_,_=>false
theorem zcw: ∀(n:Nat) (t0:T AV) (t:Nat),zaU (zd9 n t0) t=if t<n then .junk else zaU t0 t
 | 0,t0,t=>by rw [if_neg (by omega)];rfl
 | n+1,t0,t=>by
  unfold zd9
  rw [zcw n,zbn]
  by_cases h:t<n
  ·rw [if_pos h,if_pos (by omega)]
  ·rw [if_neg h]
   by_cases h2:t=n
   ·rw [if_pos h2,if_pos (by omega)]
   ·rw [if_neg h2,if_neg (by omega)]
theorem ztD (env:T AV) (t:Nat):getE env t=zaU env t:=rfl
theorem zeY {env:T AV}: ∀(l:List Nat) (t0:T AV) (t:Nat),(t∈l∧zaU (ztu env l t0) t=zaU env t)∨zaU (ztu env l t0) t=zaU t0 t
 | [], t0,t=> .inr rfl
 | i::l,t0,t=>by
  unfold ztu
  rcases zeY (env:=env) l (t0.set i (getE env i)) t with ⟨h1,h2⟩|h
  ·exact .inl ⟨List.mem_cons_of_mem _ h1,h2⟩
  ·rw [h,zbn]
   by_cases hi:t=i
   ·rw [if_pos hi,ztD,hi];exact .inl ⟨List.mem_cons_self ..,rfl⟩
   ·rw [if_neg hi];exact .inr rfl
theorem zc1: ∀(l:List (Nat×AV)) (t0:T AV) (t:Nat),(∃v,(t,v)∈l∧zaU (setE l t0) t=v)∨zaU (setE l t0) t=zaU t0 t
 | [], t0,t=> .inr rfl
 | p::l,t0,t=>by
  unfold setE
  rcases zc1 l (t0.set p.1 p.2) t with ⟨v,h1,h2⟩|h
  ·exact .inl ⟨v,List.mem_cons_of_mem _ h1,h2⟩
  ·rw [h,zbn]
   by_cases hi:t=p.1
   ·rw [if_pos hi];exact .inl ⟨p.2,by rw [hi];exact List.mem_cons_self ..,rfl⟩
   ·rw [if_neg hi];exact .inr rfl
theorem zfY {N:Nat}: ∀ {l:List (Nat×AV)},zaF N l=true→ ∀s∈l,s.1<N
 | [], _,s,h=>by cases h
 | p::l,hl,s,h=>by
  unfold zaF at hl
  split at hl
  ·rename_i hb
   rcases List.mem_cons.1 h with rfl|h
   ·rwa [Nat.blt_eq] at hb
   ·exact zfY hl s h
  ·cases hl
theorem zmI {N:Nat}: ∀ {l:List Nat},zvN N l=true→ ∀s∈l,s<N
 | [], _,s,h=>by cases h
 | p::l,hl,s,h=>by
  unfold zvN at hl
  split at hl
  ·rename_i hb
   rcases List.mem_cons.1 h with rfl|h
   ·rwa [Nat.blt_eq] at hb
   ·exact zmI hl s h
  ·cases hl
theorem zm9 {N:Nat}: ∀ {l:List LEnd},zwq N l=true→ ∀d∈l,zaF N d.slots=true
 | [], _,s,h=>by cases h
 | p::l,hl,s,h=>by
  unfold zwq at hl
  split at hl
  ·rename_i hb
   rcases List.mem_cons.1 h with rfl|h
   ·exact hb
   ·exact zm9 hl s h
  ·cases hl
theorem zhQ {N:Nat} {env:T AV}: ∀ {l:List (Nat×AV)},ziB N env l=true→ ∀s∈l,s.1<N∧zaU env s.1=s.2∧s.2≠ .junk
 | [], _,s,h=>by cases h
 | p::l,hl,s,h=>by
  unfold ziB at hl
  split at hl
  ·rename_i hb hv hj
   rcases List.mem_cons.1 h with rfl|h
   ·exact ⟨by rwa [Nat.blt_eq] at hb,by rw [←ztD];exact AV.beq_eq hv,fun e=>by rw [e] at hj;cases hj⟩
   ·exact zhQ hl s h
  ·cases hl
theorem zqG: ∀ {l m:List Nat},zvA l m=true→l=m
 | [], [], _=>rfl
 | a::l,b::m,h=>by
  unfold zvA at h
  split at h
  ·rename_i hb;rw [zaw hb,zqG h]
  ·cases h
 | [], _::_,h=>by cases h
 | _::_,[],h=>by cases h
theorem zbY: ∀ {l:List (Nat×AV)},zaq l=true→ ∀s∈l,s.2.small=true
 | [], _,s,h=>by cases h
 | p::l,hl,s,h=>by
  unfold zaq at hl
  split at hl
  ·rename_i hb
   rcases List.mem_cons.1 h with rfl|h
   ·exact hb
   ·exact zbY hl s h
  ·cases hl
theorem zel: ∀ {l:List LEnd},zdH l=true→ ∀d∈l,d.test.small=true∧zaq d.slots=true
 | [], _,s,h=>by cases h
 | p::l,hl,s,h=>by
  unfold zdH at hl
  split at hl
  ·rename_i hb hc
   rcases List.mem_cons.1 h with rfl|h
   ·exact ⟨hb,hc⟩
   ·exact zel hl s h
  ·cases hl
theorem zmA {ρ:Val} {α:Type} (e:SB×α) (l:List (SB×α)):znR ρ (e::l)=if e.1.den ρ=true then some e.2 else znR ρ l:=by
 obtain ⟨b,x⟩:=e
 show (match b with| .lit true=>some x|b=>if b.den ρ=true then some x else znR ρ l)=_
 split
 ·rfl
 ·rfl
theorem zbw {ρ:Val} (e:LEnd) (l:List LEnd):zlk ρ (e::l)=if e.test.den ρ=true then some e else zlk ρ l:=zmA _ _
theorem zkc {ρ:Val}: ∀ {l:List LEnd} {d:LEnd},zlk ρ l=some d→d∈l
 | [], d,h=>by cases h
 | e::l,d,h=>by
  rw [zbw] at h
  split at h
  ·cases h;exact List.mem_cons_self ..
  ·exact List.mem_cons_of_mem _ (zkc h)
theorem zqE {ρ:Val} {m:Nat→Bool} {e:LEnt} {N:Nat} {env:T AV} {H:Heap}: ∀ {l:List LEnd} {d:LEnd},zdH l=true→zlk ρ l=some d→znR (ρ.mark m) (e.ans N env H l)=some (d.ex,e.env d N env,(e.ent d).heap H)
 | [], d,_,h=>by cases h
 | e0::l,d,hs,h=>by
  have hs0:=(zel hs e0 (List.mem_cons_self ..)).1
  unfold zdH at hs
  split at hs
  case h_2=>cases hs
  rw [zbw] at h
  unfold LEnt.ans
  rw [zmA]
  simp only [SB.den_mark ρ m _ hs0]
  split at h
  ·rename_i ht
   cases h
   rw [if_pos ht]
  ·rename_i ht
   rw [if_neg ht]
   exact zqE hs h
theorem zfw {P:Program} {ρ:Val} {w0:World} {K:Nat→Prop} {g:Gho} (m:Nat→Bool) {l:List LEnt} (hs:zan l=true) (h:zmK P ρ w0 K g l):zsv P (ρ.mark m) (cxOf w0 K g) (zaC l):=by
 refine ⟨fun _ _ _ _=>rfl,fun p N env H r c hc hr j a w hi he=> ?_⟩
 unfold zaC at hr
 split at hr
 ·cases hr
 induction l with
 | nil=>cases hr
 | cons e l ih=>
  unfold zan at hs
  split at hs
  case h_2=>cases hs
  rename_i h1 h2 h3
  unfold zBr at hr
  split at hr
  case h_2=>exact ih hs h.2 hr
  rename_i hf
  cases hr
  unfold LEnt.fits at hf
  split at hf
  ·cases hf
  ·cases hf
  rename_i hp hN
  have hp:=zqG hp
  have hN:=zaw hN
  subst hp hN
  split at hf
  case h_2=>cases hf
  rename_i f1 f2 f3 f4
  split at hf
  case h_2=>cases hf
  rename_i f5 f6 f7
  have f4:=zaw f4
  have f6:=Nat.le_of_ble_eq_true f6
  have hdf:a.defers= []:=he.dfr.none (by unfold zaU;rw [f5])
  have hG:=hi.gho
  rw [f4] at hG
  obtain ⟨F,g1,g2⟩:=hG
  have hnone: ∀k,H.nx≤k→j k= .none:=fun k hk=>by
   cases hjk:j k with
   | none=>rfl
   | some L=>have:=hi.dom k L hjk;omega
  have hbase:e.nopq≠0→H.nx=e.base:=fun hn=>by
   split at hf
   ·rename_i h0;exact absurd h0 hn
   ·exact zaw hf
  have hss:=zbY h1
  have hsl: ∀s∈e.slots,s.1<e.n∧R ρ j s.2 (a.tmps.getD s.1 undef):=fun s hs'=>by
   obtain ⟨q1,q2,q3⟩:=zhQ f1 s hs'
   refine ⟨q1,?_⟩
   have:=he.get s.1 (by omega)
   rw [q2] at this
   exact (R_mark m (hss s hs')).1 (this.resolve_left q3)
  have hrw: ∀r∈e.rows,∀L,j r.1=some L→ ¬F L.blk∧ ∃vals,RL ρ j r.2 vals∧Row w L vals:=fun r hr L hL=>by
   have hri:=zb5 f7 hr
   obtain ⟨vals,arr,e',fr,q1,q2,q3,_⟩:=hi.rowOut hL hri
   refine ⟨fun hF=> ?_,vals,(RL_mark m (zgF h3 r hr)).1 q2,arr,e',fr,q1,q3⟩
   obtain ⟨_,_,_,_,_,_,h5,_⟩:=zff hri
   exact (g1 _ hF).2 ⟨r.1,L,hL,hi.qrow hL h5,rfl⟩
  refine wp_mono (h.1 c hc j a w F H.nx he.size hdf hsl hrw hnone hbase (fun b hF=>(g1 b hF).1) hi.fr.size g2 hi.fr.old) fun ex a' w' hh=> ?_
  obtain ⟨d,qs,F',e1,e2,e3,e4,e5,e6,e7,e8,e9,e10⟩:=hh
  have hd:=zkc e1
  have hns:(cxOf w0 K g).G (e.ent d).gs' (jq j H.nx qs) w':=⟨F',fun b hF'=>⟨(e9 b hF').1,fun hm=>by
   have hm:=znY hnone hm
   rcases (e9 b hF').2 with hF|hF
   ·exact (g1 b hF).2 hm
   ·obtain ⟨k,L,k1,k2,k3⟩:=hm
    have:=hi.blk k L k1 k2
    omega⟩,e8⟩
  obtain ⟨i1,i2⟩:=Inv.ent (e:=e.ent d) hi f4 e6 hns (e10.mono fun b hb=>⟨(g1 b hb.1).2,hb.2⟩)
  refine ⟨d.ex,e.env d e.n env,(e.ent d).heap H,jq j H.nx qs,zqE h2 e1,e2,⟨e3,f6,fun t ht=> ?_,?_⟩,i1,i2⟩
  ·unfold LEnt.env
   have hds:=(zel h2 d hd).2
   rcases zc1 d.slots (ztu env e.keep (zd9 e.n .leaf)) t with ⟨v,q1,q2⟩|q
   ·rw [q2]
    exact .inr ((R_mark m (zbY hds _ q1)).2 (e7 _ q1))
   ·rw [q]
    rcases zeY (env:=env) e.keep (zd9 e.n .leaf) t with ⟨q1,q2⟩|q
    ·rw [q2,e5 t q1]
     exact (he.get t ht).imp_right (·.mono i2.sub)
    ·rw [q,zcw]
     by_cases hN:t<e.n
     ·rw [if_pos hN];exact .inl rfl
     ·rw [if_neg hN,Array.getD_eq_getD_getElem?,Array.getElem?_eq_none (by omega)]
      exact .inr zcE
  ·rw [e4]
   show DR (ρ.mark m) _ (zaU (e.env d e.n env) zaN) []
   have:zaU (e.env d e.n env) zaN=zbE:=by
    unfold LEnt.env
    rcases zc1 d.slots (ztu env e.keep (zd9 e.n .leaf)) zaN with ⟨v,q1,_⟩|q
    ·have:=zfY (zm9 f3 d hd) _ q1
     simp only at this
     omega
    ·rw [q]
     rcases zeY (env:=env) e.keep (zd9 e.n .leaf) zaN with ⟨q1,_⟩|q
     ·have:=zmI f2 _ q1
      omega
     ·rw [q,zcw,if_neg (by omega)];rfl
   rw [this]
   rfl
theorem zqY {P:Program} {ρ:Val} {w0:World} {K:Nat→Prop} {g:Gho} {e:LEnt} (hn:e.nopq=0) (hg: ∀d∈e.ends,d.gs=e.gs)
    (h: ∀c,zaI P e.p= .loop c→ ∀(j:J) (a:Act) (w:World) (F:Nat→Prop),a.tmps.size=e.n→a.defers= []→(∀s∈e.slots,s.1<e.n∧R ρ j s.2 (a.tmps.getD s.1 undef))→(∀r∈e.rows,∀L,j r.1=some L→ ¬F L.blk∧ ∃vals,RL ρ j r.2 vals∧Row w L vals)→g.fact e.gs (opqs j) F w→w0.heap.size≤w.heap.size→(∀i,i<w0.heap.size→ ¬K i→w.heap[i]? =w0.heap[i]?)→
      (Code.loop c).wp P (fun ex a' w'=> ∃d,zlk ρ e.ends=some d∧ex=exOf d.ex∧a'.tmps.size=e.n∧a'.defers= []∧(∀t∈e.keep,a'.tmps.getD t undef=a.tmps.getD t undef)∧(∀s∈d.slots,R ρ j s.2 (a'.tmps.getD s.1 undef))∧Below w.heap.size w w') a w):zG5 P ρ w0 K g e:=by
  intro c hc j a w F n h1 h2 h3 h4 _ _ hF hsz hf hold
  refine wp_mono (h c hc j a w F h1 h2 h3 h4 hf hsz hold) fun ex a' w' hh=> ?_
  obtain ⟨d,e1,e2,e3,e4,e5,e6,e7⟩:=hh
  refine ⟨d,[],F,e1,e2,e3,e4,e5,by rw [hn];rfl,fun s hs=>by rw [zfS];exact e6 s hs,?_,fun b hb=>⟨Nat.lt_of_lt_of_le (hF b hb) e7.size,.inl hb⟩,Mv.of_below e7⟩
  rw [zfS,hg d (zkc e1)]
  exact g.loc _ _ _ _ _ _ hf (fun _ _ h=>h) (fun b hb=>e7.block b (hF b hb)) e7.size
structure AEnt where
 t:TypeId
 s:AV
 n:Nat
 xs:List AV
 gs:Nat
 base:Nat
 nopq:Nat
 res:AV
 gs':Nat
def AEnt.ent (e:AEnt):Ent:=⟨0,[],e.gs,e.base,e.nopq,e.res,e.gs'⟩
def AEnt.fits (e:AEnt) (t:TypeId) (s:AV) (n:Nat) (xs:List AV) (H:Heap):Bool:=
 match Nat.beq t e.t,AV.beq s e.s,Nat.beq n e.n,Nat.beq H.gs e.gs with
 | true,true,true,true=>(match AV.beqL xs e.xs with
  | true=>(match e.nopq with
   | 0=>true
   | _+1=>Nat.beq H.nx e.base)
  | false=>false)
 | _,_,_,_=>false
def zaA:List AEnt→AOrc
 | [], _,_,_,_,_=>none
 | e::l,t,s,n,xs,H=>match e.fits t s n xs H with
  | true=>some (e.res,e.ent.heap H)
  | false=>zaA l t s n xs H
def zDa (P:Program) (ρ:Val) (w0:World) (K:Nat→Prop) (g:Gho) (e:AEnt):Prop:=
 ∀ (j:J) (w:World) (F:Nat→Prop) (n:Nat) (us:Value) (bb o cap:Nat) (vals:List Value) (ty:TypeId),R ρ j e.s us→zC9 w bb o vals→RL ρ j e.xs vals→(∀k,n≤k→j k=none)→(e.nopq≠0→n=e.base)→(∀b,F b→b<w.heap.size)→w0.heap.size≤w.heap.size→g.fact e.gs (opqs j) F w→
  ∃ u w' qs F',(Builtin.append_ #[e.t,e.t] ty #[us,.slice (some ⟨bb,o,none⟩) e.n cap]).run P w= .ok u w'∧qs.length=e.nopq∧R ρ (jq j n qs) e.res u∧g.fact e.gs' (opqs (jq j n qs)) F' w'∧(∀b,F' b→b<w'.heap.size∧(F b∨w.heap.size≤b))∧Mv (fun b=>F b∧(w0.heap.size≤b∨K b)) w w'
def zny (P:Program) (ρ:Val) (w0:World) (K:Nat→Prop) (g:Gho):List AEnt→Prop
 | [] => True
 | e::l=>zDa P ρ w0 K g e∧zny P ρ w0 K g l
def zao:List AEnt→Bool
 | [] => true
 | e::l=>match e.s.small,AV.smallL e.xs,e.res.small with|true,true,true=>zao l|_,_,_=>false
theorem zfK {P:Program} {ρ:Val} {w0:World} {K:Nat→Prop} {g:Gho} (m:Nat→Bool) {l:List AEnt} (hs:zao l=true) (h:zny P ρ w0 K g l):zw0 P (ρ.mark m) (cxOf w0 K g) (zaA l):=by
 intro t s n xs H r hr k hk j w us bb o cap vals ty hi hus hv hxs
 induction l with
 | nil=>cases hr
 | cons e l ih=>
  unfold zao at hs
  split at hs
  case h_2=>cases hs
  rename_i h1 h2 h3
  unfold zaA at hr
  split at hr
  case h_2=>exact ih hs h.2 hr
  rename_i hf
  cases hr
  unfold AEnt.fits at hf
  split at hf
  case h_2=>cases hf
  rename_i f1 f2 f3 f4
  split at hf
  case h_2=>cases hf
  rename_i f5
  have f1:=zaw f1
  have f2:=AV.beq_eq f2
  have f3:=zaw f3
  have f4:=zaw f4
  have f5:=AV.beqL_eq f5
  subst f1 f2 f3 f5
  have hG:=hi.gho
  rw [f4] at hG
  obtain ⟨F,g1,g2⟩:=hG
  have hnone: ∀k,H.nx≤k→j k= .none:=fun k hk=>by
   cases hjk:j k with
   | none=>rfl
   | some L=>have:=hi.dom k L hjk;omega
  have hbase:e.nopq≠0→H.nx=e.base:=fun hn=>by
   split at hf
   ·rename_i h0;exact absurd h0 hn
   ·exact zaw hf
  obtain ⟨u,w',qs,F',e1,e2,e3,e4,e5,e6⟩:=h.1 j w F H.nx us bb o cap vals ty ((R_mark m h1).1 hus) hv ((RL_mark m h2).1 hxs) hnone hbase (fun b hF=>(g1 b hF).1) hi.fr.size g2
  have hns:(cxOf w0 K g).G e.ent.gs' (jq j H.nx qs) w':=⟨F',fun b hF'=>⟨(e5 b hF').1,fun hm=>by
   have hm:=znY hnone hm
   rcases (e5 b hF').2 with hF|hF
   ·exact (g1 b hF).2 hm
   ·obtain ⟨k,L,k1,k2,k3⟩:=hm
    have:=hi.blk k L k1 k2
    omega⟩,e4⟩
  obtain ⟨i1,i2⟩:=Inv.ent (e:=e.ent) hi f4 e2 hns (e6.mono fun b hb=>⟨(g1 b hb.1).2,hb.2⟩)
  exact ⟨u,w',e1,e.res,e.ent.heap H,jq j H.nx qs,(R_mark m h3).2 e3,i1,i2,hk⟩
theorem zqH {P:Program} (hmo:P.follows .mixedOrders=true) {orc:FuncId→List AV→Heap→Option (List (AV×Heap))} {lorc:LOrc} {aorc:AOrc} {x:Cx} {ρ:Val} {w:World} {n:Nat} {f:FuncId} {args:List AV} {vals:List Value} {H:Heap} {j:J} {ls:List Leaf} {asm:List (SB×Bool)} {ps:List (List (SB×Bool)×Nat)}
  (hor: ∀m,zgf P (ρ.mark m) x orc) (hlo: ∀m,zsv P (ρ.mark m) x lorc) (hao: ∀m,zw0 P (ρ.mark m) x aorc) (hi: ∀m,Inv (ρ.mark m) x j H w) (ha: ∀m,RL (ρ.mark m) j args vals) (ht:Told ρ asm)
  (h:(evL P orc lorc aorc n (.call f args H (zaK ls 0))).paths asm=some ps):
  Calls P f vals.toArray w fun e w'=> ∃p∈ps,Told ρ p.1∧ ∃l,ls[p.2]? =some l∧ ∃m u v j' H',e= .returned u∧R (ρ.mark m) j' v u∧Inv (ρ.mark m) x j' H' w'∧St j H j' H'∧l.fits v H'=true:=by
 classical
 let m:Nat→Bool:=fun k=>decide (∃p∈ps,1000000+p.2=k∧Told ρ p.1)
 have hm: ∀p∈ps,Told ρ p.1→m (1000000+p.2)=true:=fun p hp ht=>by
  show decide _=true
  exact decide_eq_true ⟨p,hp,rfl,ht⟩
 have hd:=paths_den hm h (fun q hq=>hq) ht
 have hg:=zg5 (w0:=x) (hor m) (hlo m) (hao m) (fun n rec hg=>zj9 hmo hg) n
 refine Calls.mono ((hg.call f args H (zaK ls 0) hd).2 j w vals (hi m) (ha m)) fun e w' he=> ?_
 obtain ⟨u,rfl,v,H',j',h1,h2,h3,h4⟩:=he
 obtain ⟨k,l,h5,h6,h7⟩:=zhC h4
 have h7:(if 1000000+(0+k)<1000000 then ρ.b (1000000+(0+k)) else m (1000000+(0+k)))=true:=h7
 rw [if_neg (by omega)] at h7
 obtain ⟨p,hp,hk,hto⟩:=of_decide_eq_true h7
 have:p.2=k:=by omega
 subst this
 exact ⟨p,hp,hto,l,h5,m,u,v,j',H',rfl,h1,h2,h3,h6⟩
theorem zdA {P:Program} {ρ:Val} {w:World} {K:Nat→Prop} {g:Gho} {bl:List (Nat×Nat)} {shs:List Sh} {gs:Nat} {ents:List Ent} {lents:List LEnt} {aents:List AEnt} {n:Nat} {f:FuncId} {args:List AV} {vals:List Value} {ls:List Leaf} {asm:List (SB×Bool)} {ps:List (List (SB×Bool)×Nat)}
  (hmo:P.follows .mixedOrders=true)
  (h:(evL P (zau ents) (zaC lents) (zaA aents) n (.call f args (zar gs shs) (zaK ls 0))).ways asm=some ps)
  (hs:(zah shs&&zae ents&&zan lents&&zao aents&&AV.smallL args&&zaj ls)=true)
  (hK: ∀b,K b→b<w.heap.size) (ho:ShsOk ρ (jOf bl) (cxOf w K g) bl shs) (hap:apart bl shs) (hG:g.G gs (jOf bl) w) (he:zkR P ρ w K g ents) (hl:zmK P ρ w K g lents) (haa:zny P ρ w K g aents) (ha:RL ρ (jOf bl) args vals) (ht:Told ρ asm):
  Calls P f vals.toArray w fun e w'=> ∃p∈ps,Told ρ p.1∧ ∃l,ls[p.2]? =some l∧ ∃j,zhl ρ w K g bl l e w' j:=by
 simp only [Bool.and_eq_true] at hs
 obtain ⟨⟨⟨⟨⟨s1,s2⟩,s5⟩,s9⟩,s3⟩,s4⟩:=hs
 unfold Ob.ways at h
 cases hps:(evL P (zau ents) (zaC lents) (zaA aents) n (.call f args (zar gs shs) (zaK ls 0))).paths asm with
 | none=>rw [hps] at h;cases h
 | some ps0=>
 rw [hps] at h
 cases h
 have h:=hps
 refine Calls.mono (zqH (x:=cxOf w K g) hmo (fun m=>ze0 (zco m s2 he)) (fun m=>zfw m s5 hl) (fun m=>zfK m s9 haa) (fun m=>zeR hK (zcQ m s1 ho) hap hG) (fun m=>(RL_mark m s3).2 ha) ht h) fun e w' hh=> ?_
 obtain ⟨p,hp,hto,l,hl,m,u,v,j',H',rfl,h1,h2,h3,h4⟩:=hh
 obtain ⟨x1,x2,x3,x4⟩:=zbJ s4 hl
 exact ⟨(p.1.drop asm.length,p.2),zcp hp,fun c hc=>hto c (List.mem_of_mem_drop hc),l,hl,j',zg8 x1 x2 x3 x4 h1 h2 h3 h4⟩
structure zbe where
 ex:Ex
 slots:List Nat
 dfr:Option AV
 leaf:Leaf
def exEq:Ex→Ex→Bool
 | .normal,.normal=>true
 | .ret,.ret=>true
 | .exit a,.exit b=>Nat.beq a b
 | _,_=>false
def zBV (env:T AV):List Nat→List AV
 | [] => []
 | t::l=>getE env t::zBV env l
def zmU (env:T AV):List Nat→Bool
 | [] => true
 | t::l=>match Nat.blt t zaN,zA4 (getE env t) with|true,true=>zmU env l|_,_=>false
def zr4 (env:T AV) (d:Option AV):Bool:=
 match env.get zaN,d with
 | none,none=>true
 | some v,some u=>AV.beq v u
 | _,_=>false
def DRo (ρ:Val) (j:J):Option AV→List Deferred→Prop
 | none,ds=>ds= []
 | some v,ds=>DR ρ j v ds
def zaz:Option AV→Bool
 | none=>true
 | some v=>v.small
def zaG:List zbe→Nat→KC
  | [], _, _, _, _ => .bad 95 ""
  | l::r,i,ex,env,H=>match exEq ex l.ex,zr4 env l.dfr,zmU env l.slots with
    | true,true,true=>(match l.leaf.fits (.tup (zBV env l.slots)) H with
      | true => zev (1000000 + i) fun n => .ite (.var n) .ok (.bad 96 "")
      | false=>zaG r (Nat.succ i) ex env H)
    | _,_,_=>zaG r (Nat.succ i) ex env H
def envS (N:Nat) (slots:List (Nat×AV)) (d:Option AV):T AV:=
 match d with
 | none=>setE slots (zd9 N .leaf)
 | some v=>(setE slots (zd9 N .leaf)).set zaN v
def zal:List zbe→Bool
 | [] => true
 | l::r=>match zaj [l.leaf],zaz l.dfr with|true,true=>zal r|_,_=>false
theorem zc4: ∀ {ls:List zbe} {i:Nat} {l:zbe},zal ls=true→ls[i]? =some l→zaj [l.leaf]=true∧zaz l.dfr=true
 | [], _,_,_,h=>by cases h
 | x::r,i,l,hx,h=>by
  unfold zal at hx
  split at hx
  case h_2=>cases hx
  rename_i h1 h2
  cases i with
  | zero=>cases h;exact ⟨h1,h2⟩
  | succ i=>exact zc4 hx (by simpa using h)
theorem zJq {a b:Ex} (h:exEq a b=true):a=b:=by
 cases a<;>cases b<;>simp only [exEq] at h<;>first|rfl|cases h|rw [zaw h]
theorem zge {ρ:Val} {ex:Ex} {env:T AV} {H:Heap}: ∀ {ls:List zbe} {i:Nat},Ob.den ρ (zaG ls i ex env H)→ ∃k l,ls[k]? =some l∧ex=l.ex∧zr4 env l.dfr=true∧zmU env l.slots=true∧l.leaf.fits (.tup (zBV env l.slots)) H=true∧ρ.b (1000000+(i+k))=true
 | [], i,h=>h.elim
 | l::r,i,h=>by
  unfold zaG at h
  have later:Ob.den ρ (zaG r (Nat.succ i) ex env H)→ ∃k l',(l::r)[k]? =some l'∧ex=l'.ex∧zr4 env l'.dfr=true∧zmU env l'.slots=true∧l'.leaf.fits (.tup (zBV env l'.slots)) H=true∧ρ.b (1000000+(i+k))=true:=fun h=>by
   obtain ⟨k,l',h1,h2,h3,h4,h5,h6⟩:=zge h
   exact ⟨k+1,l',h1,h2,h3,h4,h5,by rw [show i+(k+1)=Nat.succ i+k by omega];exact h6⟩
  split at h
  ·rename_i e1 e2 e3
   split at h
   ·rename_i hf
    rw [zcg] at h
    refine ⟨0,l,rfl,zJq e1,e2,e3,hf,?_⟩
    cases hb:ρ.b (1000000+(i+0)) with
    | true=>rfl
    | false=>exact (h.2 hb).elim
   ·exact later h
  ·exact later h
theorem ztC {ρ:Val} {j:J} {N:Nat} {env:T AV} {a:Act} (he:ER ρ j N env a): ∀ {l:List Nat},zmU env l=true→RL ρ j (zBV env l) (l.map fun t=>a.tmps.getD t undef)
 | [], _=>RL.nil
 | t::l,h=>by
  unfold zmU at h
  split at h
  case h_2=>cases h
  rename_i h1 h2
  rw [Nat.blt_eq] at h1
  exact zab ((he.get t (by omega)).resolve_left fun e=>by rw [ztD,e] at h2;cases h2) (ztC he h)
theorem zrZ {N:Nat} {slots:List (Nat×AV)} (hle:N≤zaN) (hlt:zaF N slots=true):zaU (setE slots (zd9 N .leaf)) zaN=zbE:=by
 rcases zc1 slots (zd9 N .leaf) zaN with ⟨v,q1,_⟩|q
 ·have:=zfY hlt _ q1
  simp only at this
  omega
 ·rw [q,zcw,if_neg (by omega)];rfl
theorem zCl {ρ:Val} {j:J} {N:Nat} {slots:List (Nat×AV)} {d:Option AV} {a:Act} (hN:a.tmps.size=N) (hd:DRo ρ j d a.defers) (hle:N≤zaN) (hlt:zaF N slots=true) (ha: ∀s∈slots,R ρ j s.2 (a.tmps.getD s.1 undef)):ER ρ j N (envS N slots d) a:=by
 have get: ∀t,t≠zaN→zaU (setE slots (zd9 N .leaf)) t= .junk∨R ρ j (zaU (setE slots (zd9 N .leaf)) t) (a.tmps.getD t undef):=fun t ht=>by
  rcases zc1 slots (zd9 N .leaf) t with ⟨v,q1,q2⟩|q
  ·rw [q2];exact .inr (ha _ q1)
  ·rw [q,zcw]
   by_cases h:t<N
   ·rw [if_pos h];exact .inl rfl
   ·rw [if_neg h,Array.getD_eq_getD_getElem?,Array.getElem?_eq_none (by omega)]
    exact .inr zcE
 cases d with
 | none=>
  have hd:a.defers= []:=hd
  refine ⟨hN,hle,get,?_⟩
  show DR ρ j (zaU (setE slots (zd9 N .leaf)) zaN) _
  rw [hd,zrZ hle hlt]
  rfl
 | some v=>
  refine ⟨hN,hle,fun t ht=> ?_,?_⟩
  ·show zaU ((setE slots (zd9 N .leaf)).set zaN v) t= .junk∨R ρ j (zaU ((setE slots (zd9 N .leaf)).set zaN v) t) _
   rw [zbn,if_neg ht]
   exact get t ht
  ·show DR ρ j (zaU ((setE slots (zd9 N .leaf)).set zaN v) zaN) _
   rw [zbn,if_pos rfl]
   exact hd
theorem ztZ {ρ:Val} {j:J} (m:Nat→Bool): ∀ {ds:List Deferred} {v:AV},v.small=true→(DR (ρ.mark m) j v ds↔DR ρ j v ds)
 | [], _,_=>Iff.rfl
 | _::ds,v,hs=>by
  constructor
  ·rintro ⟨g,args,rest,cap,rfl,e2,e3,e4⟩
   unfold AV.small AV.smallL at hs
   split at hs
   case h_2=>cases hs
   rename_i h1
   unfold AV.small at h1
   split at h1
   case h_2=>cases h1
   unfold AV.smallL at hs
   split at hs
   case h_2=>cases hs
   rename_i h2
   exact ⟨g,args,rest,cap,rfl,e2,(RL_mark m h1).1 e3,(ztZ m h2).1 e4⟩
  ·rintro ⟨g,args,rest,cap,rfl,e2,e3,e4⟩
   unfold AV.small AV.smallL at hs
   split at hs
   case h_2=>cases hs
   rename_i h1
   unfold AV.small at h1
   split at h1
   case h_2=>cases h1
   unfold AV.smallL at hs
   split at hs
   case h_2=>cases hs
   rename_i h2
   exact ⟨g,args,rest,cap,rfl,e2,(RL_mark m h1).2 e3,(ztZ m h2).2 e4⟩
theorem ziT {ρ:Val} {j:J} (m:Nat→Bool) {ds:List Deferred} {v:Option AV} (hs:zaz v=true):DRo (ρ.mark m) j v ds↔DRo ρ j v ds:=by
 cases v with
 | none=>exact Iff.rfl
 | some v=>exact ztZ m hs
theorem zax {P:Program} {ρ:Val} {w:World} {K:Nat→Prop} {g:Gho} {bl:List (Nat×Nat)} {shs:List Sh} {gs:Nat} {ents:List Ent} {lents:List LEnt} {aents:List AEnt} {n:Nat} {p:List Nat} {N:Nat} {slots:List (Nat×AV)} {dfr:Option AV} {ls:List zbe} {asm:List (SB×Bool)} {ps:List (List (SB×Bool)×Nat)}
  (hmo:P.follows .mixedOrders=true)
  (h:(evL P (zau ents) (zaC lents) (zaA aents) n (.code (zaI P p) p N (envS N slots dfr) (zar gs shs) (zaG ls 0))).ways asm=some ps)
  (hs:(zah shs&&zae ents&&zan lents&&zao aents&&zaq slots&&zal ls&&zaF N slots&&Nat.ble N zaN&&zaz dfr)=true)
  (hK: ∀b,K b→b<w.heap.size) (ho:ShsOk ρ (jOf bl) (cxOf w K g) bl shs) (hap:apart bl shs) (hG:g.G gs (jOf bl) w) (he:zkR P ρ w K g ents) (hl:zmK P ρ w K g lents) (haa:zny P ρ w K g aents)
  {a:Act} (hN:a.tmps.size=N) (hd:DRo ρ (jOf bl) dfr a.defers) (ha: ∀s∈slots,R ρ (jOf bl) s.2 (a.tmps.getD s.1 undef)) (ht:Told ρ asm):
  (zaI P p).wp P (fun ex a' w'=> ∃q∈ps,Told ρ q.1∧ ∃l,ls[q.2]? =some l∧ex=exOf l.ex∧a'.tmps.size=N∧ ∃j,DRo ρ j l.dfr a'.defers∧zhl ρ w K g bl l.leaf (.returned (.tuple (l.slots.map fun t=>a'.tmps.getD t undef).toArray)) w' j) a w:=by
 simp only [Bool.and_eq_true] at hs
 obtain ⟨⟨⟨⟨⟨⟨⟨⟨s1,s2⟩,s5⟩,s9⟩,s3⟩,s4⟩,s6⟩,s7⟩,s8⟩:=hs
 have s7:=Nat.le_of_ble_eq_true s7
 unfold Ob.ways at h
 cases hps:(evL P (zau ents) (zaC lents) (zaA aents) n (.code (zaI P p) p N (envS N slots dfr) (zar gs shs) (zaG ls 0))).paths asm with
 | none=>rw [hps] at h;cases h
 | some ps0=>
 rw [hps] at h
 cases h
 have h:=hps
 classical
 let m:Nat→Bool:=fun k=>decide (∃p∈ps0,1000000+p.2=k∧Told ρ p.1)
 have hm: ∀p∈ps0,Told ρ p.1→m (1000000+p.2)=true:=fun p hp ht=>by
  show decide _=true
  exact decide_eq_true ⟨p,hp,rfl,ht⟩
 have hdn:=paths_den hm h (fun q hq=>hq) ht
 have hg:=zg5 (w0:=cxOf w K g) (ze0 (zco m s2 he)) (zfw m s5 hl) (zfK m s9 haa) (fun n rec hg=>zj9 hmo hg) n
 refine wp_mono (hg.code _ _ _ _ _ _ rfl hdn (jOf bl) a w (zeR hK (zcQ m s1 ho) hap hG) (zCl hN ((ziT m s8).2 hd) s7 s6 fun s hs=>(R_mark m (zbY s3 s hs)).2 (ha s hs))) fun ex a' w' hh=> ?_
 obtain ⟨x,env',H',j',rfl,h1,h2,h3,h4⟩:=hh
 obtain ⟨k,l,h5,h6,h7,h8,h9,h10⟩:=zge h4
 have h10:(if 1000000+(0+k)<1000000 then ρ.b (1000000+(0+k)) else m (1000000+(0+k)))=true:=h10
 rw [if_neg (by omega)] at h10
 obtain ⟨q,hq,hk,hto⟩:=of_decide_eq_true h10
 have:q.2=k:=by omega
 subst this
 obtain ⟨y1,y2⟩:=zc4 s4 h5
 obtain ⟨x1,x2,x3,x4⟩:=zbJ (i:=0) y1 rfl
 refine ⟨(q.1.drop asm.length,q.2),zcp hq,fun c hc=>hto c (List.mem_of_mem_drop hc),l,h5,by rw [h6],h1.size,j',(ziT m y2).1 ?_,zg8 x1 x2 x3 x4 (zcz (ztC h1 h8)) h2 h3 h9⟩
 have hdf:=h1.dfr
 unfold zr4 at h7
 unfold zaU at hdf
 split at h7
 ·rename_i e1 e2
  rw [e1] at hdf
  rw [e2]
  exact hdf.none rfl
 ·rename_i v u e1 e2
  rw [e1] at hdf
  rw [e2,←AV.beq_eq h7]
  exact hdf
 ·cases h7
theorem zbl {P:Program} {c:Code} {Q:Exit→Act→World→Prop} {α:Type} (I:α→Act→World→Prop) (μ:α→Nat)
  (h: ∀x a w,I x a w→c.wp P (fun ex a' w'=>match ex with| .normal=> ∃x',μ x'<μ x∧I x' a' w'|ex=>Q ex a' w') a w) (x:α) (a:Act) (w:World) (hI:I x a w):(Code.loop c).wp P Q a w:=by
 have key: ∀n x a w,μ x<n→I x a w→Code.rounds P c Q n a w:=by
  intro n
  induction n with
  | zero=>intro x a w hn;omega
  | succ n ih=>
   intro x a w hn hI
   refine wp_mono (h x a w hI) fun ex a' w' hh=> ?_
   cases ex with
   | normal=>
    obtain ⟨x',h1,h2⟩:=hh
    exact ih x' a' w' (by omega) h2
   | _=>exact hh
 exact wp_loop_rounds (μ x+1) (key (μ x+1) x a w (Nat.lt_succ_self _) hI)
def zGB (P:Program) (p:List Nat):Nat×Nat:=
 match zaI P p with
 | .seq _ _=>(1,0)
 | .block id _=>(2,id)
 | .loop _=>(3,0)
 | .cond _ _ _=>(4,0)
 | _=>(0,0)
theorem zd5 {P:Program} {p:List Nat} (hk:(zGB P p).1=3):zaI P p= .loop (zaI P (0::p)):=by
 cases hc:zaI P p with
 | loop x=>rw [zbK hc (by simp)];rfl
 | _=>unfold zGB at hk;rw [hc] at hk;cases hk
theorem zfs {P:Program} {ρ:Val} {w0:World} {K:Nat→Prop} {g:Gho} {e:LEnt} (h:zG5 P ρ w0 K g e) (hl: ∃c,zaI P e.p= .loop c:=by exact ⟨_,Go.Dw.zd5 (by kernel_rfl)⟩):zlv P ρ w0 K g e:=by
 obtain ⟨c0,hc0⟩:=hl
 intro c hc
 rw [hc0] at hc
 subst hc
 exact h c0 hc0
theorem zd4 {P:Program} {ρ:Val} {w0:World} {K:Nat→Prop} {g:Gho} {e:LEnt} (hn:e.nopq=0) (hg: ∀d∈e.ends,d.gs=e.gs)
    (h: ∀c,zaI P e.p= .loop c→ ∀(j:J) (a:Act) (w:World) (F:Nat→Prop),a.tmps.size=e.n→a.defers= []→(∀s∈e.slots,s.1<e.n∧R ρ j s.2 (a.tmps.getD s.1 undef))→(∀r∈e.rows,∀L,j r.1=some L→ ¬F L.blk∧ ∃vals,RL ρ j r.2 vals∧Row w L vals)→g.fact e.gs (opqs j) F w→w0.heap.size≤w.heap.size→(∀i,i<w0.heap.size→ ¬K i→w.heap[i]? =w0.heap[i]?)→
      (Code.loop c).wp P (fun ex a' w'=> ∃d,zlk ρ e.ends=some d∧ex=exOf d.ex∧a'.tmps.size=e.n∧a'.defers= []∧(∀t∈e.keep,a'.tmps.getD t undef=a.tmps.getD t undef)∧(∀s∈d.slots,R ρ j s.2 (a'.tmps.getD s.1 undef))∧Below w.heap.size w w') a w) (hl: ∃c,zaI P e.p= .loop c:=by exact ⟨_,Go.Dw.zd5 (by kernel_rfl)⟩):zlv P ρ w0 K g e:=zfs (zqY hn hg h) hl
end Go.Dw
namespace Go.Proofs
open Go.Dw Go.RowKit
def Tryz.ckL (l:List (SE×Nat)):AV:= .sx 0 (lnv 0) 3 l
def Tryz.ckD:AV:= .tup [.func 118 [] [.ptr 1 0,.ptr 2 0],.tup []]
def Tryz.zhI (k:SE) (l:List (SE×Nat)):List (Nat×AV):= [(0,ckL l),(2,.ptr 1 0),(3,.ptr 2 0),(10,ckL l),(11,.int .i64 (lnv 0)),(12,.int .i64 k)]
def Tryz.zFE (e:SE) (r:List Sh):List Sh:= .own [.int .i64 e]:: .own [.int .u64 (u64v 2)]::r
def Tryz.ckEl (a n b:Nat):Sh:= .ro [.int .u64 (u64v a),.int .u32 (u32v n),.bool (.var b)]
end Go.Proofs
namespace Go.Proofs
open Go.Dw
def Tryz.zqi:List Ent:= []
def Tryz.zva:List Sh:= [.ro [.sx 1 (.lit 1) 2 [(.lit 0,2)]],.ro [.int .u64 (.lit 0),.int .u64 (.lit 4000)]]
def Tryz.zqj:List AV:= [.ptr 1 0,.int .u64 (u64v 3),.int .u64 (u64v 4)]
def Tryz.zEi:List (SB×Bool):= []
def Tryz.zAg:List Leaf:= [
 ⟨.bool (.lit true),[],[],0,[]⟩,
 ⟨.bool (.lit false),[],[],0,[]⟩]
def Tryz.zAf:List (List (SB×Bool)×Nat):= [
 ([((.cmp .geq (u64v 4) (.lit 1)),true),((.cmp .leq (u64v 4) (.lit 4000)),true),((.cmp .leq (u64v 3) (.bin .sub .u64 (.lit 4000) (u64v 4))),true)],0),
 ([((.cmp .geq (u64v 4) (.lit 1)),true),((.cmp .leq (u64v 4) (.lit 4000)),true),((.cmp .leq (u64v 3) (.bin .sub .u64 (.lit 4000) (u64v 4))),false)],1),
 ([((.cmp .geq (u64v 4) (.lit 1)),true),((.cmp .leq (u64v 4) (.lit 4000)),false)],1),
 ([((.cmp .geq (u64v 4) (.lit 1)),false)],1)]
theorem Tryz.zEh:(ev prog (zau zqi) 100000 (.call 11 zqj (zar 0 zva) (zaK zAg 0))).ways zEi=some zAf:=by kernel_rfl
theorem Tryz.zIl:(zah zva&&zae zqi&&AV.smallL zqj&&zaj zAg)=true:=by kernel_rfl
def Tryz.zuH:List Ent:= []
def Tryz.zzt:List Sh:= [ckEl 3 4 0,ckEl 5 6 1]
def Tryz.zgm:List (Nat×AV):= [(0,.sx 1 (lnv 0) 3 [(lnv 1,1)]),(1,.sx 2 (lnv 0) 3 [(lnv 1,2)]),(5,.int .i64 (lnv 1))]
def Tryz.zpn:List LEnt:= []
def Tryz.zpo:List AEnt:= []
def Tryz.zzu:Option AV:=none
def Tryz.zHU:List (SB×Bool):= [(.cmp .lss (lnv 1) (lnv 0),true)]
def Tryz.zGk:List zbe:= [
 ⟨.ret,[4],none,⟨.tup [.bool (.lit false)],[],[],0,[]⟩⟩,
 ⟨.normal,[0,1,5],none,⟨.tup [.sx 1 ((lnv 0)) 3 [((lnv 1),1)],.sx 2 ((lnv 0)) 3 [((lnv 1),2)],.int .i64 (.bin .add .i64 (lnv 1) (.lit 1))],[],[],0,[]⟩⟩]
def Tryz.zGj:List (List (SB×Bool)×Nat):= [
 ([((.and (.cmp .eql (u64v 3) (u64v 5)) (.and (.cmp .eql (u32v 4) (u32v 6)) (.beq (.var 0) (.var 1)))),false)],0),
 ([((.cmp .eql (u64v 3) (u64v 5)),true),((.cmp .eql (u32v 4) (u32v 6)),true),((.beq (.var 0) (.var 1)),true)],1)]
theorem Tryz.zHT:(evL prog (zau zuH) (zaC zpn) (zaA zpo) 100000 (.code (zaI prog [0,0,1,0,1,1,16]) [0,0,1,0,1,1,16] 26 (envS 26 zgm zzu) (zar 0 zzt) (zaG zGk 0))).ways zHU=some zGj:=by kernel_rfl
theorem Tryz.zKv:(zah zzt&&zae zuH&&zan zpn&&zao zpo&&zaq zgm&&zal zGk&&zaF 26 zgm&&Nat.ble 26 zaN&&zaz zzu)=true:=by kernel_rfl
def Tryz.zuG:List Ent:= []
def Tryz.zzr:List Sh:= []
def Tryz.zgl:List (Nat×AV):= [(0,.sx 1 (lnv 0) 3 []),(1,.sx 2 (lnv 0) 3 []),(5,.int .i64 (lnv 1))]
def Tryz.zpl:List LEnt:= []
def Tryz.zpm:List AEnt:= []
def Tryz.zzs:Option AV:=none
def Tryz.zHS:List (SB×Bool):= [(.cmp .lss (lnv 1) (lnv 0),false)]
def Tryz.zGi:List zbe:= [
 ⟨(.exit 0),[0],none,⟨.tup [.sx 1 ((lnv 0)) 3 []],[],[],0,[]⟩⟩]
def Tryz.zGh:List (List (SB×Bool)×Nat):= [
 ([], 0)]
theorem Tryz.zHR:(evL prog (zau zuG) (zaC zpl) (zaA zpm) 100000 (.code (zaI prog [0,0,1,0,1,1,16]) [0,0,1,0,1,1,16] 26 (envS 26 zgl zzs) (zar 0 zzr) (zaG zGi 0))).ways zHS=some zGh:=by kernel_rfl
theorem Tryz.zKu:(zah zzr&&zae zuG&&zan zpl&&zao zpm&&zaq zgl&&zal zGi&&zaF 26 zgl&&Nat.ble 26 zaN&&zaz zzs)=true:=by kernel_rfl
def Tryz.zvX:List Ent:= []
def Tryz.zBy:List Sh:= [.ro [.int .i64 (.var 3)],.ro [.int .i64 (.var 5)]]
def Tryz.zg0:List (Nat×AV):= [(0,.sx 1 (lnv 0) 1 [(lnv 1,1)]),(1,.sx 2 (lnv 0) 1 [(lnv 1,2)]),(5,.int .i64 (lnv 1))]
def Tryz.zrh:List LEnt:= []
def Tryz.zri:List AEnt:= []
def Tryz.zBz:Option AV:=none
def Tryz.zI7:List (SB×Bool):= [(.cmp .lss (lnv 1) (lnv 0),true)]
def Tryz.zGF:List zbe:= [
 ⟨.ret,[4],none,⟨.tup [.bool (.lit false)],[],[],0,[]⟩⟩,
 ⟨.normal,[0,1,5],none,⟨.tup [.sx 1 ((lnv 0)) 1 [((lnv 1),1)],.sx 2 ((lnv 0)) 1 [((lnv 1),2)],.int .i64 (.bin .add .i64 (lnv 1) (.lit 1))],[],[],0,[]⟩⟩]
def Tryz.zGE:List (List (SB×Bool)×Nat):= [
 ([((.cmp .neq (.var 3) (.var 5)),true)],0),
 ([((.cmp .neq (.var 3) (.var 5)),false)],1)]
theorem Tryz.zI6:(evL prog (zau zvX) (zaC zrh) (zaA zri) 100000 (.code (zaI prog [0,0,1,0,1,1,17]) [0,0,1,0,1,1,17] 26 (envS 26 zg0 zBz) (zar 0 zBy) (zaG zGF 0))).ways zI7=some zGE:=by kernel_rfl
theorem Tryz.zKY:(zah zBy&&zae zvX&&zan zrh&&zao zri&&zaq zg0&&zal zGF&&zaF 26 zg0&&Nat.ble 26 zaN&&zaz zBz)=true:=by kernel_rfl
def Tryz.zvW:List Ent:= []
def Tryz.zBw:List Sh:= []
def Tryz.zgZ:List (Nat×AV):= [(0,.sx 1 (lnv 0) 1 []),(1,.sx 2 (lnv 0) 1 []),(5,.int .i64 (lnv 1))]
def Tryz.zrf:List LEnt:= []
def Tryz.zrg:List AEnt:= []
def Tryz.zBx:Option AV:=none
def Tryz.zI5:List (SB×Bool):= [(.cmp .lss (lnv 1) (lnv 0),false)]
def Tryz.zGD:List zbe:= [
 ⟨(.exit 0),[0],none,⟨.tup [.sx 1 ((lnv 0)) 1 []],[],[],0,[]⟩⟩]
def Tryz.zGC:List (List (SB×Bool)×Nat):= [
 ([], 0)]
theorem Tryz.zI4:(evL prog (zau zvW) (zaC zrf) (zaA zrg) 100000 (.code (zaI prog [0,0,1,0,1,1,17]) [0,0,1,0,1,1,17] 26 (envS 26 zgZ zBx) (zar 0 zBw) (zaG zGD 0))).ways zI5=some zGC:=by kernel_rfl
theorem Tryz.zKX:(zah zBw&&zae zvW&&zan zrf&&zao zrg&&zaq zgZ&&zal zGD&&zaF 26 zgZ&&Nat.ble 26 zaN&&zaz zBx)=true:=by kernel_rfl
def Tryz.zwN:List Ent:= []
def Tryz.zCI:List Sh:= []
def Tryz.zwO:List AV:= [rg]
def Tryz.ztP:List (SB×Bool):= [(.cmp .neq (.flds [⟨1,0,18446744073709551615,0,4,0⟩] 0) (.lit 0),false),(.cmp .neq (.flds [⟨2,0,18446744073709551615,0,1,0⟩] 0) (.lit 0),false),(.cmp .neq (.flds [⟨3,0,18446744073709551615,0,2,0⟩] 0) (.lit 0),false),(.cmp .eql (.bin .and .i64 (szv 0) (.bin .sub .i64 (szv 0) (.lit 1))) (.lit 0),true),(.cmp .gtr (.bin .sub .u64 (.bin .mul .u64 (.lit 16) (szv 0)) (.lit 1)) (.bin .sub .u64 (.lit 18446744073709551615) (u64v 1)),false),(.cmp .gtr (.bin .sub .u64 (.bin .add .u64 (.lit 6) (.bin .mul .u64 (.lit 2) (szv 0))) (.lit 1)) (.bin .sub .u64 (.lit 18446744073709551615) (u64v 2)),false),(.cmp .gtr (.bin .sub .u64 (.bin .add .u64 (.lit 6) (.bin .mul .u64 (.lit 8) (szv 0))) (.lit 1)) (.bin .sub .u64 (.lit 18446744073709551615) (u64v 3)),false)]
def Tryz.zGS:List Leaf:= [
 ⟨.int .i64 (.lit 2),[],[],0,[]⟩,
 ⟨.int .i64 (.lit 0),[],[],0,[]⟩]
def Tryz.zGR:List (List (SB×Bool)×Nat):= [
 ([((.cmp .leq (u64v 2) (u64v 1)),true),((.cmp .lss (.bin .sub .u64 (u64v 1) (u64v 2)) (.bin .add .u64 (.lit 6) (.bin .mul .u64 (.lit 2) (szv 0)))),true)],0),
 ([((.cmp .leq (u64v 2) (u64v 1)),true),((.cmp .lss (.bin .sub .u64 (u64v 1) (u64v 2)) (.bin .add .u64 (.lit 6) (.bin .mul .u64 (.lit 2) (szv 0)))),false),((.cmp .leq (u64v 3) (u64v 1)),true),((.cmp .lss (.bin .sub .u64 (u64v 1) (u64v 3)) (.bin .add .u64 (.lit 6) (.bin .mul .u64 (.lit 8) (szv 0)))),true)],0),
 ([((.cmp .leq (u64v 2) (u64v 1)),true),((.cmp .lss (.bin .sub .u64 (u64v 1) (u64v 2)) (.bin .add .u64 (.lit 6) (.bin .mul .u64 (.lit 2) (szv 0)))),false),((.cmp .leq (u64v 3) (u64v 1)),true),((.cmp .lss (.bin .sub .u64 (u64v 1) (u64v 3)) (.bin .add .u64 (.lit 6) (.bin .mul .u64 (.lit 8) (szv 0)))),false),((.cmp .leq (u64v 3) (u64v 2)),true),((.cmp .lss (.bin .sub .u64 (u64v 2) (u64v 3)) (.bin .add .u64 (.lit 6) (.bin .mul .u64 (.lit 8) (szv 0)))),true)],0),
 ([((.cmp .leq (u64v 2) (u64v 1)),true),((.cmp .lss (.bin .sub .u64 (u64v 1) (u64v 2)) (.bin .add .u64 (.lit 6) (.bin .mul .u64 (.lit 2) (szv 0)))),false),((.cmp .leq (u64v 3) (u64v 1)),true),((.cmp .lss (.bin .sub .u64 (u64v 1) (u64v 3)) (.bin .add .u64 (.lit 6) (.bin .mul .u64 (.lit 8) (szv 0)))),false),((.cmp .leq (u64v 3) (u64v 2)),true),((.cmp .lss (.bin .sub .u64 (u64v 2) (u64v 3)) (.bin .add .u64 (.lit 6) (.bin .mul .u64 (.lit 8) (szv 0)))),false)],1),
 ([((.cmp .leq (u64v 2) (u64v 1)),true),((.cmp .lss (.bin .sub .u64 (u64v 1) (u64v 2)) (.bin .add .u64 (.lit 6) (.bin .mul .u64 (.lit 2) (szv 0)))),false),((.cmp .leq (u64v 3) (u64v 1)),true),((.cmp .lss (.bin .sub .u64 (u64v 1) (u64v 3)) (.bin .add .u64 (.lit 6) (.bin .mul .u64 (.lit 8) (szv 0)))),false),((.cmp .leq (u64v 3) (u64v 2)),false),((.cmp .lss (.bin .sub .u64 (u64v 3) (u64v 2)) (.bin .add .u64 (.lit 6) (.bin .mul .u64 (.lit 2) (szv 0)))),true)],0),
 ([((.cmp .leq (u64v 2) (u64v 1)),true),((.cmp .lss (.bin .sub .u64 (u64v 1) (u64v 2)) (.bin .add .u64 (.lit 6) (.bin .mul .u64 (.lit 2) (szv 0)))),false),((.cmp .leq (u64v 3) (u64v 1)),true),((.cmp .lss (.bin .sub .u64 (u64v 1) (u64v 3)) (.bin .add .u64 (.lit 6) (.bin .mul .u64 (.lit 8) (szv 0)))),false),((.cmp .leq (u64v 3) (u64v 2)),false),((.cmp .lss (.bin .sub .u64 (u64v 3) (u64v 2)) (.bin .add .u64 (.lit 6) (.bin .mul .u64 (.lit 2) (szv 0)))),false)],1),
 ([((.cmp .leq (u64v 2) (u64v 1)),true),((.cmp .lss (.bin .sub .u64 (u64v 1) (u64v 2)) (.bin .add .u64 (.lit 6) (.bin .mul .u64 (.lit 2) (szv 0)))),false),((.cmp .leq (u64v 3) (u64v 1)),false),((.cmp .lss (.bin .sub .u64 (u64v 3) (u64v 1)) (.bin .mul .u64 (.lit 16) (szv 0))),true)],0),
 ([((.cmp .leq (u64v 2) (u64v 1)),true),((.cmp .lss (.bin .sub .u64 (u64v 1) (u64v 2)) (.bin .add .u64 (.lit 6) (.bin .mul .u64 (.lit 2) (szv 0)))),false),((.cmp .leq (u64v 3) (u64v 1)),false),((.cmp .lss (.bin .sub .u64 (u64v 3) (u64v 1)) (.bin .mul .u64 (.lit 16) (szv 0))),false),((.cmp .leq (u64v 3) (u64v 2)),true),((.cmp .lss (.bin .sub .u64 (u64v 2) (u64v 3)) (.bin .add .u64 (.lit 6) (.bin .mul .u64 (.lit 8) (szv 0)))),true)],0),
 ([((.cmp .leq (u64v 2) (u64v 1)),true),((.cmp .lss (.bin .sub .u64 (u64v 1) (u64v 2)) (.bin .add .u64 (.lit 6) (.bin .mul .u64 (.lit 2) (szv 0)))),false),((.cmp .leq (u64v 3) (u64v 1)),false),((.cmp .lss (.bin .sub .u64 (u64v 3) (u64v 1)) (.bin .mul .u64 (.lit 16) (szv 0))),false),((.cmp .leq (u64v 3) (u64v 2)),true),((.cmp .lss (.bin .sub .u64 (u64v 2) (u64v 3)) (.bin .add .u64 (.lit 6) (.bin .mul .u64 (.lit 8) (szv 0)))),false)],1),
 ([((.cmp .leq (u64v 2) (u64v 1)),true),((.cmp .lss (.bin .sub .u64 (u64v 1) (u64v 2)) (.bin .add .u64 (.lit 6) (.bin .mul .u64 (.lit 2) (szv 0)))),false),((.cmp .leq (u64v 3) (u64v 1)),false),((.cmp .lss (.bin .sub .u64 (u64v 3) (u64v 1)) (.bin .mul .u64 (.lit 16) (szv 0))),false),((.cmp .leq (u64v 3) (u64v 2)),false),((.cmp .lss (.bin .sub .u64 (u64v 3) (u64v 2)) (.bin .add .u64 (.lit 6) (.bin .mul .u64 (.lit 2) (szv 0)))),true)],0),
 ([((.cmp .leq (u64v 2) (u64v 1)),true),((.cmp .lss (.bin .sub .u64 (u64v 1) (u64v 2)) (.bin .add .u64 (.lit 6) (.bin .mul .u64 (.lit 2) (szv 0)))),false),((.cmp .leq (u64v 3) (u64v 1)),false),((.cmp .lss (.bin .sub .u64 (u64v 3) (u64v 1)) (.bin .mul .u64 (.lit 16) (szv 0))),false),((.cmp .leq (u64v 3) (u64v 2)),false),((.cmp .lss (.bin .sub .u64 (u64v 3) (u64v 2)) (.bin .add .u64 (.lit 6) (.bin .mul .u64 (.lit 2) (szv 0)))),false)],1),
 ([((.cmp .leq (u64v 2) (u64v 1)),false),((.cmp .lss (.bin .sub .u64 (u64v 2) (u64v 1)) (.bin .mul .u64 (.lit 16) (szv 0))),true)],0),
 ([((.cmp .leq (u64v 2) (u64v 1)),false),((.cmp .lss (.bin .sub .u64 (u64v 2) (u64v 1)) (.bin .mul .u64 (.lit 16) (szv 0))),false),((.cmp .leq (u64v 3) (u64v 1)),true),((.cmp .lss (.bin .sub .u64 (u64v 1) (u64v 3)) (.bin .add .u64 (.lit 6) (.bin .mul .u64 (.lit 8) (szv 0)))),true)],0),
 ([((.cmp .leq (u64v 2) (u64v 1)),false),((.cmp .lss (.bin .sub .u64 (u64v 2) (u64v 1)) (.bin .mul .u64 (.lit 16) (szv 0))),false),((.cmp .leq (u64v 3) (u64v 1)),true),((.cmp .lss (.bin .sub .u64 (u64v 1) (u64v 3)) (.bin .add .u64 (.lit 6) (.bin .mul .u64 (.lit 8) (szv 0)))),false),((.cmp .leq (u64v 3) (u64v 2)),true),((.cmp .lss (.bin .sub .u64 (u64v 2) (u64v 3)) (.bin .add .u64 (.lit 6) (.bin .mul .u64 (.lit 8) (szv 0)))),true)],0),
 ([((.cmp .leq (u64v 2) (u64v 1)),false),((.cmp .lss (.bin .sub .u64 (u64v 2) (u64v 1)) (.bin .mul .u64 (.lit 16) (szv 0))),false),((.cmp .leq (u64v 3) (u64v 1)),true),((.cmp .lss (.bin .sub .u64 (u64v 1) (u64v 3)) (.bin .add .u64 (.lit 6) (.bin .mul .u64 (.lit 8) (szv 0)))),false),((.cmp .leq (u64v 3) (u64v 2)),true),((.cmp .lss (.bin .sub .u64 (u64v 2) (u64v 3)) (.bin .add .u64 (.lit 6) (.bin .mul .u64 (.lit 8) (szv 0)))),false)],1),
 ([((.cmp .leq (u64v 2) (u64v 1)),false),((.cmp .lss (.bin .sub .u64 (u64v 2) (u64v 1)) (.bin .mul .u64 (.lit 16) (szv 0))),false),((.cmp .leq (u64v 3) (u64v 1)),true),((.cmp .lss (.bin .sub .u64 (u64v 1) (u64v 3)) (.bin .add .u64 (.lit 6) (.bin .mul .u64 (.lit 8) (szv 0)))),false),((.cmp .leq (u64v 3) (u64v 2)),false),((.cmp .lss (.bin .sub .u64 (u64v 3) (u64v 2)) (.bin .add .u64 (.lit 6) (.bin .mul .u64 (.lit 2) (szv 0)))),true)],0),
 ([((.cmp .leq (u64v 2) (u64v 1)),false),((.cmp .lss (.bin .sub .u64 (u64v 2) (u64v 1)) (.bin .mul .u64 (.lit 16) (szv 0))),false),((.cmp .leq (u64v 3) (u64v 1)),true),((.cmp .lss (.bin .sub .u64 (u64v 1) (u64v 3)) (.bin .add .u64 (.lit 6) (.bin .mul .u64 (.lit 8) (szv 0)))),false),((.cmp .leq (u64v 3) (u64v 2)),false),((.cmp .lss (.bin .sub .u64 (u64v 3) (u64v 2)) (.bin .add .u64 (.lit 6) (.bin .mul .u64 (.lit 2) (szv 0)))),false)],1),
 ([((.cmp .leq (u64v 2) (u64v 1)),false),((.cmp .lss (.bin .sub .u64 (u64v 2) (u64v 1)) (.bin .mul .u64 (.lit 16) (szv 0))),false),((.cmp .leq (u64v 3) (u64v 1)),false),((.cmp .lss (.bin .sub .u64 (u64v 3) (u64v 1)) (.bin .mul .u64 (.lit 16) (szv 0))),true)],0),
 ([((.cmp .leq (u64v 2) (u64v 1)),false),((.cmp .lss (.bin .sub .u64 (u64v 2) (u64v 1)) (.bin .mul .u64 (.lit 16) (szv 0))),false),((.cmp .leq (u64v 3) (u64v 1)),false),((.cmp .lss (.bin .sub .u64 (u64v 3) (u64v 1)) (.bin .mul .u64 (.lit 16) (szv 0))),false),((.cmp .leq (u64v 3) (u64v 2)),true),((.cmp .lss (.bin .sub .u64 (u64v 2) (u64v 3)) (.bin .add .u64 (.lit 6) (.bin .mul .u64 (.lit 8) (szv 0)))),true)],0),
 ([((.cmp .leq (u64v 2) (u64v 1)),false),((.cmp .lss (.bin .sub .u64 (u64v 2) (u64v 1)) (.bin .mul .u64 (.lit 16) (szv 0))),false),((.cmp .leq (u64v 3) (u64v 1)),false),((.cmp .lss (.bin .sub .u64 (u64v 3) (u64v 1)) (.bin .mul .u64 (.lit 16) (szv 0))),false),((.cmp .leq (u64v 3) (u64v 2)),true),((.cmp .lss (.bin .sub .u64 (u64v 2) (u64v 3)) (.bin .add .u64 (.lit 6) (.bin .mul .u64 (.lit 8) (szv 0)))),false)],1),
 ([((.cmp .leq (u64v 2) (u64v 1)),false),((.cmp .lss (.bin .sub .u64 (u64v 2) (u64v 1)) (.bin .mul .u64 (.lit 16) (szv 0))),false),((.cmp .leq (u64v 3) (u64v 1)),false),((.cmp .lss (.bin .sub .u64 (u64v 3) (u64v 1)) (.bin .mul .u64 (.lit 16) (szv 0))),false),((.cmp .leq (u64v 3) (u64v 2)),false),((.cmp .lss (.bin .sub .u64 (u64v 3) (u64v 2)) (.bin .add .u64 (.lit 6) (.bin .mul .u64 (.lit 2) (szv 0)))),true)],0),
 ([((.cmp .leq (u64v 2) (u64v 1)),false),((.cmp .lss (.bin .sub .u64 (u64v 2) (u64v 1)) (.bin .mul .u64 (.lit 16) (szv 0))),false),((.cmp .leq (u64v 3) (u64v 1)),false),((.cmp .lss (.bin .sub .u64 (u64v 3) (u64v 1)) (.bin .mul .u64 (.lit 16) (szv 0))),false),((.cmp .leq (u64v 3) (u64v 2)),false),((.cmp .lss (.bin .sub .u64 (u64v 3) (u64v 2)) (.bin .add .u64 (.lit 6) (.bin .mul .u64 (.lit 2) (szv 0)))),false)],1)]
theorem Tryz.zJO:(ev prog (zau zwN) 100000 (.call 72 zwO (zar 0 zCI) (zaK zGS 0))).ways ztP=some zGR:=by kernel_rfl
theorem Tryz.zLe:(zah zCI&&zae zwN&&AV.smallL zwO&&zaj zGS)=true:=by kernel_rfl
open Go.RowKit
theorem Tryz.mixed:prog.follows .mixedOrders=true:=by kernel_rfl
theorem Tryz.zIA {n:Int} (h: ∃k,k≤15∧n=2^k):zc5 .and .i64 n (IntKind.wrap .i64 (n-1))=0:=by
 obtain ⟨k,hk,rfl⟩:=h
 have:k=0∨k=1∨k=2∨k=3∨k=4∨k=5∨k=6∨k=7∨k=8∨k=9∨k=10∨k=11∨k=12∨k=13∨k=14∨k=15:=by omega
 rcases this with rfl|rfl|rfl|rfl|rfl|rfl|rfl|rfl|rfl|rfl|rfl|rfl|rfl|rfl|rfl|rfl<;>decide
def Tryz.rho (r:Rg) (is:List Int) (bs:List Bool) (vs:List Value):Val:=vof (r.n::r.d::r.v::r.c::is) bs vs
section
variable {r:Tryz.Rg} {is:List Int} {bs:List Bool} {vs:List Value}
theorem Tryz.zds (h:RgOk r):(szv 0).den (rho r is bs vs)=r.n:=zoo h.bnd.1 h.bnd.2
theorem Tryz.zen (h:RgOk r):(u64v 1).den (rho r is bs vs)=r.d:=zaH h.d0 (by have:=h.dE;have:=h.bnd;show r.d<_;omega)
theorem Tryz.zey (h:RgOk r):(u64v 2).den (rho r is bs vs)=r.v:=zaH h.v0 (by have:=h.vE;have:=h.bnd;show r.v<_;omega)
theorem Tryz.zez (h:RgOk r):(u64v 3).den (rho r is bs vs)=r.c:=zaH h.c0 (by have:=h.cE;have:=h.bnd;show r.c<_;omega)
end
theorem Tryz.zft {ρ:Val} {i n:Nat} (h0:0≤ρ.i i) (h1:ρ.i i<18446744073709551616):SE.den ρ (.flds [⟨i,0,18446744073709551615,0,n,0⟩] 0)=ρ.i i%2^n:=by
 obtain ⟨x,hx⟩:=Int.eq_ofNat_of_zero_le h0
 simp only [SE.den,zak,Fld.den,hx,Int.toNat_natCast,Nat.shiftRight_zero,Nat.shiftLeft_zero,Nat.or_zero]
 rw [hx] at h1
 have e:max 0 (min x 18446744073709551615)=x:=by omega
 rw [e]
 rfl
theorem Tryz.R_rg {r:Rg} {is:List Int} {bs:List Bool} {vs:List Value} {j:J} (h:RgOk r):R (rho r is bs vs) j rg r.val:=
 zlu (zab (zaO rfl) (zab (zac (zds h)) (zab (zac (zen h)) (zab (zac (zey h)) (zab (zac (zez h)) RL.nil)))))
theorem Tryz.zb1 (r:Rg) (h:RgOk r) (w:World):Calls prog 72 #[r.val] w fun e w'=>e= .returned (.int .i64 0)∧Below w.heap.size w w':=by
  have hb:=h.bnd
  obtain ⟨hpow,d0,v0,c0,d16,v2,c4,dE,vE,cE,dv,dc,vc⟩:=h
  have hr:RgOk r:=⟨hpow,d0,v0,c0,d16,v2,c4,dE,vE,cE,dv,dc,vc⟩
  have en:=zds (is:= []) (bs:= []) (vs:= []) hr
  have ed:=zen (is:= []) (bs:= []) (vs:= []) hr
  have ev:=zey (is:= []) (bs:= []) (vs:= []) hr
  have ec:=zez (is:= []) (bs:= []) (vs:= []) hr
  have l1:=zft (ρ:=rho r [] [] []) (i:=1) (n:=4) d0 (by show r.d<_;omega)
  have l2:=zft (ρ:=rho r [] [] []) (i:=2) (n:=1) v0 (by show r.v<_;omega)
  have l3:=zft (ρ:=rho r [] [] []) (i:=3) (n:=2) c0 (by show r.c<_;omega)
  have w1:IntKind.wrap .u64 (16*r.n)=16*r.n:=zaL (by omega) (by omega)
  have w2:IntKind.wrap .u64 (2*r.n)=2*r.n:=zaL (by omega) (by omega)
  have w3:IntKind.wrap .u64 (8*r.n)=8*r.n:=zaL (by omega) (by omega)
  have w4:IntKind.wrap .u64 (6+2*r.n)=6+2*r.n:=zaL (by omega) (by omega)
  have w5:IntKind.wrap .u64 (6+8*r.n)=6+8*r.n:=zaL (by omega) (by omega)
  have w6:IntKind.wrap .u64 (16*r.n-1)=16*r.n-1:=zaL (by omega) (by omega)
  have w7:IntKind.wrap .u64 (6+2*r.n-1)=6+2*r.n-1:=zaL (by omega) (by omega)
  have w8:IntKind.wrap .u64 (6+8*r.n-1)=6+8*r.n-1:=zaL (by omega) (by omega)
  have x1:IntKind.wrap .u64 (18446744073709551615-r.d)=18446744073709551615-r.d:=zaL (by omega) (by omega)
  have x2:IntKind.wrap .u64 (18446744073709551615-r.v)=18446744073709551615-r.v:=zaL (by omega) (by omega)
  have x3:IntKind.wrap .u64 (18446744073709551615-r.c)=18446744073709551615-r.c:=zaL (by omega) (by omega)
  have hpa:SE.den (rho r [] [] []) (.bin .and .i64 (szv 0) (.bin .sub .i64 (szv 0) (.lit 1)))=0:=by
    show zc5 .and .i64 (SE.den _ (szv 0)) (IntKind.wrap .i64 (SE.den _ (szv 0)-1))=0
    rw [en]
    exact zIA hpow
  have ht:Dw.Told (rho r [] [] []) ztP:=by
    unfold ztP
    simp only [zaa,zad,zbs,zbW,zbV,zaW,den_add,den_mul,zaf,l1,l2,l3,en,ed,ev,ec,hpa,w1,w2,w3,w4,w5,w6,w7,w8,x1,x2,x3]
    refine ⟨?_,?_,?_,by decide,?_,?_,?_,trivial⟩
    · show ((r.d%2^4) !=0)=false
      have:r.d%2^4=0:=d16
      rw [this];rfl
    · show ((r.v%2^1) !=0)=false
      have:r.v%2^1=0:=v2
      rw [this];rfl
    · show ((r.c%2^2) !=0)=false
      have:r.c%2^2=0:=c4
      rw [this];rfl
    all_goals (simp;omega)
  refine Calls.mono (zav (K:=fun _=>False) (g:=Gho.none) (bl:= []) (vals:= [r.val]) mixed zJO zLe (fun _ h=>h.elim) trivial trivial zaB trivial (zab (R_rg hr) RL.nil) ht) fun e w' hh=> ?_
  obtain ⟨p,hp,hto,l,hl,j,he⟩:=hh
  have hbel:=zam he (fun _ h=>h)
  unfold zGR at hp
  simp only [List.mem_cons,List.not_mem_nil,or_false] at hp
  have hleaf:p.2=1:=by
    rcases hp with rfl|rfl|rfl|rfl|rfl|rfl|rfl|rfl|rfl|rfl|rfl|rfl|rfl|rfl|rfl|rfl|rfl|rfl|rfl|rfl|rfl|rfl
    all_goals first
      | rfl
      | (exfalso
         simp only [zaa,zad,zc3,zaX,zbV,zcH,zaW,den_add,den_mul,zaf,en,ed,ev,ec,w1,w2,w3,w4,w5,zeB,decide_eq_true_eq,decide_eq_false_iff_not] at hto
         omega)
  rw [hleaf] at hl
  cases hl
  exact ⟨he.ret,hbel⟩
end Go.Proofs
namespace Go.Proofs
open Go.Dw
def Tryz.zui:List Ent:= [⟨72,[rg],0,0,0,.int .i64 (.lit 0),0⟩]
def Tryz.zyK:List Sh:= []
def Tryz.zuj:List AV:= [rg,.int .i64 (.lit 1),.int .i64 (ixv 4)]
def Tryz.zHt:List (SB×Bool):= [(.cmp .geq (ixv 4) (szv 0),false)]
def Tryz.zFY:List Leaf:= [
 ⟨.tup [.int .u64 (.bin .add .u64 (u64v 1) (.bin .mul .u64 (.lit 16) (ixv 4))),.int .i64 (.lit 16),.int .i64 (.lit 0)],[],[],0,[]⟩]
def Tryz.zKi:List (List (SB×Bool)×Nat):= [
 ([], 0)]
theorem Tryz.zHs:(ev prog (zau zui) 100000 (.call 120 zuj (zar 0 zyK) (zaK zFY 0))).ways zHt=some zKi:=by kernel_rfl
theorem Tryz.zKj:(zah zyK&&zae zui&&AV.smallL zuj&&zaj zFY)=true:=by kernel_rfl
def Tryz.zug:List Ent:= [⟨72,[rg],0,0,0,.int .i64 (.lit 0),0⟩]
def Tryz.zyJ:List Sh:= []
def Tryz.zuh:List AV:= [rg,.int .i64 (.lit 2),.int .i64 (.lit 0)]
def Tryz.zHq:List (SB×Bool):= []
def Tryz.zFX:List Leaf:= [
 ⟨.tup [.int .u64 (u64v 2),.int .i64 (.lit 2),.int .i64 (.lit 0)],[],[],0,[]⟩]
def Tryz.zKg:List (List (SB×Bool)×Nat):= [
 ([], 0)]
theorem Tryz.zHp:(ev prog (zau zug) 100000 (.call 120 zuh (zar 0 zyJ) (zaK zFX 0))).ways zHq=some zKg:=by kernel_rfl
theorem Tryz.zKh:(zah zyJ&&zae zug&&AV.smallL zuh&&zaj zFX)=true:=by kernel_rfl
def Tryz.zue:List Ent:= [⟨72,[rg],0,0,0,.int .i64 (.lit 0),0⟩]
def Tryz.zyH:List Sh:= []
def Tryz.zuf:List AV:= [rg,.int .i64 (.lit 3),.int .i64 (.lit 0)]
def Tryz.zHo:List (SB×Bool):= []
def Tryz.zFW:List Leaf:= [
 ⟨.tup [.int .u64 (.bin .add .u64 (u64v 2) (.lit 2)),.int .i64 (.lit 2),.int .i64 (.lit 0)],[],[],0,[]⟩]
def Tryz.zKe:List (List (SB×Bool)×Nat):= [
 ([], 0)]
theorem Tryz.zHn:(ev prog (zau zue) 100000 (.call 120 zuf (zar 0 zyH) (zaK zFW 0))).ways zHo=some zKe:=by kernel_rfl
theorem Tryz.zKf:(zah zyH&&zae zue&&AV.smallL zuf&&zaj zFW)=true:=by kernel_rfl
def Tryz.zuc:List Ent:= [⟨72,[rg],0,0,0,.int .i64 (.lit 0),0⟩]
def Tryz.zyG:List Sh:= []
def Tryz.zud:List AV:= [rg,.int .i64 (.lit 4),.int .i64 (ixv 4)]
def Tryz.zHl:List (SB×Bool):= [(.cmp .geq (ixv 4) (szv 0),false)]
def Tryz.zFV:List Leaf:= [
 ⟨.tup [.int .u64 (.bin .add .u64 (.bin .add .u64 (u64v 2) (.lit 4)) (.bin .mul .u64 (.lit 2) (ixv 4))),.int .i64 (.lit 2),.int .i64 (.lit 0)],[],[],0,[]⟩]
def Tryz.zKc:List (List (SB×Bool)×Nat):= [
 ([], 0)]
theorem Tryz.zHk:(ev prog (zau zuc) 100000 (.call 120 zud (zar 0 zyG) (zaK zFV 0))).ways zHl=some zKc:=by kernel_rfl
theorem Tryz.zKd:(zah zyG&&zae zuc&&AV.smallL zud&&zaj zFV)=true:=by kernel_rfl
def Tryz.zua:List Ent:= [⟨72,[rg],0,0,0,.int .i64 (.lit 0),0⟩]
def Tryz.zyF:List Sh:= []
def Tryz.zub:List AV:= [rg,.int .i64 (.lit 5),.int .i64 (.lit 0)]
def Tryz.zHi:List (SB×Bool):= []
def Tryz.zFU:List Leaf:= [
 ⟨.tup [.int .u64 (.bin .add .u64 (.bin .add .u64 (u64v 2) (.lit 4)) (.bin .mul .u64 (.lit 2) (szv 0))),.int .i64 (.lit 2),.int .i64 (.lit 0)],[],[],0,[]⟩]
def Tryz.zKa:List (List (SB×Bool)×Nat):= [
 ([], 0)]
theorem Tryz.zHh:(ev prog (zau zua) 100000 (.call 120 zub (zar 0 zyF) (zaK zFU 0))).ways zHi=some zKa:=by kernel_rfl
theorem Tryz.zKb:(zah zyF&&zae zua&&AV.smallL zub&&zaj zFU)=true:=by kernel_rfl
def Tryz.zt8:List Ent:= [⟨72,[rg],0,0,0,.int .i64 (.lit 0),0⟩]
def Tryz.zyE:List Sh:= []
def Tryz.zt9:List AV:= [rg,.int .i64 (.lit 7),.int .i64 (.lit 0)]
def Tryz.zHf:List (SB×Bool):= []
def Tryz.zFT:List Leaf:= [
 ⟨.tup [.int .u64 (.bin .add .u64 (u64v 3) (.lit 2)),.int .i64 (.lit 2),.int .i64 (.lit 0)],[],[],0,[]⟩]
def Tryz.zJ8:List (List (SB×Bool)×Nat):= [
 ([], 0)]
theorem Tryz.zHe:(ev prog (zau zt8) 100000 (.call 120 zt9 (zar 0 zyE) (zaK zFT 0))).ways zHf=some zJ8:=by kernel_rfl
theorem Tryz.zJ9:(zah zyE&&zae zt8&&AV.smallL zt9&&zaj zFT)=true:=by kernel_rfl
def Tryz.zt6:List Ent:= [⟨72,[rg],0,0,0,.int .i64 (.lit 0),0⟩]
def Tryz.zyD:List Sh:= []
def Tryz.zt7:List AV:= [rg,.int .i64 (.lit 8),.int .i64 (ixv 4)]
def Tryz.zHc:List (SB×Bool):= [(.cmp .geq (ixv 4) (szv 0),false)]
def Tryz.zFS:List Leaf:= [
 ⟨.tup [.int .u64 (.bin .add .u64 (.bin .add .u64 (u64v 3) (.lit 4)) (.bin .mul .u64 (.lit 8) (ixv 4))),.int .i64 (.lit 8),.int .i64 (.lit 0)],[],[],0,[]⟩]
def Tryz.zJ6:List (List (SB×Bool)×Nat):= [
 ([], 0)]
theorem Tryz.zHb:(ev prog (zau zt6) 100000 (.call 120 zt7 (zar 0 zyD) (zaK zFS 0))).ways zHc=some zJ6:=by kernel_rfl
theorem Tryz.zJ7:(zah zyD&&zae zt6&&AV.smallL zt7&&zaj zFS)=true:=by kernel_rfl
def Tryz.zt4:List Ent:= [⟨72,[rg],0,0,0,.int .i64 (.lit 0),0⟩]
def Tryz.zyC:List Sh:= []
def Tryz.zt5:List AV:= [rg,.int .i64 (.lit 9),.int .i64 (.lit 0)]
def Tryz.zG9:List (SB×Bool):= []
def Tryz.zFR:List Leaf:= [
 ⟨.tup [.int .u64 (.bin .add .u64 (.bin .add .u64 (u64v 3) (.lit 4)) (.bin .mul .u64 (.lit 8) (szv 0))),.int .i64 (.lit 2),.int .i64 (.lit 0)],[],[],0,[]⟩]
def Tryz.zJ4:List (List (SB×Bool)×Nat):= [
 ([], 0)]
theorem Tryz.zG8:(ev prog (zau zt4) 100000 (.call 120 zt5 (zar 0 zyC) (zaK zFR 0))).ways zG9=some zJ4:=by kernel_rfl
theorem Tryz.zJ5:(zah zyC&&zae zt4&&AV.smallL zt5&&zaj zFR)=true:=by kernel_rfl
def Tryz.zqd:List Ent:= []
def Tryz.zu9:List Sh:= []
def Tryz.zqe:List AV:= [.int .i64 (szv 0)]
def Tryz.zEd:List (SB×Bool):= []
def Tryz.zAd:List Leaf:= [
 ⟨.bool (.lit true),[],[],0,[]⟩,
 ⟨.bool (.lit false),[],[],0,[]⟩]
def Tryz.zAc:List (List (SB×Bool)×Nat):= [
 ([((.cmp .eql (.lit 1) (szv 0)),true)],0),
 ([((.cmp .eql (.lit 1) (szv 0)),false),((.cmp .eql (.lit 2) (szv 0)),true)],0),
 ([((.cmp .eql (.lit 1) (szv 0)),false),((.cmp .eql (.lit 2) (szv 0)),false),((.cmp .eql (.lit 4) (szv 0)),true)],0),
 ([((.cmp .eql (.lit 1) (szv 0)),false),((.cmp .eql (.lit 2) (szv 0)),false),((.cmp .eql (.lit 4) (szv 0)),false),((.cmp .eql (.lit 8) (szv 0)),true)],0),
 ([((.cmp .eql (.lit 1) (szv 0)),false),((.cmp .eql (.lit 2) (szv 0)),false),((.cmp .eql (.lit 4) (szv 0)),false),((.cmp .eql (.lit 8) (szv 0)),false),((.cmp .eql (.lit 16) (szv 0)),true)],0),
 ([((.cmp .eql (.lit 1) (szv 0)),false),((.cmp .eql (.lit 2) (szv 0)),false),((.cmp .eql (.lit 4) (szv 0)),false),((.cmp .eql (.lit 8) (szv 0)),false),((.cmp .eql (.lit 16) (szv 0)),false),((.cmp .eql (.lit 32) (szv 0)),true)],0),
 ([((.cmp .eql (.lit 1) (szv 0)),false),((.cmp .eql (.lit 2) (szv 0)),false),((.cmp .eql (.lit 4) (szv 0)),false),((.cmp .eql (.lit 8) (szv 0)),false),((.cmp .eql (.lit 16) (szv 0)),false),((.cmp .eql (.lit 32) (szv 0)),false),((.cmp .eql (.lit 64) (szv 0)),true)],0),
 ([((.cmp .eql (.lit 1) (szv 0)),false),((.cmp .eql (.lit 2) (szv 0)),false),((.cmp .eql (.lit 4) (szv 0)),false),((.cmp .eql (.lit 8) (szv 0)),false),((.cmp .eql (.lit 16) (szv 0)),false),((.cmp .eql (.lit 32) (szv 0)),false),((.cmp .eql (.lit 64) (szv 0)),false),((.cmp .eql (.lit 128) (szv 0)),true)],0),
 ([((.cmp .eql (.lit 1) (szv 0)),false),((.cmp .eql (.lit 2) (szv 0)),false),((.cmp .eql (.lit 4) (szv 0)),false),((.cmp .eql (.lit 8) (szv 0)),false),((.cmp .eql (.lit 16) (szv 0)),false),((.cmp .eql (.lit 32) (szv 0)),false),((.cmp .eql (.lit 64) (szv 0)),false),((.cmp .eql (.lit 128) (szv 0)),false),((.cmp .eql (.lit 256) (szv 0)),true)],0),
 ([((.cmp .eql (.lit 1) (szv 0)),false),((.cmp .eql (.lit 2) (szv 0)),false),((.cmp .eql (.lit 4) (szv 0)),false),((.cmp .eql (.lit 8) (szv 0)),false),((.cmp .eql (.lit 16) (szv 0)),false),((.cmp .eql (.lit 32) (szv 0)),false),((.cmp .eql (.lit 64) (szv 0)),false),((.cmp .eql (.lit 128) (szv 0)),false),((.cmp .eql (.lit 256) (szv 0)),false),((.cmp .eql (.lit 512) (szv 0)),true)],0),
 ([((.cmp .eql (.lit 1) (szv 0)),false),((.cmp .eql (.lit 2) (szv 0)),false),((.cmp .eql (.lit 4) (szv 0)),false),((.cmp .eql (.lit 8) (szv 0)),false),((.cmp .eql (.lit 16) (szv 0)),false),((.cmp .eql (.lit 32) (szv 0)),false),((.cmp .eql (.lit 64) (szv 0)),false),((.cmp .eql (.lit 128) (szv 0)),false),((.cmp .eql (.lit 256) (szv 0)),false),((.cmp .eql (.lit 512) (szv 0)),false),((.cmp .eql (.lit 1024) (szv 0)),true)],0),
 ([((.cmp .eql (.lit 1) (szv 0)),false),((.cmp .eql (.lit 2) (szv 0)),false),((.cmp .eql (.lit 4) (szv 0)),false),((.cmp .eql (.lit 8) (szv 0)),false),((.cmp .eql (.lit 16) (szv 0)),false),((.cmp .eql (.lit 32) (szv 0)),false),((.cmp .eql (.lit 64) (szv 0)),false),((.cmp .eql (.lit 128) (szv 0)),false),((.cmp .eql (.lit 256) (szv 0)),false),((.cmp .eql (.lit 512) (szv 0)),false),((.cmp .eql (.lit 1024) (szv 0)),false),((.cmp .eql (.lit 2048) (szv 0)),true)],0),
 ([((.cmp .eql (.lit 1) (szv 0)),false),((.cmp .eql (.lit 2) (szv 0)),false),((.cmp .eql (.lit 4) (szv 0)),false),((.cmp .eql (.lit 8) (szv 0)),false),((.cmp .eql (.lit 16) (szv 0)),false),((.cmp .eql (.lit 32) (szv 0)),false),((.cmp .eql (.lit 64) (szv 0)),false),((.cmp .eql (.lit 128) (szv 0)),false),((.cmp .eql (.lit 256) (szv 0)),false),((.cmp .eql (.lit 512) (szv 0)),false),((.cmp .eql (.lit 1024) (szv 0)),false),((.cmp .eql (.lit 2048) (szv 0)),false),((.cmp .eql (.lit 4096) (szv 0)),true)],0),
 ([((.cmp .eql (.lit 1) (szv 0)),false),((.cmp .eql (.lit 2) (szv 0)),false),((.cmp .eql (.lit 4) (szv 0)),false),((.cmp .eql (.lit 8) (szv 0)),false),((.cmp .eql (.lit 16) (szv 0)),false),((.cmp .eql (.lit 32) (szv 0)),false),((.cmp .eql (.lit 64) (szv 0)),false),((.cmp .eql (.lit 128) (szv 0)),false),((.cmp .eql (.lit 256) (szv 0)),false),((.cmp .eql (.lit 512) (szv 0)),false),((.cmp .eql (.lit 1024) (szv 0)),false),((.cmp .eql (.lit 2048) (szv 0)),false),((.cmp .eql (.lit 4096) (szv 0)),false),((.cmp .eql (.lit 8192) (szv 0)),true)],0),
 ([((.cmp .eql (.lit 1) (szv 0)),false),((.cmp .eql (.lit 2) (szv 0)),false),((.cmp .eql (.lit 4) (szv 0)),false),((.cmp .eql (.lit 8) (szv 0)),false),((.cmp .eql (.lit 16) (szv 0)),false),((.cmp .eql (.lit 32) (szv 0)),false),((.cmp .eql (.lit 64) (szv 0)),false),((.cmp .eql (.lit 128) (szv 0)),false),((.cmp .eql (.lit 256) (szv 0)),false),((.cmp .eql (.lit 512) (szv 0)),false),((.cmp .eql (.lit 1024) (szv 0)),false),((.cmp .eql (.lit 2048) (szv 0)),false),((.cmp .eql (.lit 4096) (szv 0)),false),((.cmp .eql (.lit 8192) (szv 0)),false),((.cmp .eql (.lit 16384) (szv 0)),true)],0),
 ([((.cmp .eql (.lit 1) (szv 0)),false),((.cmp .eql (.lit 2) (szv 0)),false),((.cmp .eql (.lit 4) (szv 0)),false),((.cmp .eql (.lit 8) (szv 0)),false),((.cmp .eql (.lit 16) (szv 0)),false),((.cmp .eql (.lit 32) (szv 0)),false),((.cmp .eql (.lit 64) (szv 0)),false),((.cmp .eql (.lit 128) (szv 0)),false),((.cmp .eql (.lit 256) (szv 0)),false),((.cmp .eql (.lit 512) (szv 0)),false),((.cmp .eql (.lit 1024) (szv 0)),false),((.cmp .eql (.lit 2048) (szv 0)),false),((.cmp .eql (.lit 4096) (szv 0)),false),((.cmp .eql (.lit 8192) (szv 0)),false),((.cmp .eql (.lit 16384) (szv 0)),false),((.cmp .eql (.lit 32768) (szv 0)),true)],0),
 ([((.cmp .eql (.lit 1) (szv 0)),false),((.cmp .eql (.lit 2) (szv 0)),false),((.cmp .eql (.lit 4) (szv 0)),false),((.cmp .eql (.lit 8) (szv 0)),false),((.cmp .eql (.lit 16) (szv 0)),false),((.cmp .eql (.lit 32) (szv 0)),false),((.cmp .eql (.lit 64) (szv 0)),false),((.cmp .eql (.lit 128) (szv 0)),false),((.cmp .eql (.lit 256) (szv 0)),false),((.cmp .eql (.lit 512) (szv 0)),false),((.cmp .eql (.lit 1024) (szv 0)),false),((.cmp .eql (.lit 2048) (szv 0)),false),((.cmp .eql (.lit 4096) (szv 0)),false),((.cmp .eql (.lit 8192) (szv 0)),false),((.cmp .eql (.lit 16384) (szv 0)),false),((.cmp .eql (.lit 32768) (szv 0)),false)],1)]
theorem Tryz.zEc:(ev prog (zau zqd) 100000 (.call 95 zqe (zar 0 zu9) (zaK zAd 0))).ways zEd=some zAc:=by kernel_rfl
theorem Tryz.zIj:(zah zu9&&zae zqd&&AV.smallL zqe&&zaj zAd)=true:=by kernel_rfl
def Tryz.zqq:List Ent:= [⟨95,[.int .i64 (szv 0)],0,0,0,.bool (.lit true),0⟩]
def Tryz.zvl:List Sh:= []
def Tryz.zqr:List AV:= [rg]
def Tryz.znP:List (SB×Bool):= [(.cmp .neq (.flds [⟨1,0,18446744073709551615,0,4,0⟩] 0) (.lit 0),false),(.cmp .neq (.flds [⟨2,0,18446744073709551615,0,1,0⟩] 0) (.lit 0),false),(.cmp .neq (.flds [⟨3,0,18446744073709551615,0,2,0⟩] 0) (.lit 0),false),(.cmp .lss (.bin .add .u64 (u64v 1) (.bin .sub .u64 (.bin .mul .u64 (.lit 16) (szv 0)) (.lit 1))) (u64v 1),false),(.cmp .lss (.bin .add .u64 (u64v 2) (.bin .sub .u64 (.bin .add .u64 (.lit 6) (.bin .mul .u64 (.lit 2) (szv 0))) (.lit 1))) (u64v 2),false),(.cmp .lss (.bin .add .u64 (u64v 3) (.bin .sub .u64 (.bin .add .u64 (.lit 6) (.bin .mul .u64 (.lit 8) (szv 0))) (.lit 1))) (u64v 3),false)]
def Tryz.zAw:List Leaf:= [
 ⟨.int .i64 (.lit 2),[],[],0,[]⟩,
 ⟨.int .i64 (.lit 0),[],[],0,[]⟩]
def Tryz.zAv:List (List (SB×Bool)×Nat):= [
 ([((.cmp .leq (u64v 2) (u64v 1)),true),((.cmp .lss (.bin .sub .u64 (u64v 1) (u64v 2)) (.bin .add .u64 (.lit 6) (.bin .mul .u64 (.lit 2) (szv 0)))),true)],0),
 ([((.cmp .leq (u64v 2) (u64v 1)),true),((.cmp .lss (.bin .sub .u64 (u64v 1) (u64v 2)) (.bin .add .u64 (.lit 6) (.bin .mul .u64 (.lit 2) (szv 0)))),false),((.cmp .leq (u64v 3) (u64v 1)),true),((.cmp .lss (.bin .sub .u64 (u64v 1) (u64v 3)) (.bin .add .u64 (.lit 6) (.bin .mul .u64 (.lit 8) (szv 0)))),true)],0),
 ([((.cmp .leq (u64v 2) (u64v 1)),true),((.cmp .lss (.bin .sub .u64 (u64v 1) (u64v 2)) (.bin .add .u64 (.lit 6) (.bin .mul .u64 (.lit 2) (szv 0)))),false),((.cmp .leq (u64v 3) (u64v 1)),true),((.cmp .lss (.bin .sub .u64 (u64v 1) (u64v 3)) (.bin .add .u64 (.lit 6) (.bin .mul .u64 (.lit 8) (szv 0)))),false),((.cmp .leq (u64v 3) (u64v 2)),true),((.cmp .lss (.bin .sub .u64 (u64v 2) (u64v 3)) (.bin .add .u64 (.lit 6) (.bin .mul .u64 (.lit 8) (szv 0)))),true)],0),
 ([((.cmp .leq (u64v 2) (u64v 1)),true),((.cmp .lss (.bin .sub .u64 (u64v 1) (u64v 2)) (.bin .add .u64 (.lit 6) (.bin .mul .u64 (.lit 2) (szv 0)))),false),((.cmp .leq (u64v 3) (u64v 1)),true),((.cmp .lss (.bin .sub .u64 (u64v 1) (u64v 3)) (.bin .add .u64 (.lit 6) (.bin .mul .u64 (.lit 8) (szv 0)))),false),((.cmp .leq (u64v 3) (u64v 2)),true),((.cmp .lss (.bin .sub .u64 (u64v 2) (u64v 3)) (.bin .add .u64 (.lit 6) (.bin .mul .u64 (.lit 8) (szv 0)))),false)],1),
 ([((.cmp .leq (u64v 2) (u64v 1)),true),((.cmp .lss (.bin .sub .u64 (u64v 1) (u64v 2)) (.bin .add .u64 (.lit 6) (.bin .mul .u64 (.lit 2) (szv 0)))),false),((.cmp .leq (u64v 3) (u64v 1)),true),((.cmp .lss (.bin .sub .u64 (u64v 1) (u64v 3)) (.bin .add .u64 (.lit 6) (.bin .mul .u64 (.lit 8) (szv 0)))),false),((.cmp .leq (u64v 3) (u64v 2)),false),((.cmp .lss (.bin .sub .u64 (u64v 3) (u64v 2)) (.bin .add .u64 (.lit 6) (.bin .mul .u64 (.lit 2) (szv 0)))),true)],0),
 ([((.cmp .leq (u64v 2) (u64v 1)),true),((.cmp .lss (.bin .sub .u64 (u64v 1) (u64v 2)) (.bin .add .u64 (.lit 6) (.bin .mul .u64 (.lit 2) (szv 0)))),false),((.cmp .leq (u64v 3) (u64v 1)),true),((.cmp .lss (.bin .sub .u64 (u64v 1) (u64v 3)) (.bin .add .u64 (.lit 6) (.bin .mul .u64 (.lit 8) (szv 0)))),false),((.cmp .leq (u64v 3) (u64v 2)),false),((.cmp .lss (.bin .sub .u64 (u64v 3) (u64v 2)) (.bin .add .u64 (.lit 6) (.bin .mul .u64 (.lit 2) (szv 0)))),false)],1),
 ([((.cmp .leq (u64v 2) (u64v 1)),true),((.cmp .lss (.bin .sub .u64 (u64v 1) (u64v 2)) (.bin .add .u64 (.lit 6) (.bin .mul .u64 (.lit 2) (szv 0)))),false),((.cmp .leq (u64v 3) (u64v 1)),false),((.cmp .lss (.bin .sub .u64 (u64v 3) (u64v 1)) (.bin .mul .u64 (.lit 16) (szv 0))),true)],0),
 ([((.cmp .leq (u64v 2) (u64v 1)),true),((.cmp .lss (.bin .sub .u64 (u64v 1) (u64v 2)) (.bin .add .u64 (.lit 6) (.bin .mul .u64 (.lit 2) (szv 0)))),false),((.cmp .leq (u64v 3) (u64v 1)),false),((.cmp .lss (.bin .sub .u64 (u64v 3) (u64v 1)) (.bin .mul .u64 (.lit 16) (szv 0))),false),((.cmp .leq (u64v 3) (u64v 2)),true),((.cmp .lss (.bin .sub .u64 (u64v 2) (u64v 3)) (.bin .add .u64 (.lit 6) (.bin .mul .u64 (.lit 8) (szv 0)))),true)],0),
 ([((.cmp .leq (u64v 2) (u64v 1)),true),((.cmp .lss (.bin .sub .u64 (u64v 1) (u64v 2)) (.bin .add .u64 (.lit 6) (.bin .mul .u64 (.lit 2) (szv 0)))),false),((.cmp .leq (u64v 3) (u64v 1)),false),((.cmp .lss (.bin .sub .u64 (u64v 3) (u64v 1)) (.bin .mul .u64 (.lit 16) (szv 0))),false),((.cmp .leq (u64v 3) (u64v 2)),true),((.cmp .lss (.bin .sub .u64 (u64v 2) (u64v 3)) (.bin .add .u64 (.lit 6) (.bin .mul .u64 (.lit 8) (szv 0)))),false)],1),
 ([((.cmp .leq (u64v 2) (u64v 1)),true),((.cmp .lss (.bin .sub .u64 (u64v 1) (u64v 2)) (.bin .add .u64 (.lit 6) (.bin .mul .u64 (.lit 2) (szv 0)))),false),((.cmp .leq (u64v 3) (u64v 1)),false),((.cmp .lss (.bin .sub .u64 (u64v 3) (u64v 1)) (.bin .mul .u64 (.lit 16) (szv 0))),false),((.cmp .leq (u64v 3) (u64v 2)),false),((.cmp .lss (.bin .sub .u64 (u64v 3) (u64v 2)) (.bin .add .u64 (.lit 6) (.bin .mul .u64 (.lit 2) (szv 0)))),true)],0),
 ([((.cmp .leq (u64v 2) (u64v 1)),true),((.cmp .lss (.bin .sub .u64 (u64v 1) (u64v 2)) (.bin .add .u64 (.lit 6) (.bin .mul .u64 (.lit 2) (szv 0)))),false),((.cmp .leq (u64v 3) (u64v 1)),false),((.cmp .lss (.bin .sub .u64 (u64v 3) (u64v 1)) (.bin .mul .u64 (.lit 16) (szv 0))),false),((.cmp .leq (u64v 3) (u64v 2)),false),((.cmp .lss (.bin .sub .u64 (u64v 3) (u64v 2)) (.bin .add .u64 (.lit 6) (.bin .mul .u64 (.lit 2) (szv 0)))),false)],1),
 ([((.cmp .leq (u64v 2) (u64v 1)),false),((.cmp .lss (.bin .sub .u64 (u64v 2) (u64v 1)) (.bin .mul .u64 (.lit 16) (szv 0))),true)],0),
 ([((.cmp .leq (u64v 2) (u64v 1)),false),((.cmp .lss (.bin .sub .u64 (u64v 2) (u64v 1)) (.bin .mul .u64 (.lit 16) (szv 0))),false),((.cmp .leq (u64v 3) (u64v 1)),true),((.cmp .lss (.bin .sub .u64 (u64v 1) (u64v 3)) (.bin .add .u64 (.lit 6) (.bin .mul .u64 (.lit 8) (szv 0)))),true)],0),
 ([((.cmp .leq (u64v 2) (u64v 1)),false),((.cmp .lss (.bin .sub .u64 (u64v 2) (u64v 1)) (.bin .mul .u64 (.lit 16) (szv 0))),false),((.cmp .leq (u64v 3) (u64v 1)),true),((.cmp .lss (.bin .sub .u64 (u64v 1) (u64v 3)) (.bin .add .u64 (.lit 6) (.bin .mul .u64 (.lit 8) (szv 0)))),false),((.cmp .leq (u64v 3) (u64v 2)),true),((.cmp .lss (.bin .sub .u64 (u64v 2) (u64v 3)) (.bin .add .u64 (.lit 6) (.bin .mul .u64 (.lit 8) (szv 0)))),true)],0),
 ([((.cmp .leq (u64v 2) (u64v 1)),false),((.cmp .lss (.bin .sub .u64 (u64v 2) (u64v 1)) (.bin .mul .u64 (.lit 16) (szv 0))),false),((.cmp .leq (u64v 3) (u64v 1)),true),((.cmp .lss (.bin .sub .u64 (u64v 1) (u64v 3)) (.bin .add .u64 (.lit 6) (.bin .mul .u64 (.lit 8) (szv 0)))),false),((.cmp .leq (u64v 3) (u64v 2)),true),((.cmp .lss (.bin .sub .u64 (u64v 2) (u64v 3)) (.bin .add .u64 (.lit 6) (.bin .mul .u64 (.lit 8) (szv 0)))),false)],1),
 ([((.cmp .leq (u64v 2) (u64v 1)),false),((.cmp .lss (.bin .sub .u64 (u64v 2) (u64v 1)) (.bin .mul .u64 (.lit 16) (szv 0))),false),((.cmp .leq (u64v 3) (u64v 1)),true),((.cmp .lss (.bin .sub .u64 (u64v 1) (u64v 3)) (.bin .add .u64 (.lit 6) (.bin .mul .u64 (.lit 8) (szv 0)))),false),((.cmp .leq (u64v 3) (u64v 2)),false),((.cmp .lss (.bin .sub .u64 (u64v 3) (u64v 2)) (.bin .add .u64 (.lit 6) (.bin .mul .u64 (.lit 2) (szv 0)))),true)],0),
 ([((.cmp .leq (u64v 2) (u64v 1)),false),((.cmp .lss (.bin .sub .u64 (u64v 2) (u64v 1)) (.bin .mul .u64 (.lit 16) (szv 0))),false),((.cmp .leq (u64v 3) (u64v 1)),true),((.cmp .lss (.bin .sub .u64 (u64v 1) (u64v 3)) (.bin .add .u64 (.lit 6) (.bin .mul .u64 (.lit 8) (szv 0)))),false),((.cmp .leq (u64v 3) (u64v 2)),false),((.cmp .lss (.bin .sub .u64 (u64v 3) (u64v 2)) (.bin .add .u64 (.lit 6) (.bin .mul .u64 (.lit 2) (szv 0)))),false)],1),
 ([((.cmp .leq (u64v 2) (u64v 1)),false),((.cmp .lss (.bin .sub .u64 (u64v 2) (u64v 1)) (.bin .mul .u64 (.lit 16) (szv 0))),false),((.cmp .leq (u64v 3) (u64v 1)),false),((.cmp .lss (.bin .sub .u64 (u64v 3) (u64v 1)) (.bin .mul .u64 (.lit 16) (szv 0))),true)],0),
 ([((.cmp .leq (u64v 2) (u64v 1)),false),((.cmp .lss (.bin .sub .u64 (u64v 2) (u64v 1)) (.bin .mul .u64 (.lit 16) (szv 0))),false),((.cmp .leq (u64v 3) (u64v 1)),false),((.cmp .lss (.bin .sub .u64 (u64v 3) (u64v 1)) (.bin .mul .u64 (.lit 16) (szv 0))),false),((.cmp .leq (u64v 3) (u64v 2)),true),((.cmp .lss (.bin .sub .u64 (u64v 2) (u64v 3)) (.bin .add .u64 (.lit 6) (.bin .mul .u64 (.lit 8) (szv 0)))),true)],0),
 ([((.cmp .leq (u64v 2) (u64v 1)),false),((.cmp .lss (.bin .sub .u64 (u64v 2) (u64v 1)) (.bin .mul .u64 (.lit 16) (szv 0))),false),((.cmp .leq (u64v 3) (u64v 1)),false),((.cmp .lss (.bin .sub .u64 (u64v 3) (u64v 1)) (.bin .mul .u64 (.lit 16) (szv 0))),false),((.cmp .leq (u64v 3) (u64v 2)),true),((.cmp .lss (.bin .sub .u64 (u64v 2) (u64v 3)) (.bin .add .u64 (.lit 6) (.bin .mul .u64 (.lit 8) (szv 0)))),false)],1),
 ([((.cmp .leq (u64v 2) (u64v 1)),false),((.cmp .lss (.bin .sub .u64 (u64v 2) (u64v 1)) (.bin .mul .u64 (.lit 16) (szv 0))),false),((.cmp .leq (u64v 3) (u64v 1)),false),((.cmp .lss (.bin .sub .u64 (u64v 3) (u64v 1)) (.bin .mul .u64 (.lit 16) (szv 0))),false),((.cmp .leq (u64v 3) (u64v 2)),false),((.cmp .lss (.bin .sub .u64 (u64v 3) (u64v 2)) (.bin .add .u64 (.lit 6) (.bin .mul .u64 (.lit 2) (szv 0)))),true)],0),
 ([((.cmp .leq (u64v 2) (u64v 1)),false),((.cmp .lss (.bin .sub .u64 (u64v 2) (u64v 1)) (.bin .mul .u64 (.lit 16) (szv 0))),false),((.cmp .leq (u64v 3) (u64v 1)),false),((.cmp .lss (.bin .sub .u64 (u64v 3) (u64v 1)) (.bin .mul .u64 (.lit 16) (szv 0))),false),((.cmp .leq (u64v 3) (u64v 2)),false),((.cmp .lss (.bin .sub .u64 (u64v 3) (u64v 2)) (.bin .add .u64 (.lit 6) (.bin .mul .u64 (.lit 2) (szv 0)))),false)],1)]
theorem Tryz.zEv:(ev prog (zau zqq) 100000 (.call 62 zqr (zar 0 zvl) (zaK zAw 0))).ways znP=some zAv:=by kernel_rfl
theorem Tryz.zIw:(zah zvl&&zae zqq&&AV.smallL zqr&&zaj zAw)=true:=by kernel_rfl
def Tryz.zp8:List Ent:= [⟨62,[rg],0,0,0,.int .i64 (.lit 0),0⟩]
def Tryz.zu5:List Sh:= []
def Tryz.zp9:List AV:= [rg,.int .i64 (.lit 3),.int .i64 (.lit 0)]
def Tryz.zD5:List (SB×Bool):= []
def Tryz.zz7:List Leaf:= [
 ⟨.tup [.int .u64 (.bin .add .u64 (u64v 2) (.lit 2)),.int .i64 (.lit 2),.int .i64 (.lit 0)],[],[],0,[]⟩]
def Tryz.zIf:List (List (SB×Bool)×Nat):= [
 ([], 0)]
theorem Tryz.zD4:(ev prog (zau zp8) 100000 (.call 20 zp9 (zar 0 zu5) (zaK zz7 0))).ways zD5=some zIf:=by kernel_rfl
theorem Tryz.zIg:(zah zu5&&zae zp8&&AV.smallL zp9&&zaj zz7)=true:=by kernel_rfl
def Tryz.zp6:List Ent:= [⟨62,[rg],0,0,0,.int .i64 (.lit 0),0⟩]
def Tryz.zu3:List Sh:= []
def Tryz.zp7:List AV:= [rg,.int .i64 (.lit 4),.int .i64 (ixv 4)]
def Tryz.zD3:List (SB×Bool):= [(.cmp .geq (ixv 4) (szv 0),false)]
def Tryz.zz6:List Leaf:= [
 ⟨.tup [.int .u64 (.bin .add .u64 (.bin .add .u64 (u64v 2) (.lit 4)) (.bin .mul .u64 (.lit 2) (ixv 4))),.int .i64 (.lit 2),.int .i64 (.lit 0)],[],[],0,[]⟩]
def Tryz.zId:List (List (SB×Bool)×Nat):= [
 ([], 0)]
theorem Tryz.zD2:(ev prog (zau zp6) 100000 (.call 20 zp7 (zar 0 zu3) (zaK zz6 0))).ways zD3=some zId:=by kernel_rfl
theorem Tryz.zIe:(zah zu3&&zae zp6&&AV.smallL zp7&&zaj zz6)=true:=by kernel_rfl
def Tryz.zp4:List Ent:= [⟨62,[rg],0,0,0,.int .i64 (.lit 0),0⟩]
def Tryz.zu2:List Sh:= []
def Tryz.zp5:List AV:= [rg,.int .i64 (.lit 7),.int .i64 (.lit 0)]
def Tryz.zD0:List (SB×Bool):= []
def Tryz.zz5:List Leaf:= [
 ⟨.tup [.int .u64 (.bin .add .u64 (u64v 3) (.lit 2)),.int .i64 (.lit 2),.int .i64 (.lit 0)],[],[],0,[]⟩]
def Tryz.zIb:List (List (SB×Bool)×Nat):= [
 ([], 0)]
theorem Tryz.zDZ:(ev prog (zau zp4) 100000 (.call 20 zp5 (zar 0 zu2) (zaK zz5 0))).ways zD0=some zIb:=by kernel_rfl
theorem Tryz.zIc:(zah zu2&&zae zp4&&AV.smallL zp5&&zaj zz5)=true:=by kernel_rfl
def Tryz.zp2:List Ent:= [⟨62,[rg],0,0,0,.int .i64 (.lit 0),0⟩]
def Tryz.zu1:List Sh:= []
def Tryz.zp3:List AV:= [rg,.int .i64 (.lit 8),.int .i64 (ixv 4)]
def Tryz.zDX:List (SB×Bool):= [(.cmp .geq (ixv 4) (szv 0),false)]
def Tryz.zz4:List Leaf:= [
 ⟨.tup [.int .u64 (.bin .add .u64 (.bin .add .u64 (u64v 3) (.lit 4)) (.bin .mul .u64 (.lit 8) (ixv 4))),.int .i64 (.lit 8),.int .i64 (.lit 0)],[],[],0,[]⟩]
def Tryz.zH9:List (List (SB×Bool)×Nat):= [
 ([], 0)]
theorem Tryz.zDW:(ev prog (zau zp2) 100000 (.call 20 zp3 (zar 0 zu1) (zaK zz4 0))).ways zDX=some zH9:=by kernel_rfl
theorem Tryz.zIa:(zah zu1&&zae zp2&&AV.smallL zp3&&zaj zz4)=true:=by kernel_rfl
open Go.RowKit
theorem Tryz.zEe (r:Rg) (h:RgOk r) (w:World):Calls prog 95 #[.int .i64 r.n] w fun e w'=>e= .returned (.bool true)∧Below w.heap.size w w':=by
  have en:=zds (is:= []) (bs:= []) (vs:= []) h
  refine Calls.mono (zav (ρ:=rho r [] [] []) (K:=fun _=>False) (g:=Gho.none) (bl:= []) (vals:= [.int .i64 r.n]) mixed zEc zIj (fun _ h=>h.elim) trivial trivial zaB trivial (zab (zac en) RL.nil) (fun _ h=>by cases h)) fun e w' hh=> ?_
  obtain ⟨p,hp,hto,l,hl,j,he⟩:=hh
  have hbel:=zam he (fun _ h=>h)
  unfold zAc at hp
  simp only [List.mem_cons,List.not_mem_nil,or_false] at hp
  have hleaf:p.2=0:=by
    obtain ⟨k,hk,hn⟩:=h.pow
    have hk16:k=0∨k=1∨k=2∨k=3∨k=4∨k=5∨k=6∨k=7∨k=8∨k=9∨k=10∨k=11∨k=12∨k=13∨k=14∨k=15:=by omega
    rcases hp with rfl|rfl|rfl|rfl|rfl|rfl|rfl|rfl|rfl|rfl|rfl|rfl|rfl|rfl|rfl|rfl|rfl
    all_goals first
      | rfl
      | (exfalso
         simp only [zaa,zad,zbW,zaf,en,beq_eq_false_iff_ne,ne_eq] at hto
         rcases hk16 with rfl|rfl|rfl|rfl|rfl|rfl|rfl|rfl|rfl|rfl|rfl|rfl|rfl|rfl|rfl|rfl<;>(simp only [Int.reducePow,Nat.reducePow,Int.pow_succ,Int.pow_zero] at hn;omega))
  rw [hleaf] at hl
  cases hl
  exact ⟨he.ret,hbel⟩
theorem Tryz.zfm (r:Rg) (h:RgOk r) (w:World):Calls prog 62 #[r.val] w fun e w'=>e= .returned (.int .i64 0)∧Below w.heap.size w w':=by
  have hb:=h.bnd
  obtain ⟨hpow,d0,v0,c0,d16,v2,c4,dE,vE,cE,dv,dc,vc⟩:=h
  have hr:RgOk r:=⟨hpow,d0,v0,c0,d16,v2,c4,dE,vE,cE,dv,dc,vc⟩
  have en:=zds (is:= []) (bs:= []) (vs:= []) hr
  have ed:=zen (is:= []) (bs:= []) (vs:= []) hr
  have ev:=zey (is:= []) (bs:= []) (vs:= []) hr
  have ec:=zez (is:= []) (bs:= []) (vs:= []) hr
  have l1:=zft (ρ:=rho r [] [] []) (i:=1) (n:=4) d0 (by show r.d<_;omega)
  have l2:=zft (ρ:=rho r [] [] []) (i:=2) (n:=1) v0 (by show r.v<_;omega)
  have l3:=zft (ρ:=rho r [] [] []) (i:=3) (n:=2) c0 (by show r.c<_;omega)
  have w1:IntKind.wrap .u64 (16*r.n)=16*r.n:=zaL (by omega) (by omega)
  have w2:IntKind.wrap .u64 (2*r.n)=2*r.n:=zaL (by omega) (by omega)
  have w3:IntKind.wrap .u64 (8*r.n)=8*r.n:=zaL (by omega) (by omega)
  have w4:IntKind.wrap .u64 (6+2*r.n)=6+2*r.n:=zaL (by omega) (by omega)
  have w5:IntKind.wrap .u64 (6+8*r.n)=6+8*r.n:=zaL (by omega) (by omega)
  have w6:IntKind.wrap .u64 (16*r.n-1)=16*r.n-1:=zaL (by omega) (by omega)
  have w7:IntKind.wrap .u64 (6+2*r.n-1)=6+2*r.n-1:=zaL (by omega) (by omega)
  have w8:IntKind.wrap .u64 (6+8*r.n-1)=6+8*r.n-1:=zaL (by omega) (by omega)
  have x1:IntKind.wrap .u64 (18446744073709551615-r.d)=18446744073709551615-r.d:=zaL (by omega) (by omega)
  have x2:IntKind.wrap .u64 (18446744073709551615-r.v)=18446744073709551615-r.v:=zaL (by omega) (by omega)
  have x3:IntKind.wrap .u64 (18446744073709551615-r.c)=18446744073709551615-r.c:=zaL (by omega) (by omega)
  have ht:Dw.Told (rho r [] [] []) znP:=by
    unfold znP
    have y1:IntKind.wrap .u64 (r.d+(16*r.n-1))=r.d+(16*r.n-1):=zaL (by omega) (by omega)
    have y2:IntKind.wrap .u64 (r.v+(6+2*r.n-1))=r.v+(6+2*r.n-1):=zaL (by omega) (by omega)
    have y3:IntKind.wrap .u64 (r.c+(6+8*r.n-1))=r.c+(6+8*r.n-1):=zaL (by omega) (by omega)
    simp only [zaa,zad,zbs,zaX,zaW,den_add,den_mul,zaf,l1,l2,l3,en,ed,ev,ec,w1,w2,w3,w4,w5,w6,w7,w8,y1,y2,y3]
    refine ⟨?_,?_,?_,?_,?_,?_,trivial⟩
    · show ((r.d%2^4) !=0)=false
      have:r.d%2^4=0:=d16
      rw [this];rfl
    · show ((r.v%2^1) !=0)=false
      have:r.v%2^1=0:=v2
      rw [this];rfl
    · show ((r.c%2^2) !=0)=false
      have:r.c%2^2=0:=c4
      rw [this];rfl
    all_goals (simp;omega)
  refine Calls.mono (zav (K:=fun _=>False) (g:=Gho.none) (bl:= []) (vals:= [r.val]) mixed zEv zIw (fun _ h=>h.elim) trivial trivial zaB ⟨zas (Dw.enters_of (by kernel_rfl)) rfl [.int .i64 r.n] (.bool true) (fun j=>zab (zac en) RL.nil) (fun j=>zaO rfl) (fun w _ _ _=>zEe r hr w),trivial⟩ (zab (R_rg hr) RL.nil) ht) fun e w' hh=> ?_
  obtain ⟨p,hp,hto,l,hl,j,he⟩:=hh
  have hbel:=zam he (fun _ h=>h)
  unfold zAv at hp
  simp only [List.mem_cons,List.not_mem_nil,or_false] at hp
  have hleaf:p.2=1:=by
    rcases hp with rfl|rfl|rfl|rfl|rfl|rfl|rfl|rfl|rfl|rfl|rfl|rfl|rfl|rfl|rfl|rfl|rfl|rfl|rfl|rfl|rfl|rfl
    all_goals first
      | rfl
      | (exfalso
         simp only [zaa,zad,zc3,zaX,zbV,zcH,zaW,den_add,den_mul,zaf,en,ed,ev,ec,w1,w2,w3,w4,w5,zeB,decide_eq_true_eq,decide_eq_false_iff_not] at hto
         omega)
  rw [hleaf] at hl
  cases hl
  exact ⟨he.ret,hbel⟩
theorem Tryz.zLm (r:Rg) (h:RgOk r) (i:Int) (hi:0≤i∧i<r.n) (w:World):Calls prog 120 #[r.val,.int .i64 1,.int .i64 i] w fun e w'=>e= .returned (.tuple #[.int .u64 (r.d+16*i),.int .i64 16,.int .i64 0])∧Below w.heap.size w w':=by
 have hb:=h.bnd
 have e1:=zds (is:= [i]) (bs:= []) (vs:= []) h
 have e2:=zen (is:= [i]) (bs:= []) (vs:= []) h
 have e3:=zey (is:= [i]) (bs:= []) (vs:= []) h
 have e4:=zez (is:= [i]) (bs:= []) (vs:= []) h
 have q1:=h.dE
 have q2:=h.vE
 have q3:=h.cE
 have q4:=h.d0
 have q5:=h.v0
 have q6:=h.c0
 have e5:(ixv 4).den (rho r [i] [] [])=i:=zkW hi.1 (by show i<32768;omega)
 have w1:IntKind.wrap .u64 (16*i)=16*i:=zaL (by omega) (by omega)
 have w2:IntKind.wrap .u64 (r.d+16*i)=r.d+16*i:=zaL (by omega) (by omega)
 refine Calls.mono (zav (ρ:=(rho r [i] [] [])) (K:=fun _=>False) (g:=Gho.none) (bl:= []) (vals:= [r.val,.int .i64 1,.int .i64 i]) mixed zHs zKj (fun _ h=>h.elim) trivial trivial zaB ⟨zas (Dw.enters_of (by kernel_rfl)) rfl [r.val] (.int .i64 0) (fun j=>zab (R_rg h) RL.nil) (fun j=>zac rfl) (fun w _ _ _=>zb1 r h w),trivial⟩ (zab (R_rg h) (zab (zac rfl) (zab (zac e5) RL.nil))) (zaa.2 ⟨by rw [zcH,e5,e1];simp;omega,zad.2 trivial⟩)) fun e w' hh=> ?_
 obtain ⟨_,j,he⟩:=zbd hh
 refine ⟨he.ret.trans ?_,zam he (fun _ h=>h)⟩
 simp only [AV.val,AV.valL,den_add,den_mul,zaf,e1,e2,e3,e4,e5,w1,w2]
theorem Tryz.zHr (r:Rg) (h:RgOk r) (w:World):Calls prog 120 #[r.val,.int .i64 2,.int .i64 0] w fun e w'=>e= .returned (.tuple #[.int .u64 (r.v),.int .i64 2,.int .i64 0])∧Below w.heap.size w w':=by
 have hb:=h.bnd
 have e1:=zds (is:= []) (bs:= []) (vs:= []) h
 have e2:=zen (is:= []) (bs:= []) (vs:= []) h
 have e3:=zey (is:= []) (bs:= []) (vs:= []) h
 have e4:=zez (is:= []) (bs:= []) (vs:= []) h
 have q1:=h.dE
 have q2:=h.vE
 have q3:=h.cE
 have q4:=h.d0
 have q5:=h.v0
 have q6:=h.c0
 refine Calls.mono (zav (ρ:=(rho r [] [] [])) (K:=fun _=>False) (g:=Gho.none) (bl:= []) (vals:= [r.val,.int .i64 2,.int .i64 0]) mixed zHp zKh (fun _ h=>h.elim) trivial trivial zaB ⟨zas (Dw.enters_of (by kernel_rfl)) rfl [r.val] (.int .i64 0) (fun j=>zab (R_rg h) RL.nil) (fun j=>zac rfl) (fun w _ _ _=>zb1 r h w),trivial⟩ (zab (R_rg h) (zab (zac rfl) (zab (zac rfl) RL.nil))) (zad.2 trivial)) fun e w' hh=> ?_
 obtain ⟨_,j,he⟩:=zbd hh
 refine ⟨he.ret.trans ?_,zam he (fun _ h=>h)⟩
 simp only [AV.val,AV.valL,den_add,den_mul,zaf,e1,e2,e3,e4]
theorem Tryz.zyI (r:Rg) (h:RgOk r) (w:World):Calls prog 120 #[r.val,.int .i64 3,.int .i64 0] w fun e w'=>e= .returned (.tuple #[.int .u64 (r.v+2),.int .i64 2,.int .i64 0])∧Below w.heap.size w w':=by
 have hb:=h.bnd
 have e1:=zds (is:= []) (bs:= []) (vs:= []) h
 have e2:=zen (is:= []) (bs:= []) (vs:= []) h
 have e3:=zey (is:= []) (bs:= []) (vs:= []) h
 have e4:=zez (is:= []) (bs:= []) (vs:= []) h
 have q1:=h.dE
 have q2:=h.vE
 have q3:=h.cE
 have q4:=h.d0
 have q5:=h.v0
 have q6:=h.c0
 have w2:IntKind.wrap .u64 (r.v+2)=r.v+2:=zaL (by omega) (by omega)
 refine Calls.mono (zav (ρ:=(rho r [] [] [])) (K:=fun _=>False) (g:=Gho.none) (bl:= []) (vals:= [r.val,.int .i64 3,.int .i64 0]) mixed zHn zKf (fun _ h=>h.elim) trivial trivial zaB ⟨zas (Dw.enters_of (by kernel_rfl)) rfl [r.val] (.int .i64 0) (fun j=>zab (R_rg h) RL.nil) (fun j=>zac rfl) (fun w _ _ _=>zb1 r h w),trivial⟩ (zab (R_rg h) (zab (zac rfl) (zab (zac rfl) RL.nil))) (zad.2 trivial)) fun e w' hh=> ?_
 obtain ⟨_,j,he⟩:=zbd hh
 refine ⟨he.ret.trans ?_,zam he (fun _ h=>h)⟩
 simp only [AV.val,AV.valL,den_add,den_mul,zaf,e1,e2,e3,e4,w2]
theorem Tryz.zHm (r:Rg) (h:RgOk r) (i:Int) (hi:0≤i∧i<r.n) (w:World):Calls prog 120 #[r.val,.int .i64 4,.int .i64 i] w fun e w'=>e= .returned (.tuple #[.int .u64 (r.v+4+2*i),.int .i64 2,.int .i64 0])∧Below w.heap.size w w':=by
 have hb:=h.bnd
 have e1:=zds (is:= [i]) (bs:= []) (vs:= []) h
 have e2:=zen (is:= [i]) (bs:= []) (vs:= []) h
 have e3:=zey (is:= [i]) (bs:= []) (vs:= []) h
 have e4:=zez (is:= [i]) (bs:= []) (vs:= []) h
 have q1:=h.dE
 have q2:=h.vE
 have q3:=h.cE
 have q4:=h.d0
 have q5:=h.v0
 have q6:=h.c0
 have e5:(ixv 4).den (rho r [i] [] [])=i:=zkW hi.1 (by show i<32768;omega)
 have w1:IntKind.wrap .u64 (2*i)=2*i:=zaL (by omega) (by omega)
 have w3:IntKind.wrap .u64 (r.v+4)=r.v+4:=zaL (by omega) (by omega)
 have w2:IntKind.wrap .u64 (r.v+4+2*i)=r.v+4+2*i:=zaL (by omega) (by omega)
 refine Calls.mono (zav (ρ:=(rho r [i] [] [])) (K:=fun _=>False) (g:=Gho.none) (bl:= []) (vals:= [r.val,.int .i64 4,.int .i64 i]) mixed zHk zKd (fun _ h=>h.elim) trivial trivial zaB ⟨zas (Dw.enters_of (by kernel_rfl)) rfl [r.val] (.int .i64 0) (fun j=>zab (R_rg h) RL.nil) (fun j=>zac rfl) (fun w _ _ _=>zb1 r h w),trivial⟩ (zab (R_rg h) (zab (zac rfl) (zab (zac e5) RL.nil))) (zaa.2 ⟨by rw [zcH,e5,e1];simp;omega,zad.2 trivial⟩)) fun e w' hh=> ?_
 obtain ⟨_,j,he⟩:=zbd hh
 refine ⟨he.ret.trans ?_,zam he (fun _ h=>h)⟩
 simp only [AV.val,AV.valL,den_add,den_mul,zaf,e1,e2,e3,e4,e5,w1,w3,w2]
theorem Tryz.zHj (r:Rg) (h:RgOk r) (w:World):Calls prog 120 #[r.val,.int .i64 5,.int .i64 0] w fun e w'=>e= .returned (.tuple #[.int .u64 (r.v+4+2*r.n),.int .i64 2,.int .i64 0])∧Below w.heap.size w w':=by
 have hb:=h.bnd
 have e1:=zds (is:= []) (bs:= []) (vs:= []) h
 have e2:=zen (is:= []) (bs:= []) (vs:= []) h
 have e3:=zey (is:= []) (bs:= []) (vs:= []) h
 have e4:=zez (is:= []) (bs:= []) (vs:= []) h
 have q1:=h.dE
 have q2:=h.vE
 have q3:=h.cE
 have q4:=h.d0
 have q5:=h.v0
 have q6:=h.c0
 have w1:IntKind.wrap .u64 (2*r.n)=2*r.n:=zaL (by omega) (by omega)
 have w3:IntKind.wrap .u64 (r.v+4)=r.v+4:=zaL (by omega) (by omega)
 have w2:IntKind.wrap .u64 (r.v+4+2*r.n)=r.v+4+2*r.n:=zaL (by omega) (by omega)
 refine Calls.mono (zav (ρ:=(rho r [] [] [])) (K:=fun _=>False) (g:=Gho.none) (bl:= []) (vals:= [r.val,.int .i64 5,.int .i64 0]) mixed zHh zKb (fun _ h=>h.elim) trivial trivial zaB ⟨zas (Dw.enters_of (by kernel_rfl)) rfl [r.val] (.int .i64 0) (fun j=>zab (R_rg h) RL.nil) (fun j=>zac rfl) (fun w _ _ _=>zb1 r h w),trivial⟩ (zab (R_rg h) (zab (zac rfl) (zab (zac rfl) RL.nil))) (zad.2 trivial)) fun e w' hh=> ?_
 obtain ⟨_,j,he⟩:=zbd hh
 refine ⟨he.ret.trans ?_,zam he (fun _ h=>h)⟩
 simp only [AV.val,AV.valL,den_add,den_mul,zaf,e1,e2,e3,e4,w1,w3,w2]
theorem Tryz.zHg (r:Rg) (h:RgOk r) (w:World):Calls prog 120 #[r.val,.int .i64 7,.int .i64 0] w fun e w'=>e= .returned (.tuple #[.int .u64 (r.c+2),.int .i64 2,.int .i64 0])∧Below w.heap.size w w':=by
 have hb:=h.bnd
 have e1:=zds (is:= []) (bs:= []) (vs:= []) h
 have e2:=zen (is:= []) (bs:= []) (vs:= []) h
 have e3:=zey (is:= []) (bs:= []) (vs:= []) h
 have e4:=zez (is:= []) (bs:= []) (vs:= []) h
 have q1:=h.dE
 have q2:=h.vE
 have q3:=h.cE
 have q4:=h.d0
 have q5:=h.v0
 have q6:=h.c0
 have w2:IntKind.wrap .u64 (r.c+2)=r.c+2:=zaL (by omega) (by omega)
 refine Calls.mono (zav (ρ:=(rho r [] [] [])) (K:=fun _=>False) (g:=Gho.none) (bl:= []) (vals:= [r.val,.int .i64 7,.int .i64 0]) mixed zHe zJ9 (fun _ h=>h.elim) trivial trivial zaB ⟨zas (Dw.enters_of (by kernel_rfl)) rfl [r.val] (.int .i64 0) (fun j=>zab (R_rg h) RL.nil) (fun j=>zac rfl) (fun w _ _ _=>zb1 r h w),trivial⟩ (zab (R_rg h) (zab (zac rfl) (zab (zac rfl) RL.nil))) (zad.2 trivial)) fun e w' hh=> ?_
 obtain ⟨_,j,he⟩:=zbd hh
 refine ⟨he.ret.trans ?_,zam he (fun _ h=>h)⟩
 simp only [AV.val,AV.valL,den_add,den_mul,zaf,e1,e2,e3,e4,w2]
theorem Tryz.zHd (r:Rg) (h:RgOk r) (i:Int) (hi:0≤i∧i<r.n) (w:World):Calls prog 120 #[r.val,.int .i64 8,.int .i64 i] w fun e w'=>e= .returned (.tuple #[.int .u64 (r.c+4+8*i),.int .i64 8,.int .i64 0])∧Below w.heap.size w w':=by
 have hb:=h.bnd
 have e1:=zds (is:= [i]) (bs:= []) (vs:= []) h
 have e2:=zen (is:= [i]) (bs:= []) (vs:= []) h
 have e3:=zey (is:= [i]) (bs:= []) (vs:= []) h
 have e4:=zez (is:= [i]) (bs:= []) (vs:= []) h
 have q1:=h.dE
 have q2:=h.vE
 have q3:=h.cE
 have q4:=h.d0
 have q5:=h.v0
 have q6:=h.c0
 have e5:(ixv 4).den (rho r [i] [] [])=i:=zkW hi.1 (by show i<32768;omega)
 have w1:IntKind.wrap .u64 (8*i)=8*i:=zaL (by omega) (by omega)
 have w3:IntKind.wrap .u64 (r.c+4)=r.c+4:=zaL (by omega) (by omega)
 have w2:IntKind.wrap .u64 (r.c+4+8*i)=r.c+4+8*i:=zaL (by omega) (by omega)
 refine Calls.mono (zav (ρ:=(rho r [i] [] [])) (K:=fun _=>False) (g:=Gho.none) (bl:= []) (vals:= [r.val,.int .i64 8,.int .i64 i]) mixed zHb zJ7 (fun _ h=>h.elim) trivial trivial zaB ⟨zas (Dw.enters_of (by kernel_rfl)) rfl [r.val] (.int .i64 0) (fun j=>zab (R_rg h) RL.nil) (fun j=>zac rfl) (fun w _ _ _=>zb1 r h w),trivial⟩ (zab (R_rg h) (zab (zac rfl) (zab (zac e5) RL.nil))) (zaa.2 ⟨by rw [zcH,e5,e1];simp;omega,zad.2 trivial⟩)) fun e w' hh=> ?_
 obtain ⟨_,j,he⟩:=zbd hh
 refine ⟨he.ret.trans ?_,zam he (fun _ h=>h)⟩
 simp only [AV.val,AV.valL,den_add,den_mul,zaf,e1,e2,e3,e4,e5,w1,w3,w2]
theorem Tryz.zHa (r:Rg) (h:RgOk r) (w:World):Calls prog 120 #[r.val,.int .i64 9,.int .i64 0] w fun e w'=>e= .returned (.tuple #[.int .u64 (r.c+4+8*r.n),.int .i64 2,.int .i64 0])∧Below w.heap.size w w':=by
 have hb:=h.bnd
 have e1:=zds (is:= []) (bs:= []) (vs:= []) h
 have e2:=zen (is:= []) (bs:= []) (vs:= []) h
 have e3:=zey (is:= []) (bs:= []) (vs:= []) h
 have e4:=zez (is:= []) (bs:= []) (vs:= []) h
 have q1:=h.dE
 have q2:=h.vE
 have q3:=h.cE
 have q4:=h.d0
 have q5:=h.v0
 have q6:=h.c0
 have w1:IntKind.wrap .u64 (8*r.n)=8*r.n:=zaL (by omega) (by omega)
 have w3:IntKind.wrap .u64 (r.c+4)=r.c+4:=zaL (by omega) (by omega)
 have w2:IntKind.wrap .u64 (r.c+4+8*r.n)=r.c+4+8*r.n:=zaL (by omega) (by omega)
 refine Calls.mono (zav (ρ:=(rho r [] [] [])) (K:=fun _=>False) (g:=Gho.none) (bl:= []) (vals:= [r.val,.int .i64 9,.int .i64 0]) mixed zG8 zJ5 (fun _ h=>h.elim) trivial trivial zaB ⟨zas (Dw.enters_of (by kernel_rfl)) rfl [r.val] (.int .i64 0) (fun j=>zab (R_rg h) RL.nil) (fun j=>zac rfl) (fun w _ _ _=>zb1 r h w),trivial⟩ (zab (R_rg h) (zab (zac rfl) (zab (zac rfl) RL.nil))) (zad.2 trivial)) fun e w' hh=> ?_
 obtain ⟨_,j,he⟩:=zbd hh
 refine ⟨he.ret.trans ?_,zam he (fun _ h=>h)⟩
 simp only [AV.val,AV.valL,den_add,den_mul,zaf,e1,e2,e3,e4,w1,w3,w2]
theorem Tryz.zu6 (r:Rg) (h:RgOk r) (w:World):Calls prog 20 #[r.val,.int .i64 3,.int .i64 0] w fun e w'=>e= .returned (.tuple #[.int .u64 (r.v+2),.int .i64 2,.int .i64 0])∧Below w.heap.size w w':=by
 have hb:=h.bnd
 have e1:=zds (is:= []) (bs:= []) (vs:= []) h
 have e2:=zen (is:= []) (bs:= []) (vs:= []) h
 have e3:=zey (is:= []) (bs:= []) (vs:= []) h
 have e4:=zez (is:= []) (bs:= []) (vs:= []) h
 have q1:=h.dE
 have q2:=h.vE
 have q3:=h.cE
 have q4:=h.d0
 have q5:=h.v0
 have q6:=h.c0
 have w2:IntKind.wrap .u64 (r.v+2)=r.v+2:=zaL (by omega) (by omega)
 refine Calls.mono (zav (ρ:=(rho r [] [] [])) (K:=fun _=>False) (g:=Gho.none) (bl:= []) (vals:= [r.val,.int .i64 3,.int .i64 0]) mixed zD4 zIg (fun _ h=>h.elim) trivial trivial zaB ⟨zas (Dw.enters_of (by kernel_rfl)) rfl [r.val] (.int .i64 0) (fun j=>zab (R_rg h) RL.nil) (fun j=>zac rfl) (fun w _ _ _=>zfm r h w),trivial⟩ (zab (R_rg h) (zab (zac rfl) (zab (zac rfl) RL.nil))) (zad.2 trivial)) fun e w' hh=> ?_
 obtain ⟨_,j,he⟩:=zbd hh
 refine ⟨he.ret.trans ?_,zam he (fun _ h=>h)⟩
 simp only [AV.val,AV.valL,den_add,den_mul,zaf,e1,e2,e3,e4,w2]
theorem Tryz.zu4 (r:Rg) (h:RgOk r) (i:Int) (hi:0≤i∧i<r.n) (w:World):Calls prog 20 #[r.val,.int .i64 4,.int .i64 i] w fun e w'=>e= .returned (.tuple #[.int .u64 (r.v+4+2*i),.int .i64 2,.int .i64 0])∧Below w.heap.size w w':=by
 have hb:=h.bnd
 have e1:=zds (is:= [i]) (bs:= []) (vs:= []) h
 have e2:=zen (is:= [i]) (bs:= []) (vs:= []) h
 have e3:=zey (is:= [i]) (bs:= []) (vs:= []) h
 have e4:=zez (is:= [i]) (bs:= []) (vs:= []) h
 have q1:=h.dE
 have q2:=h.vE
 have q3:=h.cE
 have q4:=h.d0
 have q5:=h.v0
 have q6:=h.c0
 have e5:(ixv 4).den (rho r [i] [] [])=i:=zkW hi.1 (by show i<32768;omega)
 have w1:IntKind.wrap .u64 (2*i)=2*i:=zaL (by omega) (by omega)
 have w3:IntKind.wrap .u64 (r.v+4)=r.v+4:=zaL (by omega) (by omega)
 have w2:IntKind.wrap .u64 (r.v+4+2*i)=r.v+4+2*i:=zaL (by omega) (by omega)
 refine Calls.mono (zav (ρ:=(rho r [i] [] [])) (K:=fun _=>False) (g:=Gho.none) (bl:= []) (vals:= [r.val,.int .i64 4,.int .i64 i]) mixed zD2 zIe (fun _ h=>h.elim) trivial trivial zaB ⟨zas (Dw.enters_of (by kernel_rfl)) rfl [r.val] (.int .i64 0) (fun j=>zab (R_rg h) RL.nil) (fun j=>zac rfl) (fun w _ _ _=>zfm r h w),trivial⟩ (zab (R_rg h) (zab (zac rfl) (zab (zac e5) RL.nil))) (zaa.2 ⟨by rw [zcH,e5,e1];simp;omega,zad.2 trivial⟩)) fun e w' hh=> ?_
 obtain ⟨_,j,he⟩:=zbd hh
 refine ⟨he.ret.trans ?_,zam he (fun _ h=>h)⟩
 simp only [AV.val,AV.valL,den_add,den_mul,zaf,e1,e2,e3,e4,e5,w1,w3,w2]
theorem Tryz.zD1 (r:Rg) (h:RgOk r) (w:World):Calls prog 20 #[r.val,.int .i64 7,.int .i64 0] w fun e w'=>e= .returned (.tuple #[.int .u64 (r.c+2),.int .i64 2,.int .i64 0])∧Below w.heap.size w w':=by
 have hb:=h.bnd
 have e1:=zds (is:= []) (bs:= []) (vs:= []) h
 have e2:=zen (is:= []) (bs:= []) (vs:= []) h
 have e3:=zey (is:= []) (bs:= []) (vs:= []) h
 have e4:=zez (is:= []) (bs:= []) (vs:= []) h
 have q1:=h.dE
 have q2:=h.vE
 have q3:=h.cE
 have q4:=h.d0
 have q5:=h.v0
 have q6:=h.c0
 have w2:IntKind.wrap .u64 (r.c+2)=r.c+2:=zaL (by omega) (by omega)
 refine Calls.mono (zav (ρ:=(rho r [] [] [])) (K:=fun _=>False) (g:=Gho.none) (bl:= []) (vals:= [r.val,.int .i64 7,.int .i64 0]) mixed zDZ zIc (fun _ h=>h.elim) trivial trivial zaB ⟨zas (Dw.enters_of (by kernel_rfl)) rfl [r.val] (.int .i64 0) (fun j=>zab (R_rg h) RL.nil) (fun j=>zac rfl) (fun w _ _ _=>zfm r h w),trivial⟩ (zab (R_rg h) (zab (zac rfl) (zab (zac rfl) RL.nil))) (zad.2 trivial)) fun e w' hh=> ?_
 obtain ⟨_,j,he⟩:=zbd hh
 refine ⟨he.ret.trans ?_,zam he (fun _ h=>h)⟩
 simp only [AV.val,AV.valL,den_add,den_mul,zaf,e1,e2,e3,e4,w2]
theorem Tryz.zDY (r:Rg) (h:RgOk r) (i:Int) (hi:0≤i∧i<r.n) (w:World):Calls prog 20 #[r.val,.int .i64 8,.int .i64 i] w fun e w'=>e= .returned (.tuple #[.int .u64 (r.c+4+8*i),.int .i64 8,.int .i64 0])∧Below w.heap.size w w':=by
 have hb:=h.bnd
 have e1:=zds (is:= [i]) (bs:= []) (vs:= []) h
 have e2:=zen (is:= [i]) (bs:= []) (vs:= []) h
 have e3:=zey (is:= [i]) (bs:= []) (vs:= []) h
 have e4:=zez (is:= [i]) (bs:= []) (vs:= []) h
 have q1:=h.dE
 have q2:=h.vE
 have q3:=h.cE
 have q4:=h.d0
 have q5:=h.v0
 have q6:=h.c0
 have e5:(ixv 4).den (rho r [i] [] [])=i:=zkW hi.1 (by show i<32768;omega)
 have w1:IntKind.wrap .u64 (8*i)=8*i:=zaL (by omega) (by omega)
 have w3:IntKind.wrap .u64 (r.c+4)=r.c+4:=zaL (by omega) (by omega)
 have w2:IntKind.wrap .u64 (r.c+4+8*i)=r.c+4+8*i:=zaL (by omega) (by omega)
 refine Calls.mono (zav (ρ:=(rho r [i] [] [])) (K:=fun _=>False) (g:=Gho.none) (bl:= []) (vals:= [r.val,.int .i64 8,.int .i64 i]) mixed zDW zIa (fun _ h=>h.elim) trivial trivial zaB ⟨zas (Dw.enters_of (by kernel_rfl)) rfl [r.val] (.int .i64 0) (fun j=>zab (R_rg h) RL.nil) (fun j=>zac rfl) (fun w _ _ _=>zfm r h w),trivial⟩ (zab (R_rg h) (zab (zac rfl) (zab (zac e5) RL.nil))) (zaa.2 ⟨by rw [zcH,e5,e1];simp;omega,zad.2 trivial⟩)) fun e w' hh=> ?_
 obtain ⟨_,j,he⟩:=zbd hh
 refine ⟨he.ret.trans ?_,zam he (fun _ h=>h)⟩
 simp only [AV.val,AV.valL,den_add,den_mul,zaf,e1,e2,e3,e4,e5,w1,w3,w2]
structure Tryz.Sg where
 at1:Int
 len:Int
 wr:Bool
deriving DecidableEq
def Tryz.Sg.cells (x:Sg):List Value:= [.int .u64 x.at1,.int .u32 x.len,.bool x.wr]
def Tryz.zaP (l:List Sg):List Value:=l.flatMap Sg.cells
def Tryz.Sg.ok (x:Sg):Prop:=0≤x.at1∧x.at1<18446744073709551616∧0≤x.len∧x.len<4294967296
theorem Tryz.zgy (x:Sg) (r:List Sg):zaP (x::r)= .int .u64 x.at1:: .int .u32 x.len:: .bool x.wr::zaP r:=rfl
theorem Tryz.zcd (l:List Sg):(zaP l).length=3*l.length:=by
 induction l with
 | nil=>rfl
 | cons x r ih=>
  rw [zgy]
  simp only [List.length_cons,ih]
  omega
theorem Tryz.zpX (l:List Sg) (i:Nat) (hi:i<l.length):(zaP l)[3*i]? =some (.int .u64 l[i].at1)∧(zaP l)[3*i+1]? =some (.int .u32 l[i].len)∧(zaP l)[3*i+2]? =some (.bool l[i].wr):=by
 induction l generalizing i with
 | nil=>simp at hi
 | cons x r ih=>
  cases i with
  | zero=>exact ⟨rfl,rfl,rfl⟩
  | succ i=>
   have h:=ih i (by simpa using hi)
   rw [zgy,show 3*(i+1)=3*i+1+1+1 by omega,show 3*i+1+1+1+1=(3*i+1)+1+1+1 by omega,show 3*i+1+1+1+2=(3*i+2)+1+1+1 by omega]
   simp only [List.getElem?_cons_succ,List.getElem_cons_succ]
   exact h
theorem Tryz.zpW (l:List Sg): ∀v∈zaP l,v.oneCell'=true:=fun v hv=>by
 simp only [zaP,List.mem_flatMap,Sg.cells,List.mem_cons,List.not_mem_nil,or_false] at hv
 obtain ⟨x,_,rfl|rfl|rfl⟩:=hv<;>rfl
theorem Tryz.zbZ {w:World} {R o:Nat} {l:List Sg} (h:w.rangeAt R o (zaP l)) (k:Nat) (hk:k<l.length):w.rangeAt R (o+3*k) l[k].cells:=fun j v hv=>by
 obtain ⟨h0,h1,h2⟩:=zpX l k hk
 match j,hv with
 | 0,hv=>cases hv;exact h _ _ h0
 | 1,hv=>cases hv;have:=h _ _ h1;rwa [←Nat.add_assoc] at this
 | 2,hv=>cases hv;have:=h _ _ h2;rwa [←Nat.add_assoc] at this
 | j+3,hv=>cases hv
def Tryz.SegV (A:Nat→Prop) (w:World) (v:Value) (l:List Sg):Prop:=
 ∃ (sa:Option Addr) (c:Nat),v= .slice sa l.length c∧(∀x∈l,x.ok)∧(l= []∨ ∃R o,sa=some ⟨R,o,none⟩∧ ¬A R∧w.rangeAt R o (zaP l))
theorem Tryz.zci {w:World} {R o:Nat} {l:List Sg} (h:w.rangeAt R o (zaP l)) (h0:l≠ []):R<w.heap.size:=by
 have h1:0<(zaP l).length:=by
  rw [zcd]
  have:=List.length_pos_iff.2 h0
  omega
 exact World.block_lt_of_cell? w ⟨R,o+0,none⟩ (h 0 _ (List.getElem?_eq_getElem h1))
theorem Tryz.SegV.kept {A:Nat→Prop} {w w':World} {v:Value} {l:List Sg} (h:SegV A w v l) (hk: ∀k,k<w.heap.size→ ¬A k→w'.heap[k]? =w.heap[k]?):SegV A w' v l:=by
 obtain ⟨sa,c,rfl,hl,hr⟩:=h
 refine ⟨sa,c,rfl,hl,?_⟩
 rcases hr with h0|⟨R,o,rfl,hn,hr⟩
 ·exact Or.inl h0
 ·by_cases h0:l= []
  ·exact Or.inl h0
  ·exact Or.inr ⟨R,o,rfl,hn,zaJ hr (hk R (zci hr h0) hn)⟩
theorem Tryz.SegV.below {A:Nat→Prop} {w w':World} {v:Value} {l:List Sg} (h:SegV A w v l) (hb:Below w.heap.size w w'):SegV A w' v l:=h.kept (fun k hk _=>hb.block k hk)
theorem Tryz.SegV.one {A:Nat→Prop} {w:World} {v:Value} {l:List Sg} (h:SegV A w v l):v.oneCell'=true:=by
 obtain ⟨sa,c,rfl,_⟩:=h
 rfl
def Tryz.zbz (k:Int):List (Int×List Sg)→Option (List Sg)
 | [] => none
 | e::r=>if k=e.1 then some e.2 else zbz k r
def Tryz.zeD (k:Int):List (Int×List Sg)→List (Int×List Sg)
 | [] => []
 | e::r=>if k=e.1 then r else e::zeD k r
structure Tryz.TkW (A:Nat→Prop) (w:World) (M:Nat) (tk:List (Int×List Sg)):Prop where
 map: ∃arr clock,w.heap[M]? =some (.map arr clock)∧(zc8 arr∧Born arr clock)∧ ∀k:Int,(zbz k tk=none→zbb arr k=none)∧ ∀l,zbz k tk=some l→ ∃v,zbb arr k=some v∧SegV A w v l
 keys:(tk.map (·.1)).Nodup
 u16: ∀e∈tk,0≤e.1∧e.1<65536
theorem Tryz.TkW.kept {A:Nat→Prop} {w w':World} {M:Nat} {tk:List (Int×List Sg)} (h:TkW A w M tk) (hM:w'.heap[M]? =w.heap[M]?) (hk: ∀k,k<w.heap.size→ ¬A k→w'.heap[k]? =w.heap[k]?):TkW A w' M tk:=by
 obtain ⟨arr,clock,h1,h2,h3⟩:=h.map
 refine ⟨⟨arr,clock,hM.trans h1,h2,fun k=>⟨(h3 k).1,fun l hl=> ?_⟩⟩,h.keys,h.u16⟩
 obtain ⟨v,h4,h5⟩:=(h3 k).2 l hl
 exact ⟨v,h4,h5.kept hk⟩
theorem Tryz.zi8 {k:Int} {l:List Sg}: ∀ {tk:List (Int×List Sg)},zbz k tk=some l→(k,l)∈tk
 | [], h=>by cases h
 | e::r,h=>by
  unfold zbz at h
  split at h
  ·rename_i he;cases h;exact List.mem_cons.2 (.inl (by rw [he]))
  ·exact List.mem_cons_of_mem _ (zi8 h)
theorem Tryz.zlE {k h:Int} {l:List Sg}: ∀ {tk:List (Int×List Sg)},zbz h tk=none→zbz k (tk++ [(h,l)])=if k=h then some l else zbz k tk
 | [], _=>by simp only [List.nil_append,zbz]
 | e::r,hn=>by
  unfold zbz at hn
  split at hn
  ·cases hn
  ·rename_i hne
   simp only [List.cons_append,zbz]
   rw [zlE hn]
   by_cases hk:k=e.1
   ·rw [if_pos hk,if_neg (fun hh=>hne (by rw [←hh,hk])),if_pos hk]
   ·rw [if_neg hk,if_neg hk]
theorem Tryz.zdM {k:Int}: ∀ {tk:List (Int×List Sg)},zbz k tk=none↔k∉tk.map (·.1)
 | [] => by simp [zbz]
 | e::r=>by
  unfold zbz
  by_cases h:k=e.1
  ·simp [h]
  ·rw [if_neg h,zdM (tk:=r)]
   simp [h]
theorem Tryz.ze9 (k:Int): ∀(tk:List (Int×List Sg)),(zeD k tk).Sublist tk
 | [] => List.Sublist.refl _
 | e::r=>by
  unfold zeD
  split
  ·exact List.sublist_cons_self ..
  ·exact (ze9 k r).cons_cons _
theorem Tryz.zoT {k h:Int}: ∀ {tk:List (Int×List Sg)},(tk.map (·.1)).Nodup→zbz k (zeD h tk)=if k=h then none else zbz k tk
 | [], _=>by simp [zeD,zbz]
 | e::r,hn=>by
  rw [List.map_cons,List.nodup_cons] at hn
  unfold zeD
  by_cases hh:h=e.1
  ·rw [if_pos hh]
   by_cases hk:k=h
   ·rw [if_pos hk]
    exact zdM.2 (by rw [hk,hh];exact hn.1)
   ·rw [if_neg hk]
    unfold zbz
    rw [if_neg (fun e'=>hk (e'.trans hh.symm))]
    cases r<;>simp only [zbz]
  ·rw [if_neg hh]
   unfold zbz
   rw [zoT hn.2]
   by_cases hk:k=e.1
   ·rw [if_pos hk,if_pos hk,if_neg (fun e'=>hh (e'.symm.trans hk))]
   ·rw [if_neg hk,if_neg hk]
structure Tryz.SS where
 ev:Bool
 tb:Bool
 pk:Bool
 nx:Int
 us:Int
 tk:List (Int×List Sg)
 ph:Nat
 op:Int
 nn:Bool
 hd:Int
 sg:List Sg
 wr:Int
 it:Bool
 dn:Bool
 br:Bool
def Tryz.SS.row (s:SS) (r:Rg) (P M:Nat) (nv sv:Value):List Value:=
 [.pointer (some ⟨P,0,.none⟩),.bool false,.int .i64 r.n,.int .u64 r.d,.int .u64 r.v,.int .u64 r.c,.bool s.ev,.bool s.tb,.bool s.pk,.int .u16 s.nx,.int .u16 s.us,.map (some M),nv,
  .int .i64 s.op,.bool s.nn,.int .i64 s.hd,sv,.int .u32 s.wr,.bool s.it,.bool s.dn,.bool s.br]
def Tryz.zin (S fn:Nat):Value:= .func (.func fn) #[.pointer (some ⟨S,0,none⟩)] #[]
def Tryz.sFn (ph:Nat):Option Nat:=
 match ph with
 | 1=>some 55|2=>some 84|4=>some 114|6=>some 83|7=>some 113
 | 11=>some 61|13=>some 89|15=>some 119
 | _=>none
def Tryz.zz2 (ph:Nat):Option Nat:=
 match ph with
 | 3=>some 114|5=>some 83|12=>some 89|14=>some 119
 | _=>none
inductive Tryz.zew (A:Nat→Prop) (w:World) (S:Nat) (ph:Nat) (v:Value):Prop where
 | idle (h:ph=0) (hv:v= .nilFunc)
 | meth (f:Nat) (h:sFn ph=some f) (hv:v=zin S f)
 | fence (f X Y:Nat) (h:zz2 ph=some f) (hv:v= .func (.func 112) #[] #[.pointer (some ⟨X,0,none⟩),.pointer (some ⟨Y,0,none⟩)])
   (hX:Row w ⟨X,0,0,none⟩ [zin S f]) (hY:Row w ⟨Y,0,0,none⟩ [.pointer (some ⟨S,0,none⟩)]) (aX: ¬A X) (aY: ¬A Y)
theorem Tryz.zfQ {w:World} {L:Dw.Loc} {vals:List Value} (h:Row w L vals):L.blk<w.heap.size:=by
 obtain ⟨arr,e,fr,h1,_⟩:=h
 exact (Array.getElem?_eq_some_iff.1 h1).1
theorem Tryz.zew.kept {A:Nat→Prop} {w w':World} {S ph:Nat} {v:Value} (h:zew A w S ph v) (hk: ∀k,k<w.heap.size→ ¬A k→w'.heap[k]? =w.heap[k]?):zew A w' S ph v:=by
 cases h with
 | idle h hv=>exact .idle h hv
 | meth f h hv=>exact .meth f h hv
 | fence f X Y h hv hX hY aX aY=>exact .fence f X Y h hv (hX.kept (hk X (zfQ hX) aX)) (hY.kept (hk Y (zfQ hY) aY)) aX aY
structure Tryz.SrvW (A:Nat→Prop) (w:World) (S P M:Nat) (r:Rg) (s:SS):Prop where
 obj: ∃nv sv,Own w S (s.row r P M nv sv)∧zew A w S s.ph nv∧SegV A w sv s.sg
 tk:TkW A w M s.tk
 ne:S≠M
 aS:A S
 aM:A M
 rg:RgOk r
 nx:0≤s.nx∧s.nx<65536
 us:0≤s.us∧s.us<65536
 hd:0≤s.hd∧s.hd<65536
 wr:0≤s.wr∧s.wr<4294967296
theorem Tryz.SrvW.kept {A:Nat→Prop} {w w':World} {S P M:Nat} {r:Rg} {s:SS} (h:SrvW A w S P M r s) (hS:w'.heap[S]? =w.heap[S]?) (hM:w'.heap[M]? =w.heap[M]?) (hk: ∀k,k<w.heap.size→ ¬A k→w'.heap[k]? =w.heap[k]?):SrvW A w' S P M r s:=by
 obtain ⟨nv,sv,h1,h2,h3⟩:=h.obj
 exact ⟨⟨nv,sv,h1.kept hS,h2.kept hk,h3.kept hk⟩,h.tk.kept hM hk,h.ne,h.aS,h.aM,h.rg,h.nx,h.us,h.hd,h.wr⟩
theorem Tryz.SrvW.ltS {A:Nat→Prop} {w:World} {S P M:Nat} {r:Rg} {s:SS} (h:SrvW A w S P M r s):S<w.heap.size:=by
 obtain ⟨nv,sv,h1,_⟩:=h.obj
 exact zeN h1
theorem Tryz.SrvW.ltM {A:Nat→Prop} {w:World} {S P M:Nat} {r:Rg} {s:SS} (h:SrvW A w S P M r s):M<w.heap.size:=by
 obtain ⟨arr,clock,h1,_⟩:=h.tk.map
 exact (Array.getElem?_eq_some_iff.1 h1).1
def Tryz.srow (next:AV) (dn br:SB):List AV:=
  [.cst 0 none,.bool (.lit false),.int .i64 (szv 0),.int .u64 (u64v 1),.int .u64 (u64v 2),.int .u64 (u64v 3),.bool (.var 0),.bool (.var 1),.bool (.var 2),.int .u16 (u16v 4),.int .u16 (u16v 5),.map 2,next,
   .int .i64 (.var 6),.bool (.var 3),.int .i64 (u16v 7),.cst 1 none,.int .u32 (u32v 8),.bool (.var 4),.bool dn,.bool br]
def Tryz.zgh (what:Int) (i:SE) (wide:Int):Ent:=⟨120,[rg,.int .i64 (.lit what),.int .i64 i],0,0,0,.tup [.int .u64 (u64v 10),.int .i64 (.lit wide),.int .i64 (.lit 0)],0⟩
def Tryz.zxX:Ent:=⟨21,[.cst 0 none,.int .u64 (u64v 10),.int .i64 (.lit 2)],0,0,0,.tup [.int .u64 (u16v 11),.int .i64 (.lit 0)],0⟩
def Tryz.zux (wide:Int) (v:SE):Ent:=⟨26,[.cst 0 none,.int .u64 (u64v 10),.int .i64 (.lit wide),.int .u64 v],0,0,0,.int .i64 (.lit 0),1⟩
def Tryz.zfX (f:Nat):AV:= .func f [.ptr 1 0] []
def Tryz.shs (next:AV):List Sh:= [.own (srow next (.var 5) (.lit false)),.mapx []]
def Tryz.shsF (f:Nat):List Sh:= [.own (srow (.func 112 [] [.ptr 3 0,.ptr 4 0]) (.var 5) (.lit false)),.mapx [],.ro [zfX f],.ro [.ptr 1 0]]
def Tryz.shsK (next:AV) (k:AV) (v:Option AV):List Sh:= [.own (srow next (.var 5) (.lit false)),.mapx [(k,v)]]
def Tryz.zuO (e:SE):Ent:=⟨128,[.cst 0 none,rg,.int .i64 (u16v 7),.bool (.var 1)],0,6,1,.tup [.opq 6 none,.int .i64 e],1⟩
def Tryz.zCy:Ent:=⟨57,[.opq 6 none],1,7,1,.opq 7 none,2⟩
end Go.Proofs
namespace Go.Proofs
open Go.Dw
def Tryz.zlY:List Ent:= [zgh 3 (.lit 0) 2,zxX]
def Tryz.zpw:List Sh:=shs (zfX 55)
def Tryz.zlZ:List AV:= [.ptr 1 0]
def Tryz.zzI:List (SB×Bool):= []
def Tryz.zuR:List Leaf:= [
 ⟨.tup [.agg [.int .i64 (.lit 2),.int .i64 (.lit 3),.int .i64 (.lit 0)],.int .i64 (.lit 4)],[(1,[.cst 0 none,.bool (.lit false),.int .i64 (szv 0),.int .u64 (u64v 1),.int .u64 (u64v 2),.int .u64 (u64v 3),.bool (.var 0),.bool (.var 1),.bool (.var 2),.int .u16 (u16v 4),.int .u16 (u16v 5),.map 2,.nilf,.int .i64 (.lit 0),.bool (.lit false),.int .i64 (.lit 0),.nils,.int .u32 (.lit 0),.bool (.lit false),.bool (.var 5),.bool (.lit true)])],[(2,[])],0,[1]⟩,
 ⟨.tup [.agg [.int .i64 (.lit 2),.int .i64 (.lit 3),.int .i64 (.lit 0)],.int .i64 (.lit 0)],[(1,[.cst 0 none,.bool (.lit false),.int .i64 (szv 0),.int .u64 (u64v 1),.int .u64 (u64v 2),.int .u64 (u64v 3),.bool (.var 0),.bool (.var 1),.bool (.var 2),.int .u16 (u16v 4),.int .u16 (u16v 5),.map 2,.func 112 [] [.ptr 10 0,.ptr 9 0],.int .i64 (.var 6),.bool (.var 3),.int .i64 (u16v 7),.cst 1 none,.int .u32 (u32v 8),.bool (.var 4),.bool (.lit false),.bool (.lit false)]),(9,[.ptr 1 0]),(10,[.func 83 [.ptr 1 0] []])],[(2,[])],0,[1,9,10]⟩,
 ⟨.tup [.agg [.int .i64 (.lit 2),.int .i64 (.lit 3),.int .i64 (.lit 0)],.int .i64 (.lit 0)],[(1,[.cst 0 none,.bool (.lit false),.int .i64 (szv 0),.int .u64 (u64v 1),.int .u64 (u64v 2),.int .u64 (u64v 3),.bool (.var 0),.bool (.var 1),.bool (.var 2),.int .u16 (u16v 4),.int .u16 (u16v 5),.map 2,.func 84 [.ptr 1 0] [],.int .i64 (.var 6),.bool (.var 3),.int .i64 (u16v 7),.cst 1 none,.int .u32 (u32v 8),.bool (.var 4),.bool (.lit false),.bool (.lit false)])],[(2,[])],0,[1]⟩,
 ⟨.tup [.agg [.int .i64 (.lit 2),.int .i64 (.lit 3),.int .i64 (.lit 0)],.int .i64 (.lit 0)],[(1,[.cst 0 none,.bool (.lit false),.int .i64 (szv 0),.int .u64 (u64v 1),.int .u64 (u64v 2),.int .u64 (u64v 3),.bool (.var 0),.bool (.var 1),.bool (.var 2),.int .u16 (u16v 4),.int .u16 (u16v 5),.map 2,.nilf,.int .i64 (.var 6),.bool (.lit true),.int .i64 (u16v 7),.cst 1 none,.int .u32 (u32v 8),.bool (.var 4),.bool (.lit true),.bool (.lit false)])],[(2,[])],0,[1]⟩]
def Tryz.zuQ:List (List (SB×Bool)×Nat):= [
 ([((.cmp .gtr (.bin .sub .u16 (u16v 11) (u16v 4)) (.lit 0)),true),((.cmp .leq (.bin .sub .u16 (u16v 11) (u16v 4)) (szv 0)),false)],0),
 ([((.cmp .gtr (.bin .sub .u16 (u16v 11) (u16v 4)) (.lit 0)),true),((.cmp .leq (.bin .sub .u16 (u16v 11) (u16v 4)) (szv 0)),true)],1),
 ([((.cmp .gtr (.bin .sub .u16 (u16v 11) (u16v 4)) (.lit 0)),false),(.var 0,true),((.cmp .leq (.bin .sub .u16 (u16v 11) (u16v 4)) (szv 0)),false)],0),
 ([((.cmp .gtr (.bin .sub .u16 (u16v 11) (u16v 4)) (.lit 0)),false),(.var 0,true),((.cmp .leq (.bin .sub .u16 (u16v 11) (u16v 4)) (szv 0)),true)],2),
 ([((.cmp .gtr (.bin .sub .u16 (u16v 11) (u16v 4)) (.lit 0)),false),(.var 0,false),((.cmp .leq (.bin .sub .u16 (u16v 11) (u16v 4)) (szv 0)),false)],0),
 ([((.cmp .gtr (.bin .sub .u16 (u16v 11) (u16v 4)) (.lit 0)),false),(.var 0,false),((.cmp .leq (.bin .sub .u16 (u16v 11) (u16v 4)) (szv 0)),true)],3)]
theorem Tryz.zzH:(ev prog (zau zlY) 100000 (.call 28 zlZ (zar 0 zpw) (zaK zuR 0))).ways zzI=some zuQ:=by kernel_rfl
theorem Tryz.zDF:(zah zpw&&zae zlY&&AV.smallL zlZ&&zaj zuR)=true:=by kernel_rfl
def Tryz.zjI:List Ent:= [zgh 9 (.lit 0) 2,zux 2 (u16v 4)]
def Tryz.zl9:List Sh:=shs (zfX 84)
def Tryz.zjJ:List AV:= [.ptr 1 0]
def Tryz.zxq:List (SB×Bool):= []
def Tryz.zpQ:List Leaf:= [
 ⟨.tup [.agg [.int .i64 (.lit 3),.int .i64 (.lit 9),.int .i64 (.lit 0)],.int .i64 (.lit 0)],[(1,[.cst 0 none,.bool (.lit false),.int .i64 (szv 0),.int .u64 (u64v 1),.int .u64 (u64v 2),.int .u64 (u64v 3),.bool (.var 0),.bool (.var 1),.bool (.var 2),.int .u16 (u16v 4),.int .u16 (u16v 5),.map 2,.func 112 [] [.ptr 6 0,.ptr 5 0],.int .i64 (.var 6),.bool (.var 3),.int .i64 (u16v 7),.cst 1 none,.int .u32 (u32v 8),.bool (.var 4),.bool (.lit false),.bool (.lit false)]),(5,[.ptr 1 0]),(6,[.func 114 [.ptr 1 0] []])],[(2,[])],1,[1,5,6]⟩]
def Tryz.zpP:List (List (SB×Bool)×Nat):= [
 ([], 0)]
theorem Tryz.zxp:(ev prog (zau zjI) 100000 (.call 28 zjJ (zar 0 zl9) (zaK zpQ 0))).ways zxq=some zpP:=by kernel_rfl
theorem Tryz.zzR:(zah zl9&&zae zjI&&AV.smallL zjJ&&zaj zpQ)=true:=by kernel_rfl
def Tryz.zhT:List Ent:= []
def Tryz.zjD:List Sh:=shsF 114
def Tryz.zhU:List AV:= [.ptr 1 0]
def Tryz.zsN:List (SB×Bool):= []
def Tryz.zl8:List Leaf:= [
 ⟨.tup [.agg [.int .i64 (.lit 4),.int .i64 (.lit 0),.int .i64 (.lit 0)],.int .i64 (.lit 0)],[(1,[.cst 0 none,.bool (.lit false),.int .i64 (szv 0),.int .u64 (u64v 1),.int .u64 (u64v 2),.int .u64 (u64v 3),.bool (.var 0),.bool (.var 1),.bool (.var 2),.int .u16 (u16v 4),.int .u16 (u16v 5),.map 2,.func 114 [.ptr 1 0] [],.int .i64 (.var 6),.bool (.var 3),.int .i64 (u16v 7),.cst 1 none,.int .u32 (u32v 8),.bool (.var 4),.bool (.lit false),.bool (.lit false)])],[(2,[])],0,[1]⟩]
def Tryz.zl7:List (List (SB×Bool)×Nat):= [
 ([], 0)]
theorem Tryz.zsM:(ev prog (zau zhT) 100000 (.call 28 zhU (zar 0 zjD) (zaK zl8 0))).ways zsN=some zl7:=by kernel_rfl
theorem Tryz.zxo:(zah zjD&&zae zhT&&AV.smallL zhU&&zaj zl8)=true:=by kernel_rfl
def Tryz.zjR:List Ent:= [zgh 3 (.lit 0) 2,zxX]
def Tryz.zmf:List Sh:=shs (zfX 114)
def Tryz.zjS:List AV:= [.ptr 1 0]
def Tryz.zxy:List (SB×Bool):= []
def Tryz.zp1:List Leaf:= [
 ⟨.tup [.agg [.int .i64 (.lit 2),.int .i64 (.lit 3),.int .i64 (.lit 0)],.int .i64 (.lit 4)],[(1,[.cst 0 none,.bool (.lit false),.int .i64 (szv 0),.int .u64 (u64v 1),.int .u64 (u64v 2),.int .u64 (u64v 3),.bool (.var 0),.bool (.var 1),.bool (.var 2),.int .u16 (u16v 4),.int .u16 (u16v 5),.map 2,.nilf,.int .i64 (.lit 0),.bool (.lit false),.int .i64 (.lit 0),.nils,.int .u32 (.lit 0),.bool (.lit false),.bool (.var 5),.bool (.lit true)])],[(2,[])],0,[1]⟩,
 ⟨.tup [.agg [.int .i64 (.lit 2),.int .i64 (.lit 3),.int .i64 (.lit 0)],.int .i64 (.lit 0)],[(1,[.cst 0 none,.bool (.lit false),.int .i64 (szv 0),.int .u64 (u64v 1),.int .u64 (u64v 2),.int .u64 (u64v 3),.bool (.var 0),.bool (.var 1),.bool (.var 2),.int .u16 (u16v 4),.int .u16 (u16v 5),.map 2,.func 112 [] [.ptr 10 0,.ptr 9 0],.int .i64 (.var 6),.bool (.var 3),.int .i64 (u16v 7),.cst 1 none,.int .u32 (u32v 8),.bool (.var 4),.bool (.lit false),.bool (.lit false)]),(9,[.ptr 1 0]),(10,[.func 83 [.ptr 1 0] []])],[(2,[])],0,[1,9,10]⟩,
 ⟨.tup [.agg [.int .i64 (.lit 2),.int .i64 (.lit 3),.int .i64 (.lit 0)],.int .i64 (.lit 0)],[(1,[.cst 0 none,.bool (.lit false),.int .i64 (szv 0),.int .u64 (u64v 1),.int .u64 (u64v 2),.int .u64 (u64v 3),.bool (.var 0),.bool (.var 1),.bool (.var 2),.int .u16 (u16v 4),.int .u16 (u16v 5),.map 2,.nilf,.int .i64 (.var 6),.bool (.lit true),.int .i64 (u16v 7),.cst 1 none,.int .u32 (u32v 8),.bool (.var 4),.bool (.lit true),.bool (.lit false)])],[(2,[])],0,[1]⟩]
def Tryz.zp0:List (List (SB×Bool)×Nat):= [
 ([((.cmp .gtr (.bin .sub .u16 (u16v 11) (u16v 4)) (.lit 0)),true),((.cmp .leq (.bin .sub .u16 (u16v 11) (u16v 4)) (szv 0)),false)],0),
 ([((.cmp .gtr (.bin .sub .u16 (u16v 11) (u16v 4)) (.lit 0)),true),((.cmp .leq (.bin .sub .u16 (u16v 11) (u16v 4)) (szv 0)),true)],1),
 ([((.cmp .gtr (.bin .sub .u16 (u16v 11) (u16v 4)) (.lit 0)),false),((.cmp .leq (.bin .sub .u16 (u16v 11) (u16v 4)) (szv 0)),false)],0),
 ([((.cmp .gtr (.bin .sub .u16 (u16v 11) (u16v 4)) (.lit 0)),false),((.cmp .leq (.bin .sub .u16 (u16v 11) (u16v 4)) (szv 0)),true)],2)]
theorem Tryz.zxx:(ev prog (zau zjR) 100000 (.call 28 zjS (zar 0 zmf) (zaK zp1 0))).ways zxy=some zp0:=by kernel_rfl
theorem Tryz.zzZ:(zah zmf&&zae zjR&&AV.smallL zjS&&zaj zp1)=true:=by kernel_rfl
def Tryz.zhR:List Ent:= []
def Tryz.zjC:List Sh:=shsF 83
def Tryz.zhS:List AV:= [.ptr 1 0]
def Tryz.zsL:List (SB×Bool):= []
def Tryz.zl6:List Leaf:= [
 ⟨.tup [.agg [.int .i64 (.lit 4),.int .i64 (.lit 0),.int .i64 (.lit 0)],.int .i64 (.lit 0)],[(1,[.cst 0 none,.bool (.lit false),.int .i64 (szv 0),.int .u64 (u64v 1),.int .u64 (u64v 2),.int .u64 (u64v 3),.bool (.var 0),.bool (.var 1),.bool (.var 2),.int .u16 (u16v 4),.int .u16 (u16v 5),.map 2,.func 83 [.ptr 1 0] [],.int .i64 (.var 6),.bool (.var 3),.int .i64 (u16v 7),.cst 1 none,.int .u32 (u32v 8),.bool (.var 4),.bool (.lit false),.bool (.lit false)])],[(2,[])],0,[1]⟩]
def Tryz.zl5:List (List (SB×Bool)×Nat):= [
 ([], 0)]
theorem Tryz.zsK:(ev prog (zau zhR) 100000 (.call 28 zhS (zar 0 zjC) (zaK zl6 0))).ways zsL=some zl5:=by kernel_rfl
theorem Tryz.zxn:(zah zjC&&zae zhR&&AV.smallL zhS&&zaj zl6)=true:=by kernel_rfl
def Tryz.zlN:List Ent:= [zgh 4 (.bin .rem .i64 (u16v 4) (szv 0)) 2,zxX]
def Tryz.zpq:List Sh:=shs (zfX 83)
def Tryz.zlO:List AV:= [.ptr 1 0]
def Tryz.zzw:List (SB×Bool):= []
def Tryz.zuJ:List Leaf:= [
 ⟨.tup [.agg [.int .i64 (.lit 2),.int .i64 (.lit 4),.int .i64 (.bin .rem .i64 (u16v 4) (szv 0))],.int .i64 (.lit 0)],[(1,[.cst 0 none,.bool (.lit false),.int .i64 (szv 0),.int .u64 (u64v 1),.int .u64 (u64v 2),.int .u64 (u64v 3),.bool (.var 0),.bool (.var 1),.bool (.var 2),.int .u16 (u16v 4),.int .u16 (u16v 5),.map 2,.func 113 [.ptr 1 0] [],.int .i64 (.var 6),.bool (.var 3),.int .i64 (u16v 11),.cst 1 none,.int .u32 (u32v 8),.bool (.var 4),.bool (.lit false),.bool (.lit false)])],[(2,[])],0,[1]⟩]
def Tryz.zuI:List (List (SB×Bool)×Nat):= [
 ([], 0)]
theorem Tryz.zzv:(ev prog (zau zlN) 100000 (.call 28 zlO (zar 0 zpq) (zaK zuJ 0))).ways zzw=some zuI:=by kernel_rfl
theorem Tryz.zDz:(zah zpq&&zae zlN&&AV.smallL zlO&&zaj zuJ)=true:=by kernel_rfl
def Tryz.zjN:List Ent:= [zuO (.lit 0),zCy]
def Tryz.zmb:List Sh:=shsK (zfX 113) (.int .i64 (u16v 7)) none
def Tryz.zjO:List AV:= [.ptr 1 0]
def Tryz.zxt:List (SB×Bool):= []
def Tryz.zpZ:List Leaf:= [
 ⟨.tup [.agg [.int .i64 (.lit 1),.int .i64 (.lit 0),.int .i64 (.lit 0)],.int .i64 (.lit 0)],[(1,[.cst 0 none,.bool (.lit false),.int .i64 (szv 0),.int .u64 (u64v 1),.int .u64 (u64v 2),.int .u64 (u64v 3),.bool (.var 0),.bool (.var 1),.bool (.var 2),.int .u16 (.bin .add .u16 (u16v 4) (.lit 1)),.int .u16 (u16v 5),.map 2,.nilf,.int .i64 (.var 6),.bool (.var 3),.int .i64 (u16v 7),.opq 7 none,.int .u32 (u32v 8),.bool (.var 4),.bool (.lit true),.bool (.lit false)])],[(2,[(.int .i64 (u16v 7),some (.opq 6 none)),(.int .i64 (u16v 7),some (.nils))])],2,[1]⟩]
def Tryz.zzV:List (List (SB×Bool)×Nat):= [
 ([], 0)]
theorem Tryz.zxs:(ev prog (zau zjN) 100000 (.call 28 zjO (zar 0 zmb) (zaK zpZ 0))).ways zxt=some zzV:=by kernel_rfl
theorem Tryz.zzW:(zah zmb&&zae zjN&&AV.smallL zjO&&zaj zpZ)=true:=by kernel_rfl
def Tryz.zh2:List Ent:= [zuO (.var 11)]
def Tryz.zjQ:List Sh:=shsK (zfX 113) (.int .i64 (u16v 7)) none
def Tryz.zh3:List AV:= [.ptr 1 0]
def Tryz.zsU:List (SB×Bool):= [(.cmp .neq (.var 11) (.lit 0),true)]
def Tryz.zme:List Leaf:= [
 ⟨.tup [.agg [.int .i64 (.lit 1),.int .i64 (.lit 0),.int .i64 (.lit 0)],.int .i64 (.lit 4)],[(1,[.cst 0 none,.bool (.lit false),.int .i64 (szv 0),.int .u64 (u64v 1),.int .u64 (u64v 2),.int .u64 (u64v 3),.bool (.var 0),.bool (.var 1),.bool (.var 2),.int .u16 (u16v 4),.int .u16 (u16v 5),.map 2,.nilf,.int .i64 (.lit 0),.bool (.lit false),.int .i64 (.lit 0),.nils,.int .u32 (.lit 0),.bool (.lit false),.bool (.var 5),.bool (.lit true)])],[(2,[])],1,[1]⟩]
def Tryz.zxv:List (List (SB×Bool)×Nat):= [
 ([], 0)]
theorem Tryz.zsT:(ev prog (zau zh2) 100000 (.call 28 zh3 (zar 0 zjQ) (zaK zme 0))).ways zsU=some zxv:=by kernel_rfl
theorem Tryz.zxw:(zah zjQ&&zae zh2&&AV.smallL zh3&&zaj zme)=true:=by kernel_rfl
def Tryz.zh0:List Ent:= [zuO (.var 11)]
def Tryz.zjP:List Sh:=shsK (zfX 113) (.int .i64 (u16v 7)) (some (.cst 2 none))
def Tryz.zh1:List AV:= [.ptr 1 0]
def Tryz.zsS:List (SB×Bool):= []
def Tryz.zmd:List Leaf:= [
 ⟨.tup [.agg [.int .i64 (.lit 1),.int .i64 (.lit 0),.int .i64 (.lit 0)],.int .i64 (.lit 4)],[(1,[.cst 0 none,.bool (.lit false),.int .i64 (szv 0),.int .u64 (u64v 1),.int .u64 (u64v 2),.int .u64 (u64v 3),.bool (.var 0),.bool (.var 1),.bool (.var 2),.int .u16 (u16v 4),.int .u16 (u16v 5),.map 2,.nilf,.int .i64 (.lit 0),.bool (.lit false),.int .i64 (.lit 0),.nils,.int .u32 (.lit 0),.bool (.lit false),.bool (.var 5),.bool (.lit true)])],[(2,[])],1,[1]⟩]
def Tryz.zmc:List (List (SB×Bool)×Nat):= [
 ([((.cmp .neq (.var 11) (.lit 0)),true)],0),
 ([((.cmp .neq (.var 11) (.lit 0)),false)],0)]
theorem Tryz.zsR:(ev prog (zau zh0) 100000 (.call 28 zh1 (zar 0 zjP) (zaK zmd 0))).ways zsS=some zmc:=by kernel_rfl
theorem Tryz.zxu:(zah zjP&&zae zh0&&AV.smallL zh1&&zaj zmd)=true:=by kernel_rfl
def Tryz.zgu:List Ent:= [zgh 8 (.bin .rem .i64 (u16v 5) (szv 0)) 8,zux 8 (.flds [⟨7,0,65535,0,16,0⟩,⟨8,0,4294967295,0,32,32⟩] 0)]
def Tryz.zhY:List Sh:=shs (zfX 61)
def Tryz.zgv:List AV:= [.ptr 1 0]
def Tryz.zpT:List (SB×Bool):= []
def Tryz.zjL:List Leaf:= [
 ⟨.tup [.agg [.int .i64 (.lit 3),.int .i64 (.lit 8),.int .i64 (.bin .rem .i64 (u16v 5) (szv 0))],.int .i64 (.lit 0)],[(1,[.cst 0 none,.bool (.lit false),.int .i64 (szv 0),.int .u64 (u64v 1),.int .u64 (u64v 2),.int .u64 (u64v 3),.bool (.var 0),.bool (.var 1),.bool (.var 2),.int .u16 (u16v 4),.int .u16 (u16v 5),.map 2,.func 112 [] [.ptr 6 0,.ptr 5 0],.int .i64 (.var 6),.bool (.var 3),.int .i64 (u16v 7),.cst 1 none,.int .u32 (u32v 8),.bool (.var 4),.bool (.lit false),.bool (.lit false)]),(5,[.ptr 1 0]),(6,[.func 89 [.ptr 1 0] []])],[(2,[])],1,[1,5,6]⟩]
def Tryz.zjK:List (List (SB×Bool)×Nat):= [
 ([], 0)]
theorem Tryz.zpS:(ev prog (zau zgu) 100000 (.call 28 zgv (zar 0 zhY) (zaK zjL 0))).ways zpT=some zjK:=by kernel_rfl
theorem Tryz.zsQ:(zah zhY&&zae zgu&&AV.smallL zgv&&zaj zjL)=true:=by kernel_rfl
def Tryz.zgr:List Ent:= []
def Tryz.zhW:List Sh:=shsF 89
def Tryz.zgs:List AV:= [.ptr 1 0]
def Tryz.zpO:List (SB×Bool):= []
def Tryz.zjH:List Leaf:= [
 ⟨.tup [.agg [.int .i64 (.lit 4),.int .i64 (.lit 0),.int .i64 (.lit 0)],.int .i64 (.lit 0)],[(1,[.cst 0 none,.bool (.lit false),.int .i64 (szv 0),.int .u64 (u64v 1),.int .u64 (u64v 2),.int .u64 (u64v 3),.bool (.var 0),.bool (.var 1),.bool (.var 2),.int .u16 (u16v 4),.int .u16 (u16v 5),.map 2,.func 89 [.ptr 1 0] [],.int .i64 (.var 6),.bool (.var 3),.int .i64 (u16v 7),.cst 1 none,.int .u32 (u32v 8),.bool (.var 4),.bool (.lit false),.bool (.lit false)])],[(2,[])],0,[1]⟩]
def Tryz.zjG:List (List (SB×Bool)×Nat):= [
 ([], 0)]
theorem Tryz.zpN:(ev prog (zau zgr) 100000 (.call 28 zgs (zar 0 zhW) (zaK zjH 0))).ways zpO=some zjG:=by kernel_rfl
theorem Tryz.zsP:(zah zhW&&zae zgr&&AV.smallL zgs&&zaj zjH)=true:=by kernel_rfl
def Tryz.zjw:List Ent:= [zgh 7 (.lit 0) 2,zux 2 (.bin .add .u16 (u16v 5) (.lit 1))]
def Tryz.zl1:List Sh:=shs (zfX 89)
def Tryz.zjx:List AV:= [.ptr 1 0]
def Tryz.zxm:List (SB×Bool):= []
def Tryz.zpB:List Leaf:= [
 ⟨.tup [.agg [.int .i64 (.lit 3),.int .i64 (.lit 7),.int .i64 (.lit 0)],.int .i64 (.lit 0)],[(1,[.cst 0 none,.bool (.lit false),.int .i64 (szv 0),.int .u64 (u64v 1),.int .u64 (u64v 2),.int .u64 (u64v 3),.bool (.var 0),.bool (.var 1),.bool (.var 2),.int .u16 (u16v 4),.int .u16 (.bin .add .u16 (u16v 5) (.lit 1)),.map 2,.func 112 [] [.ptr 6 0,.ptr 5 0],.int .i64 (.var 6),.bool (.var 3),.int .i64 (u16v 7),.cst 1 none,.int .u32 (u32v 8),.bool (.var 4),.bool (.lit false),.bool (.lit false)]),(5,[.ptr 1 0]),(6,[.func 119 [.ptr 1 0] []])],[(2,[])],1,[1,5,6]⟩]
def Tryz.zpA:List (List (SB×Bool)×Nat):= [
 ([], 0)]
theorem Tryz.zxl:(ev prog (zau zjw) 100000 (.call 28 zjx (zar 0 zl1) (zaK zpB 0))).ways zxm=some zpA:=by kernel_rfl
theorem Tryz.zzJ:(zah zl1&&zae zjw&&AV.smallL zjx&&zaj zpB)=true:=by kernel_rfl
def Tryz.zgp:List Ent:= []
def Tryz.zhV:List Sh:=shsF 119
def Tryz.zgq:List AV:= [.ptr 1 0]
def Tryz.zpM:List (SB×Bool):= []
def Tryz.zjF:List Leaf:= [
 ⟨.tup [.agg [.int .i64 (.lit 4),.int .i64 (.lit 0),.int .i64 (.lit 0)],.int .i64 (.lit 0)],[(1,[.cst 0 none,.bool (.lit false),.int .i64 (szv 0),.int .u64 (u64v 1),.int .u64 (u64v 2),.int .u64 (u64v 3),.bool (.var 0),.bool (.var 1),.bool (.var 2),.int .u16 (u16v 4),.int .u16 (u16v 5),.map 2,.func 119 [.ptr 1 0] [],.int .i64 (.var 6),.bool (.var 3),.int .i64 (u16v 7),.cst 1 none,.int .u32 (u32v 8),.bool (.var 4),.bool (.lit false),.bool (.lit false)])],[(2,[])],0,[1]⟩]
def Tryz.zjE:List (List (SB×Bool)×Nat):= [
 ([], 0)]
theorem Tryz.zpL:(ev prog (zau zgp) 100000 (.call 28 zgq (zar 0 zhV) (zaK zjF 0))).ways zpM=some zjE:=by kernel_rfl
theorem Tryz.zsO:(zah zhV&&zae zgp&&AV.smallL zgq&&zaj zjF)=true:=by kernel_rfl
def Tryz.zjg:List Ent:= [zgh 2 (.lit 0) 2,zxX]
def Tryz.zlJ:List Sh:=shs (zfX 119)
def Tryz.zjh:List AV:= [.ptr 1 0]
def Tryz.zxc:List (SB×Bool):= [(.var 0,false)]
def Tryz.zpg:List Leaf:= [
 ⟨.tup [.agg [.int .i64 (.lit 2),.int .i64 (.lit 2),.int .i64 (.lit 0)],.int .i64 (.lit 0)],[(1,[.cst 0 none,.bool (.lit false),.int .i64 (szv 0),.int .u64 (u64v 1),.int .u64 (u64v 2),.int .u64 (u64v 3),.bool (.var 0),.bool (.var 1),.bool (.var 2),.int .u16 (u16v 4),.int .u16 (u16v 5),.map 2,.nilf,.int .i64 (.var 6),.bool (.var 3),.int .i64 (u16v 7),.cst 1 none,.int .u32 (u32v 8),.bool (.cmp .eql (.flds [⟨11,0,65535,0,1,0⟩] 0) (.lit 0)),.bool (.lit true),.bool (.lit false)])],[(2,[(.int .i64 (u16v 7),none)])],0,[1]⟩]
def Tryz.zpf:List (List (SB×Bool)×Nat):= [
 ([], 0)]
theorem Tryz.zxb:(ev prog (zau zjg) 100000 (.call 28 zjh (zar 0 zlJ) (zaK zpg 0))).ways zxc=some zpf:=by kernel_rfl
theorem Tryz.zzl:(zah zlJ&&zae zjg&&AV.smallL zjh&&zaj zpg)=true:=by kernel_rfl
def Tryz.zji:List Ent:= [zgh 5 (.lit 0) 2,zxX]
def Tryz.zlK:List Sh:=shs (zfX 119)
def Tryz.zjj:List AV:= [.ptr 1 0]
def Tryz.zxe:List (SB×Bool):= [(.var 0,true)]
def Tryz.zpi:List Leaf:= [
 ⟨.tup [.agg [.int .i64 (.lit 2),.int .i64 (.lit 5),.int .i64 (.lit 0)],.int .i64 (.lit 0)],[(1,[.cst 0 none,.bool (.lit false),.int .i64 (szv 0),.int .u64 (u64v 1),.int .u64 (u64v 2),.int .u64 (u64v 3),.bool (.var 0),.bool (.var 1),.bool (.var 2),.int .u16 (u16v 4),.int .u16 (u16v 5),.map 2,.nilf,.int .i64 (.var 6),.bool (.var 3),.int .i64 (u16v 7),.cst 1 none,.int .u32 (u32v 8),.bool (.cmp .lss (.bin .sub .u16 (.bin .sub .u16 (u16v 5) (u16v 11)) (.lit 1)) (.bin .sub .u16 (u16v 5) (.bin .sub .u16 (u16v 5) (.lit 1)))),.bool (.lit true),.bool (.lit false)])],[(2,[(.int .i64 (u16v 7),none)])],0,[1]⟩]
def Tryz.zph:List (List (SB×Bool)×Nat):= [
 ([], 0)]
theorem Tryz.zxd:(ev prog (zau zji) 100000 (.call 28 zjj (zar 0 zlK) (zaK zpi 0))).ways zxe=some zph:=by kernel_rfl
theorem Tryz.zzm:(zah zlK&&zae zji&&AV.smallL zjj&&zaj zpi)=true:=by kernel_rfl
def Tryz.zlT:List Ent:= []
def Tryz.zpt:List Sh:= [.own (srow .nilf (.var 5) (.lit false)),.mapx []]
def Tryz.zlU:List AV:= [.ptr 1 0]
def Tryz.zzC:List (SB×Bool):= []
def Tryz.zuN:List Leaf:= [
 ⟨.int .i64 (.lit 0),[(1,[.cst 0 none,.bool (.lit false),.int .i64 (szv 0),.int .u64 (u64v 1),.int .u64 (u64v 2),.int .u64 (u64v 3),.bool (.var 0),.bool (.var 1),.bool (.var 2),.int .u16 (u16v 4),.int .u16 (u16v 5),.map 2,.func 55 [.ptr 1 0] [],.int .i64 (.lit 3),.bool (.lit false),.int .i64 (.lit 0),.nils,.int .u32 (.lit 0),.bool (.lit false),.bool (.lit false),.bool (.lit false)])],[(2,[])],0,[1]⟩]
def Tryz.zDD:List (List (SB×Bool)×Nat):= [
 ([], 0)]
theorem Tryz.zzB:(ev prog (zau zlT) 100000 (.call 13 zlU (zar 0 zpt) (zaK zuN 0))).ways zzC=some zDD:=by kernel_rfl
theorem Tryz.zDE:(zah zpt&&zae zlT&&AV.smallL zlU&&zaj zuN)=true:=by kernel_rfl
open Go.RowKit
structure Tryz.SW (A:Nat→Prop) (w:World) (S P L Bs B M N:Nat) (r:Rg) (s:SS) (g:Nat→Int):Prop where
 srv:SrvW A w S P M r s
 mem:GM w P L Bs B N g
 hN:N≤1048576
 sd:S≠P∧S≠L∧S≠Bs∧S≠B
 md:M≠P∧M≠L∧M≠Bs∧M≠B
 aB:A B
 lt: ∀b,A b→b<w.heap.size
 fit:r.d+16*r.n≤N∧r.v+6+2*r.n≤N∧r.c+6+8*r.n≤N
def Tryz.sK (S M B b:Nat):Prop:=b=S∨b=M∨b=B
theorem Tryz.zKW {S:Nat→Prop} {a b:World} (h:Mv S a b):Dw.Mv S a b:=⟨h.os,h.tape,h.output,h.size,h.block⟩
def Tryz.memG (P L Bs B N:Nat) (gs:List (Nat→Int)):Gho where
 fact k _ F w:=F P∧F L∧F Bs∧F B∧ ∃g,gs[k]? =some g∧GM w P L Bs B N g
 loc:=fun k _ _ F w w' h _ hb hs=>by
  obtain ⟨h1,h2,h3,h4,g,h5,h6⟩:=h
  exact ⟨h1,h2,h3,h4,g,h5,h6.kept (fun b _ hb'=>by rcases hb' with rfl|rfl|rfl|rfl<;>exact hb _ (by assumption)) hs⟩
theorem Tryz.zbx {P L Bs B N:Nat} {g:Nat→Int} {gs:List (Nat→Int)} {bl:List (Nat×Nat)} {w:World} (h:GM w P L Bs B N g) (hn: ∀b,b=P∨b=L∨b=Bs∨b=B→ ¬Mine (jOf bl) b):(memG P L Bs B N (g::gs)).G 0 (jOf bl) w:=
 ⟨fun b=>b=P∨b=L∨b=Bs∨b=B,fun b hb=>⟨by rcases hb with rfl|rfl|rfl|rfl;exact h.pl;exact h.ll;exact h.sl;exact h.bl,hn b hb⟩,.inl rfl,.inr (.inl rfl),.inr (.inr (.inl rfl)),.inr (.inr (.inr rfl)),g,rfl,h⟩
theorem Tryz.zdh {P L Bs B N k:Nat} {gs:List (Nat→Int)} {j:J} {w:World} (h:(memG P L Bs B N gs).G k j w): ∃g,gs[k]? =some g∧GM w P L Bs B N g:=by
 obtain ⟨F,_,_,_,_,_,h⟩:=h
 exact h
structure Tryz.SDen (ρ:Val) (r:Rg) (s:SS) (p sv:Value):Prop where
 n:(szv 0).den ρ=r.n
 d:(u64v 1).den ρ=r.d
 v:(u64v 2).den ρ=r.v
 c:(u64v 3).den ρ=r.c
 nx:(u16v 4).den ρ=s.nx
 us:(u16v 5).den ρ=s.us
 op:ρ.i 6=s.op
 hd:(u16v 7).den ρ=s.hd
 wr:(u32v 8).den ρ=s.wr
 b0:ρ.b 0=s.ev
 b1:ρ.b 1=s.tb
 b2:ρ.b 2=s.pk
 b3:ρ.b 3=s.nn
 b4:ρ.b 4=s.it
 b5:ρ.b 5=s.dn
 p:ρ.v 0=p
 sv:ρ.v 1=sv
def Tryz.srho (r:Rg) (s:SS) (a x:Int) (p sv x2:Value):Val:=rho r [s.nx,s.us,s.op,s.hd,s.wr,0,a,x] [s.ev,s.tb,s.pk,s.nn,s.it,s.dn] [p,sv,x2]
theorem Tryz.zbu {A:Nat→Prop} {w:World} {S P M:Nat} {r:Rg} {s:SS} (h:SrvW A w S P M r s) (a x:Int) (p sv x2:Value):SDen (srho r s a x p sv x2) r s p sv:=
 ⟨zds h.rg,zen h.rg,zey h.rg,zez h.rg,zbj h.nx.1 h.nx.2,zbj h.us.1 h.us.2,rfl,zbj h.hd.1 h.hd.2,zbL h.wr.1 h.wr.2,rfl,rfl,rfl,rfl,rfl,rfl,rfl,rfl⟩
theorem Tryz.zcb {ρ:Val} {j:J} {r:Rg} {s:SS} {P M:Nat} {nv sv:Value} (hd:SDen ρ r s (.pointer (some ⟨P,0,none⟩)) sv) (hb:s.br=false) (hsv:sv.oneCell'=true) (hj:j 2=some ⟨M,0,0,none⟩) {next:AV} (hn:R ρ j next nv):
  RL ρ j (srow next (.var 5) (.lit false)) (s.row r P M nv sv):=by
 refine zab (za5 hd.p rfl) (zab (zaO rfl) (zab (zac hd.n) (zab (zac hd.d) (zab (zac hd.v) (zab (zac hd.c) (zab (zaO hd.b0) (zab (zaO hd.b1) (zab (zaO hd.b2) (zab (zac hd.nx) (zab (zac hd.us) (zab (zJV hj) (zab hn
  (zab (zac hd.op) (zab (zaO hd.b3) (zab (zac hd.hd) (zab (za5 hd.sv hsv) (zab (zac hd.wr) (zab (zaO hd.b4) (zab (zaO hd.b5) (zab (zaO ?_) RL.nil))))))))))))))))))))
 exact hb.symm
theorem Tryz.zcS {A:Nat→Prop} {w:World} {S P M:Nat} {r:Rg} {s:SS} {ρ:Val} {j:J} {K:Nat→Prop} {g:Gho} (h:SrvW A w S P M r s) (hK:K M):ShOk ρ j (cxOf w K g) (M,0) (.mapx []):=by
 obtain ⟨arr,clock,h1,h2,_⟩:=h.tk.map
 exact ⟨hK,rfl,arr,clock,[],h1,h2,rfl,fun _ _ h=>by cases h⟩
theorem Tryz.zbc {w:World} {S:Nat} {ρ:Val} {j:J} {K:Nat→Prop} {g:Gho} {row:List AV} {vals:List Value} (h:Own w S vals) (hr:RL ρ j row vals) (hK:K S):ShOk ρ j (cxOf w K g) (S,0) (.own row):=by
 obtain ⟨arr,e,h1,h2⟩:=h
 exact ⟨hK,rfl,vals,arr,e,h1,hr,h2⟩
theorem Tryz.zpK {w:World} {X:Nat} {ρ:Val} {j:J} {K:Nat→Prop} {g:Gho} {row:List AV} {vals:List Value} (h:Row w ⟨X,0,0,none⟩ vals) (hr:RL ρ j row vals) (hK: ¬K X):ShOk ρ j (cxOf w K g) (X,0) (.ro row):=by
 obtain ⟨arr,e,fr,h1,h2⟩:=h
 have hl:vals.length≤arr.size:=by
  rcases Nat.lt_or_ge arr.size vals.length with hlt|hge
  ·have:=h2 arr.size _ (List.getElem?_eq_getElem hlt)
   rw [Nat.zero_add,Array.getElem?_eq_none (Nat.le_refl _)] at this
   cases this
  ·exact hge
 exact ⟨hK,vals,arr,e,fr,h1,hr,by rw [←hr.length];simpa using hl,h2⟩
theorem Tryz.zcr {ρ:Val} {w0:World} {K:Nat→Prop} {g:Gho} {r:Rg} {what wide a:Int} {i:SE} (hr: ∀j,R ρ j rg r.val) (ha:(u64v 10).den ρ=a)
  (h: ∀w,Calls prog 120 #[r.val,.int .i64 what,.int .i64 (i.den ρ)] w fun e w'=>e= .returned (.tuple #[.int .u64 a,.int .i64 wide,.int .i64 0])∧Below w.heap.size w w'):za3 prog ρ w0 K g (zgh what i wide):=
 zas (Dw.enters_of (by kernel_rfl)) rfl [r.val,.int .i64 what,.int .i64 (i.den ρ)] (.tuple #[.int .u64 a,.int .i64 wide,.int .i64 0]) (fun j=>zab (hr j) (zab (zac rfl) (zab (zac rfl) RL.nil)))
  (fun j=>zcz (zab (zac ha) (zab (zac rfl) (zab (zac rfl) RL.nil)))) (fun w _ _ _=>h w)
theorem Tryz.ztm {P L Bs B N k:Nat} {g:Nat→Int} {w:World} (st:GM w P L Bs B N g) (hN:N≤1048576) (hk:k=1∨k=2∨k=4∨k=8) {a:Int} (h0:0≤a) (hin:a+k≤N):
  Calls prog 21 #[.pointer (some ⟨P,0,none⟩),.int .u64 a,.int .i64 k] w fun e w'=>e= .returned (.tuple #[.int .u64 (zai g a.toNat k),.int .i64 0])∧Below w.heap.size w w':=by
 have:=zI1 P L Bs B N a.toNat k g w st hN hk (by omega)
 rwa [Int.toNat_of_nonneg h0] at this
theorem Tryz.zuw {P L Bs B N k:Nat} {g:Nat→Int} {w:World} (st:GM w P L Bs B N g) (hN:N≤1048576) (hk:k=1∨k=2∨k=4∨k=8) {a:Int} (v:Int) (h0:0≤a) (hin:a+k≤N):
  Calls prog 26 #[.pointer (some ⟨P,0,none⟩),.int .u64 a,.int .i64 k,.int .u64 v] w fun e w'=>e= .returned (.int .i64 0)∧GM w' P L Bs B N (putW g a.toNat k v)∧Dw.Mv (· =B) w w':=by
 have:=zDq P L Bs B N a.toNat k v g w st hN hk (by omega)
 rw [Int.toNat_of_nonneg h0] at this
 exact Calls.mono this fun e w' ⟨h1,h2,h3⟩=>⟨h1,h2,zKW h3⟩
theorem Tryz.zgS {ρ:Val} {w0:World} {K:Nat→Prop} {P L Bs B N:Nat} {g:Nat→Int} {gs:List (Nat→Int)} {a:Int} (hN:N≤1048576) (hp:ρ.v 0= .pointer (some ⟨P,0,none⟩)) (ha:(u64v 10).den ρ=a) (h0:0≤a) (hin:a+2≤N) (hx:(u16v 11).den ρ=zai g a.toNat 2):
    za3 prog ρ w0 K (memG P L Bs B N (g::gs)) zxX:=
  zas (Dw.enters_of (by kernel_rfl)) rfl [.pointer (some ⟨P,0,none⟩),.int .u64 a,.int .i64 2] (.tuple #[.int .u64 (zai g a.toNat 2),.int .i64 0]) (fun j=>zab (za5 hp rfl) (zab (zac ha) (zab (zac rfl) RL.nil)))
    (fun j=>zcz (zab (zac hx) (zab (zac rfl) RL.nil))) (fun w F q hf=>by
      obtain ⟨_,_,_,_,g',hg,hm⟩:=hf
      cases hg
      exact ztm hm hN (k:=2) (.inr (.inl rfl)) h0 hin)
theorem Tryz.zjd {ρ:Val} {w0:World} {K:Nat→Prop} {P L Bs B N:Nat} {g:Nat→Int} {a x:Int} {k:Nat} {v:SE} (hN:N≤1048576) (hp:ρ.v 0= .pointer (some ⟨P,0,none⟩)) (ha:(u64v 10).den ρ=a) (h0:0≤a) (hk:k=1∨k=2∨k=4∨k=8) (hin:a+k≤N) (hv:v.den ρ=x) (hK:K B):
    za3 prog ρ w0 K (memG P L Bs B N [g,putW g a.toNat k x]) (zux k v):=
  zif (Dw.enters_of (by kernel_rfl)) rfl [.pointer (some ⟨P,0,none⟩),.int .u64 a,.int .i64 k,.int .u64 x] (.int .i64 0) (fun j=>zab (za5 hp rfl) (zab (zac ha) (zab (zac rfl) (zab (zac hv) RL.nil))))
    (fun j=>zac rfl) (fun w F q hf=>by
      obtain ⟨h1,h2,h3,h4,g',hg,hm⟩:=hf
      cases hg
      exact Calls.mono (zuw hm hN hk x h0 hin) fun e w' ⟨e1,e2,e3⟩=>⟨e1,⟨h1,h2,h3,h4,_,rfl,e2⟩,e3.mono fun b hb=>hb▸⟨h4,hK⟩⟩)
theorem Tryz.TkW.same {A:Nat→Prop} {w w':World} {M:Nat} {tk:List (Int×List Sg)} (h:TkW A w M tk) (hk: ∀k,k<w.heap.size→ ¬A k→w'.heap[k]? =w.heap[k]?)
  (hm: ∃arr clock arr0 clock0,w'.heap[M]? =some (.map arr clock)∧w.heap[M]? =some (.map arr0 clock0)∧(zc8 arr∧Born arr clock)∧ ∀k,zbb arr k=zbb arr0 k):TkW A w' M tk:=by
 obtain ⟨arr,clock,arr0,clock0,h1,h2,h3,h4⟩:=hm
 obtain ⟨arr1,clock1,g1,g2,g3⟩:=h.map
 rw [g1] at h2;cases h2
 refine ⟨⟨arr,clock,h1,h3,fun k=>⟨fun hk'=>(h4 k).trans ((g3 k).1 hk'),fun l hl=> ?_⟩⟩,h.keys,h.u16⟩
 obtain ⟨v,g4,g5⟩:=(g3 k).2 l hl
 exact ⟨v,(h4 k).trans g4,g5.kept hk⟩
theorem Tryz.TkW.put {A:Nat→Prop} {w w':World} {M:Nat} {tk:List (Int×List Sg)} (h:TkW A w M tk) (hk: ∀k,k<w.heap.size→ ¬A k→w'.heap[k]? =w.heap[k]?) {x:Int} {l:List Sg} {v:Value} (hx:zbz x tk=none) (hx0:0≤x∧x<65536) (hv:SegV A w' v l)
  (hm: ∃arr clock arr0 clock0,w'.heap[M]? =some (.map arr clock)∧w.heap[M]? =some (.map arr0 clock0)∧(zc8 arr∧Born arr clock)∧ ∀k,zbb arr k=if k=x then some v else zbb arr0 k):TkW A w' M (tk++ [(x,l)]):=by
 obtain ⟨arr,clock,arr0,clock0,h1,h2,h3,h4⟩:=hm
 obtain ⟨arr1,clock1,g1,g2,g3⟩:=h.map
 rw [g1] at h2;cases h2
 refine ⟨⟨arr,clock,h1,h3,fun k=> ?_⟩,?_,fun e he=> ?_⟩
 ·rw [zlE hx,h4]
  by_cases hkx:k=x
  ·rw [if_pos hkx,if_pos hkx]
   exact ⟨fun h=>(by cases h),fun l' hl'=>(by cases hl';exact ⟨v,rfl,hv⟩)⟩
  ·rw [if_neg hkx,if_neg hkx]
   refine ⟨(g3 k).1,fun l' hl'=> ?_⟩
   obtain ⟨v',g4,g5⟩:=(g3 k).2 l' hl'
   exact ⟨v',g4,g5.kept hk⟩
 ·rw [List.map_append,List.nodup_append]
  refine ⟨h.keys,by simp,fun a ha b hb hab=> ?_⟩
  simp only [List.map_cons,List.map_nil,List.mem_singleton] at hb
  subst hb hab
  exact zdM.1 hx ha
 ·rcases List.mem_append.1 he with he|he
  ·exact h.u16 e he
  ·rw [List.mem_singleton] at he;subst he;exact hx0
theorem Tryz.TkW.del {A:Nat→Prop} {w w':World} {M:Nat} {tk:List (Int×List Sg)} (h:TkW A w M tk) (hk: ∀k,k<w.heap.size→ ¬A k→w'.heap[k]? =w.heap[k]?) {x:Int}
  (hm: ∃arr clock arr0 clock0,w'.heap[M]? =some (.map arr clock)∧w.heap[M]? =some (.map arr0 clock0)∧(zc8 arr∧Born arr clock)∧ ∀k,zbb arr k=if k=x then none else zbb arr0 k):TkW A w' M (zeD x tk):=by
 obtain ⟨arr,clock,arr0,clock0,h1,h2,h3,h4⟩:=hm
 obtain ⟨arr1,clock1,g1,g2,g3⟩:=h.map
 rw [g1] at h2;cases h2
 refine ⟨⟨arr,clock,h1,h3,fun k=> ?_⟩,((ze9 x tk).map (·.1)).nodup h.keys,fun e he=>h.u16 e ((ze9 x tk).subset he)⟩
 rw [zoT h.keys,h4]
 by_cases hkx:k=x
 ·rw [if_pos hkx,if_pos hkx]
  exact ⟨fun _=>rfl,fun l' hl'=>(by cases hl')⟩
 ·rw [if_neg hkx,if_neg hkx]
  refine ⟨(g3 k).1,fun l' hl'=> ?_⟩
  obtain ⟨v',g4,g5⟩:=(g3 k).2 l' hl'
  exact ⟨v',g4,g5.kept hk⟩
theorem Tryz.SW.kA {A:Nat→Prop} {w w':World} {S P L Bs B M N:Nat} {r:Rg} {s:SS} {g:Nat→Int} (h:SW A w S P L Bs B M N r s g) (hm:Dw.Mv (sK S M B) w w'): ∀k,k<w.heap.size→ ¬A k→w'.heap[k]? =w.heap[k]? :=fun k hk ha=>
 hm.block k hk fun hh=>ha (by rcases hh with rfl|rfl|rfl;exact h.srv.aS;exact h.srv.aM;exact h.aB)
theorem Tryz.SW.next {A:Nat→Prop} {w w':World} {S P L Bs B M N:Nat} {r:Rg} {s s':SS} {g g':Nat→Int} (h:SW A w S P L Bs B M N r s g) (hm:Dw.Mv (sK S M B) w w') (hg:GM w' P L Bs B N g')
  (ho: ∃nv sv,Own w' S (s'.row r P M nv sv)∧zew A w' S s'.ph nv∧SegV A w' sv s'.sg) (ht:TkW A w' M s'.tk) (hnx:0≤s'.nx∧s'.nx<65536) (hus:0≤s'.us∧s'.us<65536) (hhd:0≤s'.hd∧s'.hd<65536) (hwr:0≤s'.wr∧s'.wr<4294967296):SW A w' S P L Bs B M N r s' g':=
 ⟨⟨ho,ht,h.srv.ne,h.srv.aS,h.srv.aM,h.srv.rg,hnx,hus,hhd,hwr⟩,hg,h.hN,h.sd,h.md,h.aB,fun b hb=>Nat.lt_of_lt_of_le (h.lt b hb) hm.size,h.fit⟩
def Tryz.SS.brk (s:SS):SS:= { s with op:=0,nn:=false,hd:=0,sg:= [],wr:=0,it:=false,br:=true,ph:=0 }
def Tryz.SS.goto (s:SS) (ph:Nat):SS:= { s with ph:=ph,dn:=false,br:=false }
def Tryz.SS.stop (s:SS):SS:= { s with ph:=0,dn:=true,br:=false }
def Tryz.zc7 (r:Rg) (g:Nat→Int) (s:SS):Int:=(zai g (r.v+2).toNat 2-s.nx)%65536
def Tryz.zcf (r:Rg) (g:Nat→Int) (s:SS):Int×SS:=
 if r.n<zc7 r g s then (4,s.brk) else if 0<zc7 r g s then (0,s.goto 5) else if s.ev=true then (0,s.goto 2) else (0,({ s with nn:=true }:SS).stop)
def Tryz.zcy (r:Rg) (g:Nat→Int) (s:SS):Int×SS:=
 if r.n<zc7 r g s then (4,s.brk) else if 0<zc7 r g s then (0,s.goto 5) else (0,({ s with nn:=true }:SS).stop)
def Tryz.zs1 (r:Rg) (g:Nat→Int) (s:SS):SS:=({ s with hd:=zai g (r.v+4+2*(s.nx.tmod r.n)).toNat 2 }:SS).goto 7
def Tryz.zEV (r:Rg) (g:Nat→Int) (s:SS):Bool:=if s.ev=true then decide ((s.us-zai g (r.v+4+2*r.n).toNat 2-1)%65536<1) else zai g r.v.toNat 2%2==0
def Tryz.zo3 (r:Rg) (g:Nat→Int) (s:SS):SS:=({ s with it:=zEV r g s,tk:=zeD s.hd s.tk }:SS).stop
def Tryz.accV (k w i:Int):Value:= .agg #[.int .i64 k,.int .i64 w,.int .i64 i]
theorem Tryz.SW.mine {A:Nat→Prop} {w:World} {S P L Bs B M N:Nat} {r:Rg} {s:SS} {g:Nat→Int} (h:SW A w S P L Bs B M N r s g): ∀b,b=P∨b=L∨b=Bs∨b=B→ ¬Mine (jOf [(S,0),(M,0)]) b:=fun b hb hm=>by
 obtain ⟨n,L',h1,_,h3⟩:=hm
 match n,h1 with
 | 0,h1=>cases h1
 | 1,h1=>cases h1;subst h3;rcases hb with e|e|e|e;exact h.sd.1 e;exact h.sd.2.1 e;exact h.sd.2.2.1 e;exact h.sd.2.2.2 e
 | 2,h1=>cases h1;subst h3;rcases hb with e|e|e|e;exact h.md.1 e;exact h.md.2.1 e;exact h.md.2.2.1 e;exact h.md.2.2.2 e
 | n+3,h1=>cases h1
theorem Tryz.SW.apart {A:Nat→Prop} {w:World} {S P L Bs B M N:Nat} {r:Rg} {s:SS} {g:Nat→Int} (h:SW A w S P L Bs B M N r s g) {row:List AV} {kn:List (AV×Option AV)}:apart [(S,0),(M,0)] [.own row,.mapx kn]:=
 ⟨fun _ i b' s' h1 _ _=>(by
  match i,h1 with
  | 0,h1=>cases h1;exact h.srv.ne
  | i+1,h1=>cases h1),⟨fun _ i b' s' h1 _ _=>(by cases h1),trivial⟩⟩
theorem Tryz.SW.kold {A:Nat→Prop} {w:World} {S P L Bs B M N:Nat} {r:Rg} {s:SS} {g:Nat→Int} (h:SW A w S P L Bs B M N r s g): ∀b,sK S M B b→b<w.heap.size:=fun b hb=>by
 rcases hb with rfl|rfl|rfl
 ·exact h.lt _ h.srv.aS
 ·exact h.lt _ h.srv.aM
 ·exact h.lt _ h.aB
theorem Tryz.SW.newA {A:Nat→Prop} {w w':World} {S P L Bs B M N:Nat} {r:Rg} {s:SS} {g:Nat→Int} (h:SW A w S P L Bs B M N r s g) {ρ:Val} {gs:List (Nat→Int)} {bl:List (Nat×Nat)} {l:Leaf} {e:Ending} {j:J}
  (he:zhl ρ w (sK S M B) (memG P L Bs B N gs) bl l e w' j) (h1:jOf bl 1=some ⟨S,0,0,none⟩) (h2:jOf bl 2=some ⟨M,0,0,none⟩) {row0:List AV} (hr0:(1,row0)∈l.rows) {lg:List (AV×Option AV)} (hm0:(2,lg)∈l.maps)
  {n:Nat} (hn:n∈l.own) (hn1:n≠1) {row:List AV} (hr:(n,row)∈l.rows) {L':Dw.Loc} (hL:j n=some L'): ¬A L'.blk∧L'.off=0:=by
 obtain ⟨h3,h4⟩:=he.fresh n hn L' hL
 refine ⟨fun ha=> ?_,h4⟩
 have hlt:=h.lt _ ha
 rcases h3 with h3|h3
 ·omega
 ·have hK:=h3
  rcases h3 with h3|h3|h3
  ·exact he.apart (n,row) hr (1,row0) hr0 hn1 L' ⟨S,0,0,none⟩ hL (he.sub _ _ h1) h3 (.inr hK)
  ·exact he.mapart (n,row) hr (2,lg) hm0 L' ⟨M,0,0,none⟩ hL (he.sub _ _ h2) h3
  ·obtain ⟨F,h5,h6⟩:=he.gho
   exact (h5 B h6.2.2.2.1).2 (h3▸he.mine (n,row) hr L' hL)
theorem Tryz.zdx {ρ:Val} {j:J} {K:Nat→Prop} {w0 w:World}: ∀ {rows:List (Nat×List AV)},zwV ρ j K w0 w rows→ ∀ {n:Nat} {row:List AV},(n,row)∈rows→ ∀L,j n=some L→Row w L (AV.valL ρ (lcOf j) row)∧((w0.heap.size≤L.blk∨K L.blk)→L.off=0→Own w L.blk (AV.valL ρ (lcOf j) row))
 | [], _,_,_,h=>by cases h
 | x::l,ho,n,row,h=>by
  rcases List.mem_cons.1 h with rfl|h
  ·exact ho.1
  ·exact zdx ho.2 h
theorem Tryz.zeK {j:J}: ∀ {rows:List (Nat×List AV)},ziS j rows→ ∀ {n:Nat} {row:List AV},(n,row)∈rows→ ∀L,j n=some L→ ∀k∈AV.namesL row,j k=some (lcOf j k)
 | [], _,_,_,h=>by cases h
 | x::l,ho,n,row,h=>by
  rcases List.mem_cons.1 h with rfl|h
  ·exact ho.1
  ·exact zeK ho.2 h
theorem Tryz.zhB {ρ:Val} {j:J} {w0 w:World}: ∀ {maps:List (Nat×List (AV×Option AV))},zwY ρ j w0 w maps→ ∀ {n:Nat} {lg:List (AV×Option AV)},(n,lg)∈maps→
  ∀ L,j n=some L→ ∃arr clock arr0 clock0,w.heap[L.blk]? =some (.map arr clock)∧w0.heap[L.blk]? =some (.map arr0 clock0)∧(zc8 arr∧Born arr clock)∧ ∀k,zbb arr k=mlog (zbb arr0) (zgQ ρ (lcOf j) lg) k
 | [], _,_,_,h=>by cases h
 | x::l,ho,n,row,h=>by
  rcases List.mem_cons.1 h with rfl|h
  ·exact ho.1
  ·exact zhB ho.2 h
theorem Tryz.SW.fenceOk {A:Nat→Prop} {w w':World} {S P L Bs B M N:Nat} {r:Rg} {s:SS} {g:Nat→Int} (h:SW A w S P L Bs B M N r s g) {ρ:Val} {gs:List (Nat→Int)} {bl:List (Nat×Nat)} {l:Leaf} {e:Ending} {j:J}
  (he:zhl ρ w (sK S M B) (memG P L Bs B N gs) bl l e w' j) (h1:jOf bl 1=some ⟨S,0,0,none⟩) (h2:jOf bl 2=some ⟨M,0,0,none⟩) {row0:List AV} (hr0:(1,row0)∈l.rows) {lg:List (AV×Option AV)} (hm0:(2,lg)∈l.maps)
  {x y f ph:Nat} (hx:(x,[zfX f])∈l.rows) (hy:(y,[.ptr 1 0])∈l.rows) (ox:x∈l.own) (oy:y∈l.own) (nx:x≠1) (ny:y≠1) (kx:x∈AV.namesL row0) (ky:y∈AV.namesL row0) (hf:zz2 ph=some f):
  zew A w' S ph (AV.val ρ (lcOf j) (.func 112 [] [.ptr x 0,.ptr y 0])):=by
 have hj1:=he.sub _ _ h1
 have jx:=zeK he.rnames hr0 _ hj1 x kx
 have jy:=zeK he.rnames hr0 _ hj1 y ky
 obtain ⟨ax,zx⟩:=h.newA he h1 h2 hr0 hm0 ox nx hx jx
 obtain ⟨ay,zy⟩:=h.newA he h1 h2 hr0 hm0 oy ny hy jy
 have rx:=(zdx he.rows hx _ jx).1
 have ry:=(zdx he.rows hy _ jy).1
 have lc1:lcOf j 1=⟨S,0,0,none⟩:=zag hj1
 refine .fence f (lcOf j x).blk (lcOf j y).blk hf ?_ ?_ ?_ ax ay
 ·simp only [AV.val,AV.valL,zx,zy]
 ·have e:AV.valL ρ (lcOf j) [zfX f]= [zin S f]:=by simp only [AV.valL,AV.val,zfX,lc1];rfl
  rw [e] at rx
  obtain ⟨arr,e,fr,q1,q2⟩:=rx
  exact ⟨arr,e,fr,q1,by rw [zx] at q2;exact q2⟩
 ·have e:AV.valL ρ (lcOf j) [.ptr 1 0]= [.pointer (some ⟨S,0,none⟩)]:=by simp only [AV.valL,AV.val,lc1]
  rw [e] at ry
  obtain ⟨arr,e,fr,q1,q2⟩:=ry
  exact ⟨arr,e,fr,q1,by rw [zy] at q2;exact q2⟩
theorem Tryz.SegV.none {A:Nat→Prop} {w:World}:SegV A w (.slice none 0 0) []:=⟨Option.none,0,rfl,fun _ h=>(by cases h),Or.inl rfl⟩
theorem Tryz.zCO {g:Nat→Int} (hg: ∀j,0≤g j∧g j<256) (a:Nat):0≤zai g a 2∧zai g a 2<65536:=zdb g hg a 2
theorem Tryz.z16:(0:Int)≤0∧(0:Int)<65536:=by decide
theorem Tryz.z32:(0:Int)≤0∧(0:Int)<4294967296:=by decide
theorem Tryz.zEY {A:Nat→Prop} {w:World} {S P L Bs B M N:Nat} {r:Rg} {s:SS} {g:Nat→Int} (h:SW A w S P L Bs B M N r s g) (hb:s.br=false) (hp:s.ph=1):
  Calls prog 28 #[.pointer (some ⟨S,0,none⟩)] w fun e w'=>e= .returned (.tuple #[accV 2 3 0,.int .i64 (zcf r g s).1])∧SW A w' S P L Bs B M N r (zcf r g s).2 g∧Dw.Mv (sK S M B) w w':=by
 obtain ⟨nv,sv,ho,hn,hsv⟩:=h.srv.obj
 have hrg:=h.srv.rg
 obtain ⟨hx0,hx1⟩:=zCO h.mem.byte (r.v+2).toNat
 have hbd:=hrg.bnd
 have hf:=h.fit
 have hrv:=hrg.v0
 generalize hxx:zai g (r.v+2).toNat 2=x at hx0 hx1
 have hd:=zbu h.srv (r.v+2) x (.pointer (some ⟨P,0,none⟩)) sv undef
 have ea:(u64v 10).den (srho r s (r.v+2) x (.pointer (some ⟨P,0,none⟩)) sv undef)=r.v+2:=zaH (by show 0≤r.v+2;omega) (by show r.v+2<_;have:=h.hN;omega)
 have ex:(u16v 11).den (srho r s (r.v+2) x (.pointer (some ⟨P,0,none⟩)) sv undef)=x:=zbj hx0 hx1
 have hnv:nv=zin S 55:=by
  rw [hp] at hn
  cases hn with
  | idle h _=>cases h
  | meth f h hv=>cases h;exact hv
  | fence f _ _ h=>cases h
 subst hnv
 have hj2:jOf [(S,0),(M,0)] 2=some ⟨M,0,0,none⟩:=rfl
 have hj1:jOf [(S,0),(M,0)] 1=some ⟨S,0,0,none⟩:=rfl
 refine Calls.mono (zav (ρ:=srho r s (r.v+2) x (.pointer (some ⟨P,0,none⟩)) sv undef) (K:=sK S M B) (g:=memG P L Bs B N [g]) (bl:= [(S,0),(M,0)]) (vals:= [.pointer (some ⟨S,0,none⟩)]) mixed zzH zDF h.kold
  ⟨zbc ho (zcb hd hb hsv.one hj2 (zbX (zab (zaY hj1) RL.nil) RL.nil)) (.inl rfl),zcS h.srv (.inr (.inl rfl)),trivial⟩ h.apart (zbx h.mem h.mine)
  ⟨zcr (fun j=>R_rg hrg) ea (fun w=>zyI r hrg w),zgS h.hN hd.p ea (by omega) (by omega) (ex.trans hxx.symm),trivial⟩ (zab (zaY hj1) RL.nil) (zad.2 trivial)) fun e w' hh=> ?_
 obtain ⟨p,hpm,hto,l,hl,j,he⟩:=hh
 have hj1':=he.sub _ _ hj1
 have hj2':=he.sub _ _ hj2
 have lc1:=zag hj1'
 have lc2:=zag hj2'
 have hmv:=he.mv
 have hkA:=h.kA hmv
 obtain ⟨g',hg0,hgm⟩:=zdh he.gho
 have hah:zc7 r g s=(x-s.nx)%65536:=by unfold zc7;rw [hxx]
 unfold zuQ at hpm
 simp only [List.mem_cons,List.not_mem_nil,or_false] at hpm
 rcases hpm with rfl|rfl|rfl|rfl|rfl|rfl
 all_goals
  simp only [zaa,zad,zbV,zc3,zaM,zaW,zaf,hd.n,hd.nx,hd.b0,ex,zaS,decide_eq_true_eq,decide_eq_false_iff_not,and_true] at hto
  cases hl
  have hO:=(he.rows.1 _ hj1').2 (.inr (.inl rfl)) rfl
  have hM:=he.maps.1 _ hj2'
  cases hg0
  simp only [AV.val,AV.valL,lc1,lc2,hd.n,hd.d,hd.v,hd.c,hd.nx,hd.us,hd.hd,hd.wr,hd.p,hd.sv,zay,zaf,zaM,zbA,hd.op,hd.b0,hd.b1,hd.b2,hd.b3,hd.b4,hd.b5] at hO
 ·have e1:zcf r g s=(4,s.brk):=by unfold zcf;rw [hah,if_pos (by omega)]
  rw [e1]
  exact ⟨he.ret,h.next hmv hgm ⟨_,_,hO,.idle rfl rfl,SegV.none⟩ (h.srv.tk.same hkA hM) h.srv.nx h.srv.us z16 z32,hmv⟩
 ·have e1:zcf r g s=(0,s.goto 5):=by unfold zcf;rw [hah,if_neg (by omega),if_pos (by omega)]
  rw [e1]
  exact ⟨he.ret,h.next hmv hgm ⟨_,_,hO,h.fenceOk he hj1 hj2 (.head _) (.head _) (x:=10) (y:=9) (f:=83) (.tail _ (.tail _ (.head _))) (.tail _ (.head _)) (.tail _ (.tail _ (.head _))) (.tail _ (.head _)) (by decide) (by decide) (by decide) (by decide) rfl,hsv.kept hkA⟩ (h.srv.tk.same hkA hM) h.srv.nx h.srv.us h.srv.hd h.srv.wr,hmv⟩
 ·have e1:zcf r g s=(4,s.brk):=by unfold zcf;rw [hah,if_pos (by omega)]
  rw [e1]
  exact ⟨he.ret,h.next hmv hgm ⟨_,_,hO,.idle rfl rfl,SegV.none⟩ (h.srv.tk.same hkA hM) h.srv.nx h.srv.us z16 z32,hmv⟩
 ·have e1:zcf r g s=(0,s.goto 2):=by unfold zcf;rw [hah,if_neg (by omega),if_neg (by omega),if_pos hto.2.1]
  rw [e1]
  exact ⟨he.ret,h.next hmv hgm ⟨_,_,hO,.meth _ rfl rfl,hsv.kept hkA⟩ (h.srv.tk.same hkA hM) h.srv.nx h.srv.us h.srv.hd h.srv.wr,hmv⟩
 ·have e1:zcf r g s=(4,s.brk):=by unfold zcf;rw [hah,if_pos (by omega)]
  rw [e1]
  exact ⟨he.ret,h.next hmv hgm ⟨_,_,hO,.idle rfl rfl,SegV.none⟩ (h.srv.tk.same hkA hM) h.srv.nx h.srv.us z16 z32,hmv⟩
 ·have e1:zcf r g s=(0,({ s with nn:=true }:SS).stop):=by unfold zcf;rw [hah,if_neg (by omega),if_neg (by omega),if_neg (by rw [hto.2.1];simp)]
  rw [e1]
  exact ⟨he.ret,h.next hmv hgm ⟨_,_,hO,.idle rfl rfl,hsv.kept hkA⟩ (h.srv.tk.same hkA hM) h.srv.nx h.srv.us h.srv.hd h.srv.wr,hmv⟩
theorem Tryz.SW.kmem {A:Nat→Prop} {w:World} {S P L Bs B M N:Nat} {r:Rg} {s:SS} {g:Nat→Int} (h:SW A w S P L Bs B M N r s g): ∀k,(k=P∨k=L∨k=Bs∨k=B)→ ¬(k=S∨k=M):=fun k hk hh=>by
 rcases hh with rfl|rfl
 ·rcases hk with e|e|e|e;exact h.sd.1 e;exact h.sd.2.1 e;exact h.sd.2.2.1 e;exact h.sd.2.2.2 e
 ·rcases hk with e|e|e|e;exact h.md.1 e;exact h.md.2.1 e;exact h.md.2.2.1 e;exact h.md.2.2.2 e
theorem Tryz.SW.apartF {A:Nat→Prop} {w:World} {S P L Bs B M N X Y:Nat} {r:Rg} {s:SS} {g:Nat→Int} (h:SW A w S P L Bs B M N r s g) {row r3 r4:List AV} {kn:List (AV×Option AV)}:Dw.apart [(S,0),(M,0),(X,0),(Y,0)] [.own row,.mapx kn,.ro r3,.ro r4]:=
  ⟨fun _ i b' s' h1 h2 h3=>(by
    match i,h1,h2 with
    | 0,h1,_=>cases h1;exact h.srv.ne
    | 1,_,h2=>cases h2;cases h3
    | 2,_,h2=>cases h2;cases h3
    | i+3,h1,_=>cases h1),
   ⟨fun _ i b' s' h1 h2 h3=>(by
    match i,h1,h2 with
    | 0,_,h2=>cases h2;cases h3
    | 1,_,h2=>cases h2;cases h3
    | i+2,h1,_=>cases h1),⟨fun h=>(by cases h),⟨fun h=>(by cases h),trivial⟩⟩⟩⟩
theorem Tryz.zLr {ρ:Val} {x:Int} (h0:0≤x) (h1:x<65536) (e:ρ.i 11=x:=by rfl):SE.den ρ (.flds [⟨11,0,65535,0,1,0⟩] 0)=x%2:=by
 obtain ⟨n,rfl⟩:=Int.eq_ofNat_of_zero_le h0
 simp only [SE.den,zak,Fld.den,e,Int.toNat_natCast,Nat.shiftRight_zero,Nat.shiftLeft_zero,Nat.or_zero]
 have e2:max 0 (min n 65535)=n:=by omega
 rw [e2]
 rfl
theorem Tryz.zDi {ρ:Val} {h l:Int} (h0:0≤h∧h<65536) (l0:0≤l∧l<4294967296) (e7:ρ.i 7=h:=by rfl) (e8:ρ.i 8=l:=by rfl):SE.den ρ (.flds [⟨7,0,65535,0,16,0⟩,⟨8,0,4294967295,0,32,32⟩] 0)=h+l*4294967296:=by
 obtain ⟨n,rfl⟩:=Int.eq_ofNat_of_zero_le h0.1
 obtain ⟨m,rfl⟩:=Int.eq_ofNat_of_zero_le l0.1
 simp only [SE.den,zak,Fld.den,e7,e8,Int.toNat_natCast,Nat.shiftRight_zero,Nat.shiftLeft_zero,Nat.or_zero]
 have e2:max 0 (min n 65535)=n:=by omega
 have e3:max 0 (min m 4294967295)=m:=by omega
 rw [e2,e3,Nat.mod_eq_of_lt (by omega),Nat.mod_eq_of_lt (by omega),Nat.or_comm,←Nat.shiftLeft_add_eq_or_of_lt (by omega),Nat.shiftLeft_eq]
 show ((m*4294967296+n:Nat):Int)=_
 omega
theorem Tryz.zIU {u x:Int} (h:0≤u∧u<65536):decide ((u-x-1)%65536<1)=decide (((u-x)%65536-1)%65536<(u-(u-1)%65536)%65536):=by
 congr 1
 apply propext
 omega
theorem Tryz.zC1 {A:Nat→Prop} {w:World} {S P L Bs B M N:Nat} {r:Rg} {s:SS} {g:Nat→Int} (h:SW A w S P L Bs B M N r s g) (hb:s.br=false) (hp:s.ph=4):
  Calls prog 28 #[.pointer (some ⟨S,0,none⟩)] w fun e w'=>e= .returned (.tuple #[accV 2 3 0,.int .i64 (zcy r g s).1])∧SW A w' S P L Bs B M N r (zcy r g s).2 g∧Dw.Mv (sK S M B) w w':=by
 obtain ⟨nv,sv,ho,hn,hsv⟩:=h.srv.obj
 have hrg:=h.srv.rg
 have hbd:=hrg.bnd
 have hf:=h.fit
 have hrv:=hrg.v0
 have hrc:=hrg.c0
 have hN:=h.hN
 obtain ⟨hx0,hx1⟩:=zCO h.mem.byte (r.v+2).toNat
 generalize hxx:zai g (r.v+2).toNat 2=x at hx0 hx1
 have hd:=zbu h.srv (r.v+2) x (.pointer (some ⟨P,0,none⟩)) sv undef
 have ea:(u64v 10).den (srho r s (r.v+2) x (.pointer (some ⟨P,0,none⟩)) sv undef)=(r.v+2):=zaH (by show 0≤(r.v+2);omega) (by show (r.v+2)<_;omega)
 have ex:(u16v 11).den (srho r s (r.v+2) x (.pointer (some ⟨P,0,none⟩)) sv undef)=x:=zbj hx0 hx1
 have hnv:nv=zin S 114:=by
  rw [hp] at hn
  cases hn with
  | idle h _=>cases h
  | meth f h hv=>cases h;exact hv
  | fence f _ _ h=>cases h
 subst hnv
 have hj2:jOf [(S,0),(M,0)] 2=some ⟨M,0,0,none⟩:=rfl
 have hj1:jOf [(S,0),(M,0)] 1=some ⟨S,0,0,none⟩:=rfl
 refine Calls.mono (zav (ρ:=(srho r s (r.v+2) x (.pointer (some ⟨P,0,none⟩)) sv undef)) (K:=sK S M B) (g:=memG P L Bs B N [g]) (bl:= [(S,0),(M,0)]) (vals:= [.pointer (some ⟨S,0,none⟩)]) mixed zxx zzZ h.kold
  ⟨zbc ho (zcb hd hb hsv.one hj2 (zbX (zab (zaY hj1) RL.nil) RL.nil)) (.inl rfl),zcS h.srv (.inr (.inl rfl)),trivial⟩ h.apart (zbx h.mem h.mine)
  ⟨zcr (fun j=>R_rg hrg) ea (fun w=>zyI r hrg w),zgS h.hN hd.p ea (by omega) (by omega) (ex.trans hxx.symm),trivial⟩ (zab (zaY hj1) RL.nil) (zad.2 trivial)) fun e w' hh=> ?_
 obtain ⟨p,hpm,hto,l,hl,j,he⟩:=hh
 have hj1':=he.sub _ _ hj1
 have hj2':=he.sub _ _ hj2
 have lc1:=zag hj1'
 have lc2:=zag hj2'
 have hmv:=he.mv
 have hkA:=h.kA hmv
 obtain ⟨g',hg0,hgm⟩:=zdh he.gho
 have hah:zc7 r g s=(x-s.nx)%65536:=by unfold zc7;rw [hxx]
 unfold zp0 at hpm
 simp only [List.mem_cons,List.not_mem_nil,or_false] at hpm
 rcases hpm with rfl|rfl|rfl|rfl
 all_goals
  simp only [zaa,zad,zbV,zc3,zaM,zaW,zaf,hd.n,hd.nx,hd.b0,ex,zaS,decide_eq_true_eq,decide_eq_false_iff_not,and_true] at hto
  cases hl
  have hO:=(he.rows.1 _ hj1').2 (.inr (.inl rfl)) rfl
  have hM:=he.maps.1 _ hj2'
  cases hg0
  simp only [AV.val,AV.valL,lc1,lc2,hd.n,hd.d,hd.v,hd.c,hd.nx,hd.us,hd.hd,hd.wr,hd.p,hd.sv,zay,zaf,den_add,zaW,zaS,zaM,zbA,hd.op,hd.b0,hd.b1,hd.b2,hd.b3,hd.b4,hd.b5] at hO
 ·have e1:zcy r g s=(4,s.brk):=by unfold zcy;rw [hah,if_pos (by omega)]
  rw [e1]
  exact ⟨he.ret,h.next hmv hgm ⟨_,_,hO,.idle rfl rfl,SegV.none⟩ (h.srv.tk.same hkA hM) h.srv.nx h.srv.us z16 z32,hmv⟩
 ·have e1:zcy r g s=(0,s.goto 5):=by unfold zcy;rw [hah,if_neg (by omega),if_pos (by omega)]
  rw [e1]
  exact ⟨he.ret,h.next hmv hgm ⟨_,_,hO,h.fenceOk he hj1 hj2 (.head _) (.head _) (x:=10) (y:=9) (f:=83) (.tail _ (.tail _ (.head _))) (.tail _ (.head _)) (.tail _ (.tail _ (.head _))) (.tail _ (.head _)) (by decide) (by decide) (by decide) (by decide) rfl,hsv.kept hkA⟩ (h.srv.tk.same hkA hM) h.srv.nx h.srv.us h.srv.hd h.srv.wr,hmv⟩
 ·have e1:zcy r g s=(4,s.brk):=by unfold zcy;rw [hah,if_pos (by omega)]
  rw [e1]
  exact ⟨he.ret,h.next hmv hgm ⟨_,_,hO,.idle rfl rfl,SegV.none⟩ (h.srv.tk.same hkA hM) h.srv.nx h.srv.us z16 z32,hmv⟩
 ·have e1:zcy r g s=(0,({ s with nn:=true }:SS).stop):=by unfold zcy;rw [hah,if_neg (by omega),if_neg (by omega)]
  rw [e1]
  exact ⟨he.ret,h.next hmv hgm ⟨_,_,hO,.idle rfl rfl,hsv.kept hkA⟩ (h.srv.tk.same hkA hM) h.srv.nx h.srv.us h.srv.hd h.srv.wr,hmv⟩
theorem Tryz.zEg {A:Nat→Prop} {w:World} {S P L Bs B M N:Nat} {r:Rg} {s:SS} {g:Nat→Int} (h:SW A w S P L Bs B M N r s g) (hb:s.br=false) (hp:s.ph=6):
  Calls prog 28 #[.pointer (some ⟨S,0,none⟩)] w fun e w'=>e= .returned (.tuple #[accV 2 4 (s.nx.tmod r.n),.int .i64 0])∧SW A w' S P L Bs B M N r (zs1 r g s) g∧Dw.Mv (sK S M B) w w':=by
 obtain ⟨nv,sv,ho,hn,hsv⟩:=h.srv.obj
 have hrg:=h.srv.rg
 have hbd:=hrg.bnd
 have hf:=h.fit
 have hrv:=hrg.v0
 have hrc:=hrg.c0
 have hN:=h.hN
 have hm0:0≤s.nx.tmod r.n:=Int.tmod_nonneg _ h.srv.nx.1
 have hm1:s.nx.tmod r.n<r.n:=Int.tmod_lt_of_pos _ (by omega)
 obtain ⟨hx0,hx1⟩:=zCO h.mem.byte (r.v+4+2*s.nx.tmod r.n).toNat
 generalize hxx:zai g (r.v+4+2*s.nx.tmod r.n).toNat 2=x at hx0 hx1
 have hd:=zbu h.srv (r.v+4+2*s.nx.tmod r.n) x (.pointer (some ⟨P,0,none⟩)) sv undef
 have ea:(u64v 10).den (srho r s (r.v+4+2*s.nx.tmod r.n) x (.pointer (some ⟨P,0,none⟩)) sv undef)=(r.v+4+2*s.nx.tmod r.n):=zaH (by show 0≤(r.v+4+2*s.nx.tmod r.n);omega) (by show (r.v+4+2*s.nx.tmod r.n)<_;omega)
 have ex:(u16v 11).den (srho r s (r.v+4+2*s.nx.tmod r.n) x (.pointer (some ⟨P,0,none⟩)) sv undef)=x:=zbj hx0 hx1
 have er:SE.den (srho r s (r.v+4+2*s.nx.tmod r.n) x (.pointer (some ⟨P,0,none⟩)) sv undef) (.bin .rem .i64 (u16v 4) (szv 0))=s.nx.tmod r.n:=by rw [ztN,hd.nx,hd.n]
 have hnv:nv=zin S 83:=by
  rw [hp] at hn
  cases hn with
  | idle h _=>cases h
  | meth f h hv=>cases h;exact hv
  | fence f _ _ h=>cases h
 subst hnv
 have hj2:jOf [(S,0),(M,0)] 2=some ⟨M,0,0,none⟩:=rfl
 have hj1:jOf [(S,0),(M,0)] 1=some ⟨S,0,0,none⟩:=rfl
 refine Calls.mono (zav (ρ:=(srho r s (r.v+4+2*s.nx.tmod r.n) x (.pointer (some ⟨P,0,none⟩)) sv undef)) (K:=sK S M B) (g:=memG P L Bs B N [g]) (bl:= [(S,0),(M,0)]) (vals:= [.pointer (some ⟨S,0,none⟩)]) mixed zzv zDz h.kold
  ⟨zbc ho (zcb hd hb hsv.one hj2 (zbX (zab (zaY hj1) RL.nil) RL.nil)) (.inl rfl),zcS h.srv (.inr (.inl rfl)),trivial⟩ h.apart (zbx h.mem h.mine)
  ⟨zcr (fun j=>R_rg hrg) ea (fun w=>by rw [er];exact zHm r hrg _ ⟨hm0,hm1⟩ w),zgS h.hN hd.p ea (by omega) (by omega) (ex.trans hxx.symm),trivial⟩ (zab (zaY hj1) RL.nil) (zad.2 trivial)) fun e w' hh=> ?_
 obtain ⟨p,hpm,hto,l,hl,j,he⟩:=hh
 have hj1':=he.sub _ _ hj1
 have hj2':=he.sub _ _ hj2
 have lc1:=zag hj1'
 have lc2:=zag hj2'
 have hmv:=he.mv
 have hkA:=h.kA hmv
 obtain ⟨g',hg0,hgm⟩:=zdh he.gho
 unfold zuI at hpm
 simp only [List.mem_cons,List.not_mem_nil,or_false] at hpm
 rcases hpm with rfl
 all_goals
  simp only [zaa,zad,zbV,zc3,zaM,zaW,zaf,hd.n,hd.nx,hd.b0,ex,zaS,decide_eq_true_eq,decide_eq_false_iff_not,and_true] at hto
  cases hl
  have hO:=(he.rows.1 _ hj1').2 (.inr (.inl rfl)) rfl
  have hM:=he.maps.1 _ hj2'
  cases hg0
  simp only [AV.val,AV.valL,lc1,lc2,hd.n,hd.d,hd.v,hd.c,hd.nx,hd.us,hd.hd,hd.wr,hd.p,hd.sv,zay,zaf,den_add,zaW,zaS,zaM,zbA,hd.op,hd.b0,hd.b1,hd.b2,hd.b3,hd.b4,hd.b5,ex] at hO
 ·have e1:zs1 r g s=({ s with hd:=x }:SS).goto 7:=by unfold zs1;rw [hxx]
  rw [e1]
  exact ⟨he.ret.trans (by simp only [AV.val,AV.valL,er,zaf];rfl),h.next hmv hgm ⟨_,_,hO,.meth _ rfl rfl,hsv.kept hkA⟩ (h.srv.tk.same hkA hM) h.srv.nx h.srv.us ⟨hx0,hx1⟩ h.srv.wr,hmv⟩
theorem Tryz.zCj {A:Nat→Prop} {w:World} {S P L Bs B M N:Nat} {r:Rg} {s:SS} {g:Nat→Int} (h:SW A w S P L Bs B M N r s g) (hb:s.br=false) (hp:s.ph=2):
  Calls prog 28 #[.pointer (some ⟨S,0,none⟩)] w fun e w'=>e= .returned (.tuple #[accV 3 9 0,.int .i64 0])∧SW A w' S P L Bs B M N r (s.goto 3) (putW g (r.c+4+8*r.n).toNat 2 s.nx)∧Dw.Mv (sK S M B) w w':=by
 obtain ⟨nv,sv,ho,hn,hsv⟩:=h.srv.obj
 have hrg:=h.srv.rg
 have hbd:=hrg.bnd
 have hf:=h.fit
 have hrv:=hrg.v0
 have hrc:=hrg.c0
 have hN:=h.hN
 have hd:=zbu h.srv (r.c+4+8*r.n) 0 (.pointer (some ⟨P,0,none⟩)) sv undef
 have ea:(u64v 10).den (srho r s (r.c+4+8*r.n) 0 (.pointer (some ⟨P,0,none⟩)) sv undef)=(r.c+4+8*r.n):=zaH (by show 0≤(r.c+4+8*r.n);omega) (by show (r.c+4+8*r.n)<_;omega)
 have hnv:nv=zin S 84:=by
  rw [hp] at hn
  cases hn with
  | idle h _=>cases h
  | meth f h hv=>cases h;exact hv
  | fence f _ _ h=>cases h
 subst hnv
 have hj2:jOf [(S,0),(M,0)] 2=some ⟨M,0,0,none⟩:=rfl
 have hj1:jOf [(S,0),(M,0)] 1=some ⟨S,0,0,none⟩:=rfl
 refine Calls.mono (zav (ρ:=(srho r s (r.c+4+8*r.n) 0 (.pointer (some ⟨P,0,none⟩)) sv undef)) (K:=sK S M B) (g:=memG P L Bs B N [g,putW g (r.c+4+8*r.n).toNat 2 s.nx]) (bl:= [(S,0),(M,0)]) (vals:= [.pointer (some ⟨S,0,none⟩)]) mixed zxp zzR h.kold
  ⟨zbc ho (zcb hd hb hsv.one hj2 (zbX (zab (zaY hj1) RL.nil) RL.nil)) (.inl rfl),zcS h.srv (.inr (.inl rfl)),trivial⟩ h.apart (zbx h.mem h.mine)
  ⟨zcr (fun j=>R_rg hrg) ea (fun w=>zHa r hrg w),zjd (k:=2) h.hN hd.p ea (by omega) (.inr (.inl rfl)) (by omega) hd.nx (.inr (.inr rfl)),trivial⟩ (zab (zaY hj1) RL.nil) (zad.2 trivial)) fun e w' hh=> ?_
 obtain ⟨p,hpm,hto,l,hl,j,he⟩:=hh
 have hj1':=he.sub _ _ hj1
 have hj2':=he.sub _ _ hj2
 have lc1:=zag hj1'
 have lc2:=zag hj2'
 have hmv:=he.mv
 have hkA:=h.kA hmv
 obtain ⟨g',hg0,hgm⟩:=zdh he.gho
 unfold zpP at hpm
 simp only [List.mem_cons,List.not_mem_nil,or_false] at hpm
 rcases hpm with rfl
 all_goals
  simp only [zaa,zad,zbV,zc3,zaM,zaW,zaf,hd.n,hd.nx,hd.b0,zaS,decide_eq_true_eq,decide_eq_false_iff_not,and_true] at hto
  cases hl
  have hO:=(he.rows.1 _ hj1').2 (.inr (.inl rfl)) rfl
  have hM:=he.maps.1 _ hj2'
  cases hg0
  simp only [AV.val,AV.valL,lc1,lc2,hd.n,hd.d,hd.v,hd.c,hd.nx,hd.us,hd.hd,hd.wr,hd.p,hd.sv,zay,zaf,den_add,zaW,zaS,zaM,zbA,hd.op,hd.b0,hd.b1,hd.b2,hd.b3,hd.b4,hd.b5] at hO
 ·exact ⟨he.ret,h.next hmv hgm ⟨_,_,hO,h.fenceOk he hj1 hj2 (.head _) (.head _) (x:=6) (y:=5) (f:=114) (.tail _ (.tail _ (.head _))) (.tail _ (.head _)) (.tail _ (.tail _ (.head _))) (.tail _ (.head _)) (by decide) (by decide) (by decide) (by decide) rfl,hsv.kept hkA⟩ (h.srv.tk.same hkA hM) h.srv.nx h.srv.us h.srv.hd h.srv.wr,hmv⟩
theorem Tryz.ztJ {A:Nat→Prop} {w:World} {S P L Bs B M N:Nat} {r:Rg} {s:SS} {g:Nat→Int} (h:SW A w S P L Bs B M N r s g) (hb:s.br=false) (hp:s.ph=11):
  Calls prog 28 #[.pointer (some ⟨S,0,none⟩)] w fun e w'=>e= .returned (.tuple #[accV 3 8 (s.us.tmod r.n),.int .i64 0])∧SW A w' S P L Bs B M N r (s.goto 12) (putW g (r.c+4+8*s.us.tmod r.n).toNat 8 (s.hd+s.wr*4294967296))∧Dw.Mv (sK S M B) w w':=by
 obtain ⟨nv,sv,ho,hn,hsv⟩:=h.srv.obj
 have hrg:=h.srv.rg
 have hbd:=hrg.bnd
 have hf:=h.fit
 have hrv:=hrg.v0
 have hrc:=hrg.c0
 have hN:=h.hN
 have hm0:0≤s.us.tmod r.n:=Int.tmod_nonneg _ h.srv.us.1
 have hm1:s.us.tmod r.n<r.n:=Int.tmod_lt_of_pos _ (by omega)
 have hd:=zbu h.srv (r.c+4+8*s.us.tmod r.n) 0 (.pointer (some ⟨P,0,none⟩)) sv undef
 have ea:(u64v 10).den (srho r s (r.c+4+8*s.us.tmod r.n) 0 (.pointer (some ⟨P,0,none⟩)) sv undef)=(r.c+4+8*s.us.tmod r.n):=zaH (by show 0≤(r.c+4+8*s.us.tmod r.n);omega) (by show (r.c+4+8*s.us.tmod r.n)<_;omega)
 have er:SE.den (srho r s (r.c+4+8*s.us.tmod r.n) 0 (.pointer (some ⟨P,0,none⟩)) sv undef) (.bin .rem .i64 (u16v 5) (szv 0))=s.us.tmod r.n:=by rw [ztN,hd.us,hd.n]
 have eu:SE.den (srho r s (r.c+4+8*s.us.tmod r.n) 0 (.pointer (some ⟨P,0,none⟩)) sv undef) (.flds [⟨7,0,65535,0,16,0⟩,⟨8,0,4294967295,0,32,32⟩] 0)=s.hd+s.wr*4294967296:=zDi h.srv.hd h.srv.wr
 have hnv:nv=zin S 61:=by
  rw [hp] at hn
  cases hn with
  | idle h _=>cases h
  | meth f h hv=>cases h;exact hv
  | fence f _ _ h=>cases h
 subst hnv
 have hj2:jOf [(S,0),(M,0)] 2=some ⟨M,0,0,none⟩:=rfl
 have hj1:jOf [(S,0),(M,0)] 1=some ⟨S,0,0,none⟩:=rfl
 refine Calls.mono (zav (ρ:=(srho r s (r.c+4+8*s.us.tmod r.n) 0 (.pointer (some ⟨P,0,none⟩)) sv undef)) (K:=sK S M B) (g:=memG P L Bs B N [g,putW g (r.c+4+8*s.us.tmod r.n).toNat 8 (s.hd+s.wr*4294967296)]) (bl:= [(S,0),(M,0)]) (vals:= [.pointer (some ⟨S,0,none⟩)]) mixed zpS zsQ h.kold
  ⟨zbc ho (zcb hd hb hsv.one hj2 (zbX (zab (zaY hj1) RL.nil) RL.nil)) (.inl rfl),zcS h.srv (.inr (.inl rfl)),trivial⟩ h.apart (zbx h.mem h.mine)
  ⟨zcr (fun j=>R_rg hrg) ea (fun w=>by rw [er];exact zHd r hrg _ ⟨hm0,hm1⟩ w),zjd (k:=8) h.hN hd.p ea (by omega) (.inr (.inr (.inr rfl))) (by omega) eu (.inr (.inr rfl)),trivial⟩ (zab (zaY hj1) RL.nil) (zad.2 trivial)) fun e w' hh=> ?_
 obtain ⟨p,hpm,hto,l,hl,j,he⟩:=hh
 have hj1':=he.sub _ _ hj1
 have hj2':=he.sub _ _ hj2
 have lc1:=zag hj1'
 have lc2:=zag hj2'
 have hmv:=he.mv
 have hkA:=h.kA hmv
 obtain ⟨g',hg0,hgm⟩:=zdh he.gho
 unfold zjK at hpm
 simp only [List.mem_cons,List.not_mem_nil,or_false] at hpm
 rcases hpm with rfl
 all_goals
  simp only [zaa,zad,zbV,zc3,zaM,zaW,zaf,hd.n,hd.nx,hd.b0,zaS,decide_eq_true_eq,decide_eq_false_iff_not,and_true] at hto
  cases hl
  have hO:=(he.rows.1 _ hj1').2 (.inr (.inl rfl)) rfl
  have hM:=he.maps.1 _ hj2'
  cases hg0
  simp only [AV.val,AV.valL,lc1,lc2,hd.n,hd.d,hd.v,hd.c,hd.nx,hd.us,hd.hd,hd.wr,hd.p,hd.sv,zay,zaf,den_add,zaW,zaS,zaM,zbA,hd.op,hd.b0,hd.b1,hd.b2,hd.b3,hd.b4,hd.b5] at hO
 ·exact ⟨he.ret.trans (by simp only [AV.val,AV.valL,er,zaf];rfl),h.next hmv hgm ⟨_,_,hO,h.fenceOk he hj1 hj2 (.head _) (.head _) (x:=6) (y:=5) (f:=89) (.tail _ (.tail _ (.head _))) (.tail _ (.head _)) (.tail _ (.tail _ (.head _))) (.tail _ (.head _)) (by decide) (by decide) (by decide) (by decide) rfl,hsv.kept hkA⟩ (h.srv.tk.same hkA hM) h.srv.nx h.srv.us h.srv.hd h.srv.wr,hmv⟩
theorem Tryz.zBL {A:Nat→Prop} {w:World} {S P L Bs B M N:Nat} {r:Rg} {s:SS} {g:Nat→Int} (h:SW A w S P L Bs B M N r s g) (hb:s.br=false) (hp:s.ph=13):
  Calls prog 28 #[.pointer (some ⟨S,0,none⟩)] w fun e w'=>e= .returned (.tuple #[accV 3 7 0,.int .i64 0])∧SW A w' S P L Bs B M N r (({ s with us:=(s.us+1)%65536 }:SS).goto 14) (putW g (r.c+2).toNat 2 ((s.us+1)%65536))∧Dw.Mv (sK S M B) w w':=by
 obtain ⟨nv,sv,ho,hn,hsv⟩:=h.srv.obj
 have hrg:=h.srv.rg
 have hbd:=hrg.bnd
 have hf:=h.fit
 have hrv:=hrg.v0
 have hrc:=hrg.c0
 have hN:=h.hN
 have hd:=zbu h.srv (r.c+2) 0 (.pointer (some ⟨P,0,none⟩)) sv undef
 have ea:(u64v 10).den (srho r s (r.c+2) 0 (.pointer (some ⟨P,0,none⟩)) sv undef)=(r.c+2):=zaH (by show 0≤(r.c+2);omega) (by show (r.c+2)<_;omega)
 have hnv:nv=zin S 89:=by
  rw [hp] at hn
  cases hn with
  | idle h _=>cases h
  | meth f h hv=>cases h;exact hv
  | fence f _ _ h=>cases h
 subst hnv
 have hj2:jOf [(S,0),(M,0)] 2=some ⟨M,0,0,none⟩:=rfl
 have hj1:jOf [(S,0),(M,0)] 1=some ⟨S,0,0,none⟩:=rfl
 refine Calls.mono (zav (ρ:=(srho r s (r.c+2) 0 (.pointer (some ⟨P,0,none⟩)) sv undef)) (K:=sK S M B) (g:=memG P L Bs B N [g,putW g (r.c+2).toNat 2 ((s.us+1)%65536)]) (bl:= [(S,0),(M,0)]) (vals:= [.pointer (some ⟨S,0,none⟩)]) mixed zxl zzJ h.kold
  ⟨zbc ho (zcb hd hb hsv.one hj2 (zbX (zab (zaY hj1) RL.nil) RL.nil)) (.inl rfl),zcS h.srv (.inr (.inl rfl)),trivial⟩ h.apart (zbx h.mem h.mine)
  ⟨zcr (fun j=>R_rg hrg) ea (fun w=>zHg r hrg w),zjd (k:=2) h.hN hd.p ea (by omega) (.inr (.inl rfl)) (by omega) (by rw [den_add,hd.us,zaf,zaS]) (.inr (.inr rfl)),trivial⟩ (zab (zaY hj1) RL.nil) (zad.2 trivial)) fun e w' hh=> ?_
 obtain ⟨p,hpm,hto,l,hl,j,he⟩:=hh
 have hj1':=he.sub _ _ hj1
 have hj2':=he.sub _ _ hj2
 have lc1:=zag hj1'
 have lc2:=zag hj2'
 have hmv:=he.mv
 have hkA:=h.kA hmv
 obtain ⟨g',hg0,hgm⟩:=zdh he.gho
 unfold zpA at hpm
 simp only [List.mem_cons,List.not_mem_nil,or_false] at hpm
 rcases hpm with rfl
 all_goals
  simp only [zaa,zad,zbV,zc3,zaM,zaW,zaf,hd.n,hd.nx,hd.b0,zaS,decide_eq_true_eq,decide_eq_false_iff_not,and_true] at hto
  cases hl
  have hO:=(he.rows.1 _ hj1').2 (.inr (.inl rfl)) rfl
  have hM:=he.maps.1 _ hj2'
  cases hg0
  simp only [AV.val,AV.valL,lc1,lc2,hd.n,hd.d,hd.v,hd.c,hd.nx,hd.us,hd.hd,hd.wr,hd.p,hd.sv,zay,zaf,den_add,zaW,zaS,zaM,zbA,hd.op,hd.b0,hd.b1,hd.b2,hd.b3,hd.b4,hd.b5] at hO
 ·exact ⟨he.ret,h.next hmv hgm ⟨_,_,hO,h.fenceOk he hj1 hj2 (.head _) (.head _) (x:=6) (y:=5) (f:=119) (.tail _ (.tail _ (.head _))) (.tail _ (.head _)) (.tail _ (.tail _ (.head _))) (.tail _ (.head _)) (by decide) (by decide) (by decide) (by decide) rfl,hsv.kept hkA⟩ (h.srv.tk.same hkA hM) h.srv.nx (by show 0≤(s.us+1)%65536∧(s.us+1)%65536<65536;omega) h.srv.hd h.srv.wr,hmv⟩
theorem Tryz.zza {A:Nat→Prop} {w:World} {S P L Bs B M N:Nat} {r:Rg} {s:SS} {g:Nat→Int} (h:SW A w S P L Bs B M N r s g) (hb:s.br=false) (hp:s.ph=15) (hev:s.ev=false):
  Calls prog 28 #[.pointer (some ⟨S,0,none⟩)] w fun e w'=>e= .returned (.tuple #[accV 2 2 0,.int .i64 0])∧SW A w' S P L Bs B M N r (zo3 r g s) g∧Dw.Mv (sK S M B) w w':=by
 obtain ⟨nv,sv,ho,hn,hsv⟩:=h.srv.obj
 have hrg:=h.srv.rg
 have hbd:=hrg.bnd
 have hf:=h.fit
 have hrv:=hrg.v0
 have hrc:=hrg.c0
 have hN:=h.hN
 obtain ⟨hx0,hx1⟩:=zCO h.mem.byte (r.v).toNat
 generalize hxx:zai g (r.v).toNat 2=x at hx0 hx1
 have hd:=zbu h.srv r.v x (.pointer (some ⟨P,0,none⟩)) sv undef
 have ea:(u64v 10).den (srho r s r.v x (.pointer (some ⟨P,0,none⟩)) sv undef)=r.v:=zaH (by show 0≤r.v;omega) (by show r.v<_;omega)
 have ex:(u16v 11).den (srho r s r.v x (.pointer (some ⟨P,0,none⟩)) sv undef)=x:=zbj hx0 hx1
 have hxl:SE.den (srho r s r.v x (.pointer (some ⟨P,0,none⟩)) sv undef) (.flds [⟨11,0,65535,0,1,0⟩] 0)=x%2:=zLr hx0 hx1
 have hnv:nv=zin S 119:=by
  rw [hp] at hn
  cases hn with
  | idle h _=>cases h
  | meth f h hv=>cases h;exact hv
  | fence f _ _ h=>cases h
 subst hnv
 have hj2:jOf [(S,0),(M,0)] 2=some ⟨M,0,0,none⟩:=rfl
 have hj1:jOf [(S,0),(M,0)] 1=some ⟨S,0,0,none⟩:=rfl
 refine Calls.mono (zav (ρ:=(srho r s r.v x (.pointer (some ⟨P,0,none⟩)) sv undef)) (K:=sK S M B) (g:=memG P L Bs B N [g]) (bl:= [(S,0),(M,0)]) (vals:= [.pointer (some ⟨S,0,none⟩)]) mixed zxb zzl h.kold
  ⟨zbc ho (zcb hd hb hsv.one hj2 (zbX (zab (zaY hj1) RL.nil) RL.nil)) (.inl rfl),zcS h.srv (.inr (.inl rfl)),trivial⟩ h.apart (zbx h.mem h.mine)
  ⟨zcr (fun j=>R_rg hrg) ea (fun w=>zHr r hrg w),zgS h.hN hd.p ea (by omega) (by omega) (ex.trans hxx.symm),trivial⟩ (zab (zaY hj1) RL.nil) (zaa.2 ⟨by rw [zaM,hd.b0,hev],zad.2 trivial⟩)) fun e w' hh=> ?_
 obtain ⟨p,hpm,hto,l,hl,j,he⟩:=hh
 have hj1':=he.sub _ _ hj1
 have hj2':=he.sub _ _ hj2
 have lc1:=zag hj1'
 have lc2:=zag hj2'
 have hmv:=he.mv
 have hkA:=h.kA hmv
 obtain ⟨g',hg0,hgm⟩:=zdh he.gho
 unfold zpf at hpm
 simp only [List.mem_cons,List.not_mem_nil,or_false] at hpm
 rcases hpm with rfl
 all_goals
  simp only [zaa,zad,zbV,zc3,zaM,zaW,zaf,hd.n,hd.nx,hd.b0,ex,zaS,decide_eq_true_eq,decide_eq_false_iff_not,and_true] at hto
  cases hl
  have hO:=(he.rows.1 _ hj1').2 (.inr (.inl rfl)) rfl
  have hM:=he.maps.1 _ hj2'
  cases hg0
  simp only [AV.val,AV.valL,lc1,lc2,hd.n,hd.d,hd.v,hd.c,hd.nx,hd.us,hd.hd,hd.wr,hd.p,hd.sv,zay,zaf,den_add,zaW,zaS,zaM,zbA,hd.op,hd.b0,hd.b1,hd.b2,hd.b3,hd.b4,hd.b5,zbW,hxl] at hO
 ·have e1:zo3 r g s=({ s with it:=x%2==0,tk:=zeD s.hd s.tk }:SS).stop:=by unfold zo3 zEV;rw [hev,if_neg (by decide),hxx]
  rw [e1]
  exact ⟨he.ret,h.next hmv hgm ⟨_,_,hO,.idle rfl rfl,hsv.kept hkA⟩ (h.srv.tk.del hkA (by obtain ⟨arr,clock,arr0,clock0,q1,q2,q3,q4⟩:=hM;refine ⟨arr,clock,arr0,clock0,q1,q2,q3,fun k=> ?_⟩;have:=q4 k;simp only [zgQ,AV.val,hd.hd,Option.map,mlog] at this;exact this)) h.srv.nx h.srv.us h.srv.hd h.srv.wr,hmv⟩
theorem Tryz.zzb {A:Nat→Prop} {w:World} {S P L Bs B M N:Nat} {r:Rg} {s:SS} {g:Nat→Int} (h:SW A w S P L Bs B M N r s g) (hb:s.br=false) (hp:s.ph=15) (hev:s.ev=true):
  Calls prog 28 #[.pointer (some ⟨S,0,none⟩)] w fun e w'=>e= .returned (.tuple #[accV 2 5 0,.int .i64 0])∧SW A w' S P L Bs B M N r (zo3 r g s) g∧Dw.Mv (sK S M B) w w':=by
 obtain ⟨nv,sv,ho,hn,hsv⟩:=h.srv.obj
 have hrg:=h.srv.rg
 have hbd:=hrg.bnd
 have hf:=h.fit
 have hrv:=hrg.v0
 have hrc:=hrg.c0
 have hN:=h.hN
 obtain ⟨hx0,hx1⟩:=zCO h.mem.byte (r.v+4+2*r.n).toNat
 generalize hxx:zai g (r.v+4+2*r.n).toNat 2=x at hx0 hx1
 have hd:=zbu h.srv (r.v+4+2*r.n) x (.pointer (some ⟨P,0,none⟩)) sv undef
 have ea:(u64v 10).den (srho r s (r.v+4+2*r.n) x (.pointer (some ⟨P,0,none⟩)) sv undef)=(r.v+4+2*r.n):=zaH (by show 0≤(r.v+4+2*r.n);omega) (by show (r.v+4+2*r.n)<_;omega)
 have ex:(u16v 11).den (srho r s (r.v+4+2*r.n) x (.pointer (some ⟨P,0,none⟩)) sv undef)=x:=zbj hx0 hx1
 have hnv:nv=zin S 119:=by
  rw [hp] at hn
  cases hn with
  | idle h _=>cases h
  | meth f h hv=>cases h;exact hv
  | fence f _ _ h=>cases h
 subst hnv
 have hj2:jOf [(S,0),(M,0)] 2=some ⟨M,0,0,none⟩:=rfl
 have hj1:jOf [(S,0),(M,0)] 1=some ⟨S,0,0,none⟩:=rfl
 refine Calls.mono (zav (ρ:=(srho r s (r.v+4+2*r.n) x (.pointer (some ⟨P,0,none⟩)) sv undef)) (K:=sK S M B) (g:=memG P L Bs B N [g]) (bl:= [(S,0),(M,0)]) (vals:= [.pointer (some ⟨S,0,none⟩)]) mixed zxd zzm h.kold
  ⟨zbc ho (zcb hd hb hsv.one hj2 (zbX (zab (zaY hj1) RL.nil) RL.nil)) (.inl rfl),zcS h.srv (.inr (.inl rfl)),trivial⟩ h.apart (zbx h.mem h.mine)
  ⟨zcr (fun j=>R_rg hrg) ea (fun w=>zHj r hrg w),zgS h.hN hd.p ea (by omega) (by omega) (ex.trans hxx.symm),trivial⟩ (zab (zaY hj1) RL.nil) (zaa.2 ⟨by rw [zaM,hd.b0,hev],zad.2 trivial⟩)) fun e w' hh=> ?_
 obtain ⟨p,hpm,hto,l,hl,j,he⟩:=hh
 have hj1':=he.sub _ _ hj1
 have hj2':=he.sub _ _ hj2
 have lc1:=zag hj1'
 have lc2:=zag hj2'
 have hmv:=he.mv
 have hkA:=h.kA hmv
 obtain ⟨g',hg0,hgm⟩:=zdh he.gho
 unfold zph at hpm
 simp only [List.mem_cons,List.not_mem_nil,or_false] at hpm
 rcases hpm with rfl
 all_goals
  simp only [zaa,zad,zbV,zc3,zaM,zaW,zaf,hd.n,hd.nx,hd.b0,ex,zaS,decide_eq_true_eq,decide_eq_false_iff_not,and_true] at hto
  cases hl
  have hO:=(he.rows.1 _ hj1').2 (.inr (.inl rfl)) rfl
  have hM:=he.maps.1 _ hj2'
  cases hg0
  simp only [AV.val,AV.valL,lc1,lc2,hd.n,hd.d,hd.v,hd.c,hd.nx,hd.us,hd.hd,hd.wr,hd.p,hd.sv,zay,zaf,den_add,zaW,zaS,zaM,zbA,hd.op,hd.b0,hd.b1,hd.b2,hd.b3,hd.b4,hd.b5,zaX,ex] at hO
 ·have e1:zo3 r g s=({ s with it:=decide (((s.us-x)%65536-1)%65536<(s.us-(s.us-1)%65536)%65536),tk:=zeD s.hd s.tk }:SS).stop:=by
   unfold zo3 zEV
   rw [hev,if_pos rfl,hxx,zIU h.srv.us]
  rw [e1]
  exact ⟨he.ret,h.next hmv hgm ⟨_,_,hO,.idle rfl rfl,hsv.kept hkA⟩ (h.srv.tk.del hkA (by obtain ⟨arr,clock,arr0,clock0,q1,q2,q3,q4⟩:=hM;refine ⟨arr,clock,arr0,clock0,q1,q2,q3,fun k=> ?_⟩;have:=q4 k;simp only [zgQ,AV.val,hd.hd,Option.map,mlog] at this;exact this)) h.srv.nx h.srv.us h.srv.hd h.srv.wr,hmv⟩
theorem Tryz.zyi {A:Nat→Prop} {w:World} {S P L Bs B M N:Nat} {r:Rg} {s:SS} {g:Nat→Int} (h:SW A w S P L Bs B M N r s g) (hb:s.br=false) (hp:s.ph=3):
  Calls prog 28 #[.pointer (some ⟨S,0,none⟩)] w fun e w'=>e= .returned (.tuple #[accV 4 0 0,.int .i64 0])∧SW A w' S P L Bs B M N r (s.goto 4) g∧Dw.Mv (sK S M B) w w':=by
 obtain ⟨nv,sv,ho,hn,hsv⟩:=h.srv.obj
 have hrg:=h.srv.rg
 have hbd:=hrg.bnd
 have hf:=h.fit
 have hrv:=hrg.v0
 have hrc:=hrg.c0
 have hN:=h.hN
 have hd:=zbu h.srv 0 0 (.pointer (some ⟨P,0,none⟩)) sv undef
 rw [hp] at hn
 cases hn with
 | idle h _=>cases h
 | meth f h hv=>cases h
 | fence f X Y h0 hv hX hY aX aY=>
 cases h0
 subst hv
 have hj2:jOf [(S,0),(M,0),(X,0),(Y,0)] 2=some ⟨M,0,0,none⟩:=rfl
 have hj1:jOf [(S,0),(M,0),(X,0),(Y,0)] 1=some ⟨S,0,0,none⟩:=rfl
 have hj3:jOf [(S,0),(M,0),(X,0),(Y,0)] 3=some ⟨X,0,0,none⟩:=rfl
 have hj4:jOf [(S,0),(M,0),(X,0),(Y,0)] 4=some ⟨Y,0,0,none⟩:=rfl
 have kX: ¬(X=S∨X=M):=fun hh=>aX (by rcases hh with rfl|rfl;exact h.srv.aS;exact h.srv.aM)
 have kY: ¬(Y=S∨Y=M):=fun hh=>aY (by rcases hh with rfl|rfl;exact h.srv.aS;exact h.srv.aM)
 refine Calls.mono (zav (ρ:=(srho r s 0 0 (.pointer (some ⟨P,0,none⟩)) sv undef)) (K:=fun b=>b=S∨b=M) (g:=Gho.none) (bl:= [(S,0),(M,0),(X,0),(Y,0)]) (vals:= [.pointer (some ⟨S,0,none⟩)]) mixed zsM zxo (fun b hb=>h.kold b (hb.imp_right .inl))
  ⟨zbc ho (zcb hd hb hsv.one hj2 (zbX RL.nil (zab (zaY hj3) (zab (zaY hj4) RL.nil)))) (.inl rfl),zcS h.srv (.inr rfl),zpK hX (zab (zbX (zab (zaY hj1) RL.nil) RL.nil) RL.nil) kX,zpK hY (zab (zaY hj1) RL.nil) kY,trivial⟩ h.apartF zaB
  trivial (zab (zaY hj1) RL.nil) (zad.2 trivial)) fun e w' hh=> ?_
 obtain ⟨p,hpm,hto,l,hl,j,he⟩:=hh
 have hj1':=he.sub _ _ hj1
 have hj2':=he.sub _ _ hj2
 have lc1:=zag hj1'
 have lc2:=zag hj2'
 have hmw:=he.mv
 have hmv:Dw.Mv (sK S M B) w w':=hmw.mono fun b hb=>hb.imp_right .inl
 have hkA:=h.kA hmv
 have hgm:=h.mem.kept (fun k hk hk'=>hmw.block k hk (h.kmem k hk')) hmv.size
 unfold zl7 at hpm
 simp only [List.mem_cons,List.not_mem_nil,or_false] at hpm
 rcases hpm with rfl
 all_goals
  simp only [zaa,zad,zbV,zc3,zaM,zaW,zaf,hd.n,hd.nx,hd.b0,zaS,decide_eq_true_eq,decide_eq_false_iff_not,and_true] at hto
  cases hl
  have hO:=(he.rows.1 _ hj1').2 (.inr (.inl rfl)) rfl
  have hM:=he.maps.1 _ hj2'
  simp only [AV.val,AV.valL,lc1,lc2,hd.n,hd.d,hd.v,hd.c,hd.nx,hd.us,hd.hd,hd.wr,hd.p,hd.sv,zay,zaf,den_add,zaW,zaS,zaM,zbA,hd.op,hd.b0,hd.b1,hd.b2,hd.b3,hd.b4,hd.b5] at hO
 ·exact ⟨he.ret,h.next hmv hgm ⟨_,_,hO,.meth _ rfl rfl,hsv.kept hkA⟩ (h.srv.tk.same hkA hM) h.srv.nx h.srv.us h.srv.hd h.srv.wr,hmv⟩
theorem Tryz.zyh {A:Nat→Prop} {w:World} {S P L Bs B M N:Nat} {r:Rg} {s:SS} {g:Nat→Int} (h:SW A w S P L Bs B M N r s g) (hb:s.br=false) (hp:s.ph=5):
  Calls prog 28 #[.pointer (some ⟨S,0,none⟩)] w fun e w'=>e= .returned (.tuple #[accV 4 0 0,.int .i64 0])∧SW A w' S P L Bs B M N r (s.goto 6) g∧Dw.Mv (sK S M B) w w':=by
 obtain ⟨nv,sv,ho,hn,hsv⟩:=h.srv.obj
 have hrg:=h.srv.rg
 have hbd:=hrg.bnd
 have hf:=h.fit
 have hrv:=hrg.v0
 have hrc:=hrg.c0
 have hN:=h.hN
 have hd:=zbu h.srv 0 0 (.pointer (some ⟨P,0,none⟩)) sv undef
 rw [hp] at hn
 cases hn with
 | idle h _=>cases h
 | meth f h hv=>cases h
 | fence f X Y h0 hv hX hY aX aY=>
 cases h0
 subst hv
 have hj2:jOf [(S,0),(M,0),(X,0),(Y,0)] 2=some ⟨M,0,0,none⟩:=rfl
 have hj1:jOf [(S,0),(M,0),(X,0),(Y,0)] 1=some ⟨S,0,0,none⟩:=rfl
 have hj3:jOf [(S,0),(M,0),(X,0),(Y,0)] 3=some ⟨X,0,0,none⟩:=rfl
 have hj4:jOf [(S,0),(M,0),(X,0),(Y,0)] 4=some ⟨Y,0,0,none⟩:=rfl
 have kX: ¬(X=S∨X=M):=fun hh=>aX (by rcases hh with rfl|rfl;exact h.srv.aS;exact h.srv.aM)
 have kY: ¬(Y=S∨Y=M):=fun hh=>aY (by rcases hh with rfl|rfl;exact h.srv.aS;exact h.srv.aM)
 refine Calls.mono (zav (ρ:=(srho r s 0 0 (.pointer (some ⟨P,0,none⟩)) sv undef)) (K:=fun b=>b=S∨b=M) (g:=Gho.none) (bl:= [(S,0),(M,0),(X,0),(Y,0)]) (vals:= [.pointer (some ⟨S,0,none⟩)]) mixed zsK zxn (fun b hb=>h.kold b (hb.imp_right .inl))
  ⟨zbc ho (zcb hd hb hsv.one hj2 (zbX RL.nil (zab (zaY hj3) (zab (zaY hj4) RL.nil)))) (.inl rfl),zcS h.srv (.inr rfl),zpK hX (zab (zbX (zab (zaY hj1) RL.nil) RL.nil) RL.nil) kX,zpK hY (zab (zaY hj1) RL.nil) kY,trivial⟩ h.apartF zaB
  trivial (zab (zaY hj1) RL.nil) (zad.2 trivial)) fun e w' hh=> ?_
 obtain ⟨p,hpm,hto,l,hl,j,he⟩:=hh
 have hj1':=he.sub _ _ hj1
 have hj2':=he.sub _ _ hj2
 have lc1:=zag hj1'
 have lc2:=zag hj2'
 have hmw:=he.mv
 have hmv:Dw.Mv (sK S M B) w w':=hmw.mono fun b hb=>hb.imp_right .inl
 have hkA:=h.kA hmv
 have hgm:=h.mem.kept (fun k hk hk'=>hmw.block k hk (h.kmem k hk')) hmv.size
 unfold zl5 at hpm
 simp only [List.mem_cons,List.not_mem_nil,or_false] at hpm
 rcases hpm with rfl
 all_goals
  simp only [zaa,zad,zbV,zc3,zaM,zaW,zaf,hd.n,hd.nx,hd.b0,zaS,decide_eq_true_eq,decide_eq_false_iff_not,and_true] at hto
  cases hl
  have hO:=(he.rows.1 _ hj1').2 (.inr (.inl rfl)) rfl
  have hM:=he.maps.1 _ hj2'
  simp only [AV.val,AV.valL,lc1,lc2,hd.n,hd.d,hd.v,hd.c,hd.nx,hd.us,hd.hd,hd.wr,hd.p,hd.sv,zay,zaf,den_add,zaW,zaS,zaM,zbA,hd.op,hd.b0,hd.b1,hd.b2,hd.b3,hd.b4,hd.b5] at hO
 ·exact ⟨he.ret,h.next hmv hgm ⟨_,_,hO,.meth _ rfl rfl,hsv.kept hkA⟩ (h.srv.tk.same hkA hM) h.srv.nx h.srv.us h.srv.hd h.srv.wr,hmv⟩
theorem Tryz.ztH {A:Nat→Prop} {w:World} {S P L Bs B M N:Nat} {r:Rg} {s:SS} {g:Nat→Int} (h:SW A w S P L Bs B M N r s g) (hb:s.br=false) (hp:s.ph=12):
  Calls prog 28 #[.pointer (some ⟨S,0,none⟩)] w fun e w'=>e= .returned (.tuple #[accV 4 0 0,.int .i64 0])∧SW A w' S P L Bs B M N r (s.goto 13) g∧Dw.Mv (sK S M B) w w':=by
 obtain ⟨nv,sv,ho,hn,hsv⟩:=h.srv.obj
 have hrg:=h.srv.rg
 have hbd:=hrg.bnd
 have hf:=h.fit
 have hrv:=hrg.v0
 have hrc:=hrg.c0
 have hN:=h.hN
 have hd:=zbu h.srv 0 0 (.pointer (some ⟨P,0,none⟩)) sv undef
 rw [hp] at hn
 cases hn with
 | idle h _=>cases h
 | meth f h hv=>cases h
 | fence f X Y h0 hv hX hY aX aY=>
 cases h0
 subst hv
 have hj2:jOf [(S,0),(M,0),(X,0),(Y,0)] 2=some ⟨M,0,0,none⟩:=rfl
 have hj1:jOf [(S,0),(M,0),(X,0),(Y,0)] 1=some ⟨S,0,0,none⟩:=rfl
 have hj3:jOf [(S,0),(M,0),(X,0),(Y,0)] 3=some ⟨X,0,0,none⟩:=rfl
 have hj4:jOf [(S,0),(M,0),(X,0),(Y,0)] 4=some ⟨Y,0,0,none⟩:=rfl
 have kX: ¬(X=S∨X=M):=fun hh=>aX (by rcases hh with rfl|rfl;exact h.srv.aS;exact h.srv.aM)
 have kY: ¬(Y=S∨Y=M):=fun hh=>aY (by rcases hh with rfl|rfl;exact h.srv.aS;exact h.srv.aM)
 refine Calls.mono (zav (ρ:=(srho r s 0 0 (.pointer (some ⟨P,0,none⟩)) sv undef)) (K:=fun b=>b=S∨b=M) (g:=Gho.none) (bl:= [(S,0),(M,0),(X,0),(Y,0)]) (vals:= [.pointer (some ⟨S,0,none⟩)]) mixed zpN zsP (fun b hb=>h.kold b (hb.imp_right .inl))
  ⟨zbc ho (zcb hd hb hsv.one hj2 (zbX RL.nil (zab (zaY hj3) (zab (zaY hj4) RL.nil)))) (.inl rfl),zcS h.srv (.inr rfl),zpK hX (zab (zbX (zab (zaY hj1) RL.nil) RL.nil) RL.nil) kX,zpK hY (zab (zaY hj1) RL.nil) kY,trivial⟩ h.apartF zaB
  trivial (zab (zaY hj1) RL.nil) (zad.2 trivial)) fun e w' hh=> ?_
 obtain ⟨p,hpm,hto,l,hl,j,he⟩:=hh
 have hj1':=he.sub _ _ hj1
 have hj2':=he.sub _ _ hj2
 have lc1:=zag hj1'
 have lc2:=zag hj2'
 have hmw:=he.mv
 have hmv:Dw.Mv (sK S M B) w w':=hmw.mono fun b hb=>hb.imp_right .inl
 have hkA:=h.kA hmv
 have hgm:=h.mem.kept (fun k hk hk'=>hmw.block k hk (h.kmem k hk')) hmv.size
 unfold zjG at hpm
 simp only [List.mem_cons,List.not_mem_nil,or_false] at hpm
 rcases hpm with rfl
 all_goals
  simp only [zaa,zad,zbV,zc3,zaM,zaW,zaf,hd.n,hd.nx,hd.b0,zaS,decide_eq_true_eq,decide_eq_false_iff_not,and_true] at hto
  cases hl
  have hO:=(he.rows.1 _ hj1').2 (.inr (.inl rfl)) rfl
  have hM:=he.maps.1 _ hj2'
  simp only [AV.val,AV.valL,lc1,lc2,hd.n,hd.d,hd.v,hd.c,hd.nx,hd.us,hd.hd,hd.wr,hd.p,hd.sv,zay,zaf,den_add,zaW,zaS,zaM,zbA,hd.op,hd.b0,hd.b1,hd.b2,hd.b3,hd.b4,hd.b5] at hO
 ·exact ⟨he.ret,h.next hmv hgm ⟨_,_,hO,.meth _ rfl rfl,hsv.kept hkA⟩ (h.srv.tk.same hkA hM) h.srv.nx h.srv.us h.srv.hd h.srv.wr,hmv⟩
theorem Tryz.ztG {A:Nat→Prop} {w:World} {S P L Bs B M N:Nat} {r:Rg} {s:SS} {g:Nat→Int} (h:SW A w S P L Bs B M N r s g) (hb:s.br=false) (hp:s.ph=14):
  Calls prog 28 #[.pointer (some ⟨S,0,none⟩)] w fun e w'=>e= .returned (.tuple #[accV 4 0 0,.int .i64 0])∧SW A w' S P L Bs B M N r (s.goto 15) g∧Dw.Mv (sK S M B) w w':=by
 obtain ⟨nv,sv,ho,hn,hsv⟩:=h.srv.obj
 have hrg:=h.srv.rg
 have hbd:=hrg.bnd
 have hf:=h.fit
 have hrv:=hrg.v0
 have hrc:=hrg.c0
 have hN:=h.hN
 have hd:=zbu h.srv 0 0 (.pointer (some ⟨P,0,none⟩)) sv undef
 rw [hp] at hn
 cases hn with
 | idle h _=>cases h
 | meth f h hv=>cases h
 | fence f X Y h0 hv hX hY aX aY=>
 cases h0
 subst hv
 have hj2:jOf [(S,0),(M,0),(X,0),(Y,0)] 2=some ⟨M,0,0,none⟩:=rfl
 have hj1:jOf [(S,0),(M,0),(X,0),(Y,0)] 1=some ⟨S,0,0,none⟩:=rfl
 have hj3:jOf [(S,0),(M,0),(X,0),(Y,0)] 3=some ⟨X,0,0,none⟩:=rfl
 have hj4:jOf [(S,0),(M,0),(X,0),(Y,0)] 4=some ⟨Y,0,0,none⟩:=rfl
 have kX: ¬(X=S∨X=M):=fun hh=>aX (by rcases hh with rfl|rfl;exact h.srv.aS;exact h.srv.aM)
 have kY: ¬(Y=S∨Y=M):=fun hh=>aY (by rcases hh with rfl|rfl;exact h.srv.aS;exact h.srv.aM)
 refine Calls.mono (zav (ρ:=(srho r s 0 0 (.pointer (some ⟨P,0,none⟩)) sv undef)) (K:=fun b=>b=S∨b=M) (g:=Gho.none) (bl:= [(S,0),(M,0),(X,0),(Y,0)]) (vals:= [.pointer (some ⟨S,0,none⟩)]) mixed zpL zsO (fun b hb=>h.kold b (hb.imp_right .inl))
  ⟨zbc ho (zcb hd hb hsv.one hj2 (zbX RL.nil (zab (zaY hj3) (zab (zaY hj4) RL.nil)))) (.inl rfl),zcS h.srv (.inr rfl),zpK hX (zab (zbX (zab (zaY hj1) RL.nil) RL.nil) RL.nil) kX,zpK hY (zab (zaY hj1) RL.nil) kY,trivial⟩ h.apartF zaB
  trivial (zab (zaY hj1) RL.nil) (zad.2 trivial)) fun e w' hh=> ?_
 obtain ⟨p,hpm,hto,l,hl,j,he⟩:=hh
 have hj1':=he.sub _ _ hj1
 have hj2':=he.sub _ _ hj2
 have lc1:=zag hj1'
 have lc2:=zag hj2'
 have hmw:=he.mv
 have hmv:Dw.Mv (sK S M B) w w':=hmw.mono fun b hb=>hb.imp_right .inl
 have hkA:=h.kA hmv
 have hgm:=h.mem.kept (fun k hk hk'=>hmw.block k hk (h.kmem k hk')) hmv.size
 unfold zjE at hpm
 simp only [List.mem_cons,List.not_mem_nil,or_false] at hpm
 rcases hpm with rfl
 all_goals
  simp only [zaa,zad,zbV,zc3,zaM,zaW,zaf,hd.n,hd.nx,hd.b0,zaS,decide_eq_true_eq,decide_eq_false_iff_not,and_true] at hto
  cases hl
  have hO:=(he.rows.1 _ hj1').2 (.inr (.inl rfl)) rfl
  have hM:=he.maps.1 _ hj2'
  simp only [AV.val,AV.valL,lc1,lc2,hd.n,hd.d,hd.v,hd.c,hd.nx,hd.us,hd.hd,hd.wr,hd.p,hd.sv,zay,zaf,den_add,zaW,zaS,zaM,zbA,hd.op,hd.b0,hd.b1,hd.b2,hd.b3,hd.b4,hd.b5] at hO
 ·exact ⟨he.ret,h.next hmv hgm ⟨_,_,hO,.meth _ rfl rfl,hsv.kept hkA⟩ (h.srv.tk.same hkA hM) h.srv.nx h.srv.us h.srv.hd h.srv.wr,hmv⟩
theorem Tryz.zyS (a m:Int) (hm:0<m):((if a.tmod m<0 then a.tmod m+m else a.tmod m)=a%m)∧ -m<a.tmod m∧a.tmod m<m:=by
 rw [Int.tmod_eq_emod]
 have h1:=Int.emod_nonneg a (Int.ne_of_gt hm)
 have h2:=Int.emod_lt_of_pos a hm
 have h3:((m.natAbs:Nat):Int)=m:=Int.natAbs_of_nonneg (Int.le_of_lt hm)
 by_cases h:0≤a∨m ∣ a
 ·rw [if_pos h];simp only [Int.sub_zero,Int.ofNat_zero];refine ⟨?_,?_,?_⟩<;>first|omega|(split<;>omega)
 ·rw [if_neg h,h3]
  have h4:a%m≠0:=fun h0=>h (.inr (Int.dvd_of_emod_eq_zero h0))
  refine ⟨?_,?_,?_⟩<;>first|omega|(split<;>omega)
set_option maxRecDepth 100000 in
theorem Tryz.ziE (a m:Int) (hm:1≤m∧m≤1000000) (w:World):
  Calls prog 7 #[.int .i64 a,.int .i64 m] w fun e w'=>e= .returned (.int .i64 (a%m))∧w'=w:=by
 obtain ⟨hr,hlo,hhi⟩:=zyS a m (by omega)
 have hq:IntKind.i64.wrap (a.tmod m)=a.tmod m:=zdt (by omega) (by omega)
 have hm0:m≠0:=by omega
 have hm1: ¬m<1:=by omega
 by_cases h0:a.tmod m<0
 ·rw [if_pos h0] at hr
  have hq2:IntKind.i64.wrap (a.tmod m+m)=a.tmod m+m:=zdt (by omega) (by omega)
  rw [←hr]
  go_enter func7,ntmps7
  go_wp2
  go_ret
  exact ⟨rfl,rfl⟩
 ·rw [if_neg h0] at hr
  rw [←hr]
  go_enter func7,ntmps7
  go_wp2
  go_ret
  exact ⟨rfl,rfl⟩
end Go.Proofs
namespace Go.Proofs
open Go.Dw
def Tryz.zsb:List Ent:= []
def Tryz.zwL:List Sh:=zFE (.lit 0) [ckEl 3 4 0]
def Tryz.zfH:List (Nat×AV):=zhI (.lit 0) [(.lit 0,3)]
def Tryz.znq:List LEnt:= []
def Tryz.znr:List AEnt:= []
def Tryz.zwM:Option AV:=some ckD
def Tryz.zFC:List (SB×Bool):= []
def Tryz.zCH:List zbe:= [
 ⟨.ret,[2],(some (.tup [.func 118 [] [.ptr 1 0,.ptr 2 0],.tup []])),⟨.tup [.ptr 1 0],[(1,[.int .i64 (.lit 2)]),(2,[.int .u64 (u64v 2)])],[],0,[1,2]⟩⟩,
 ⟨.normal,[0,2,3,10,11,12],(some (.tup [.func 118 [] [.ptr 1 0,.ptr 2 0],.tup []])),⟨.tup [.sx 0 ((lnv 0)) 3 [((.lit 0),3)],.ptr 1 0,.ptr 2 0,.sx 0 ((lnv 0)) 3 [((.lit 0),3)],.int .i64 (lnv 0),.int .i64 (.lit 1)],[(1,[.int .i64 (.lit 0)]),(2,[.int .u64 (.bin .add .u64 (u64v 2) (u32v 4))])],[],0,[1,2]⟩⟩,
 ⟨(.exit 0),[2],(some (.tup [.func 118 [] [.ptr 1 0,.ptr 2 0],.tup []])),⟨.tup [.ptr 1 0],[(1,[.int .i64 (.lit 0)]),(2,[.int .u64 (u64v 2)])],[],0,[1,2]⟩⟩]
def Tryz.zCG:List (List (SB×Bool)×Nat):= [
 ([((.cmp .lss (.lit 0) (lnv 0)),true),((.cmp .lss (u32v 4) (.lit 1)),true)],0),
 ([((.cmp .lss (.lit 0) (lnv 0)),true),((.cmp .lss (u32v 4) (.lit 1)),false),((.cmp .gtr (.bin .sub .u64 (u32v 4) (.lit 1)) (.bin .sub .u64 (.lit 18446744073709551615) (u64v 3))),true)],0),
 ([((.cmp .lss (.lit 0) (lnv 0)),true),((.cmp .lss (u32v 4) (.lit 1)),false),((.cmp .gtr (.bin .sub .u64 (u32v 4) (.lit 1)) (.bin .sub .u64 (.lit 18446744073709551615) (u64v 3))),false)],1),
 ([((.cmp .lss (.lit 0) (lnv 0)),false)],2)]
theorem Tryz.zFB:(evL prog (zau zsb) (zaC znq) (zaA znr) 100000 (.code (zaI prog [0,0,1,0,1,1,1,1,88]) [0,0,1,0,1,1,1,1,88] 53 (envS 53 zfH zwM) (zar 0 zwL) (zaG zCH 0))).ways zFC=some zCG:=by kernel_rfl
theorem Tryz.zJN:(zah zwL&&zae zsb&&zan znq&&zao znr&&zaq zfH&&zal zCH&&zaF 53 zfH&&Nat.ble 53 zaN&&zaz zwM)=true:=by kernel_rfl
def Tryz.zsa:List Ent:= []
def Tryz.zwJ:List Sh:=zFE (.lit 0) [ckEl 3 4 0,ckEl 5 6 1]
def Tryz.zfG:List (Nat×AV):=zhI (lnv 1) [(lnv 1,3),(.bin .sub .i64 (lnv 1) (.lit 1),4)]
def Tryz.zno:List LEnt:= []
def Tryz.znp:List AEnt:= []
def Tryz.zwK:Option AV:=some ckD
def Tryz.zFA:List (SB×Bool):= [(.cmp .lss (lnv 1) (lnv 0),true),(.cmp .gtr (lnv 1) (.lit 0),true)]
def Tryz.zCF:List zbe:= [
 ⟨.ret,[2],(some (.tup [.func 118 [] [.ptr 1 0,.ptr 2 0],.tup []])),⟨.tup [.ptr 1 0],[(1,[.int .i64 (.lit 2)]),(2,[.int .u64 (u64v 2)])],[],0,[1,2]⟩⟩,
 ⟨.normal,[0,2,3,10,11,12],(some (.tup [.func 118 [] [.ptr 1 0,.ptr 2 0],.tup []])),⟨.tup [.sx 0 ((lnv 0)) 3 [((lnv 1),3),((.bin .sub .i64 (lnv 1) (.lit 1)),4)],.ptr 1 0,.ptr 2 0,.sx 0 ((lnv 0)) 3 [((lnv 1),3),((.bin .sub .i64 (lnv 1) (.lit 1)),4)],.int .i64 (lnv 0),.int .i64 (.bin .add .i64 (lnv 1) (.lit 1))],[(1,[.int .i64 (.lit 0)]),(2,[.int .u64 (.bin .add .u64 (u64v 2) (u32v 4))])],[],0,[1,2]⟩⟩]
def Tryz.zCE:List (List (SB×Bool)×Nat):= [
 ([((.cmp .lss (u32v 4) (.lit 1)),true)],0),
 ([((.cmp .lss (u32v 4) (.lit 1)),false),((.cmp .gtr (.bin .sub .u64 (u32v 4) (.lit 1)) (.bin .sub .u64 (.lit 18446744073709551615) (u64v 3))),true)],0),
 ([((.cmp .lss (u32v 4) (.lit 1)),false),((.cmp .gtr (.bin .sub .u64 (u32v 4) (.lit 1)) (.bin .sub .u64 (.lit 18446744073709551615) (u64v 3))),false),(.var 1,true),(.var 0,false)],0),
 ([((.cmp .lss (u32v 4) (.lit 1)),false),((.cmp .gtr (.bin .sub .u64 (u32v 4) (.lit 1)) (.bin .sub .u64 (.lit 18446744073709551615) (u64v 3))),false),(.var 1,true),(.var 0,true)],1),
 ([((.cmp .lss (u32v 4) (.lit 1)),false),((.cmp .gtr (.bin .sub .u64 (u32v 4) (.lit 1)) (.bin .sub .u64 (.lit 18446744073709551615) (u64v 3))),false),(.var 1,false)],1)]
theorem Tryz.zFz:(evL prog (zau zsa) (zaC zno) (zaA znp) 100000 (.code (zaI prog [0,0,1,0,1,1,1,1,88]) [0,0,1,0,1,1,1,1,88] 53 (envS 53 zfG zwK) (zar 0 zwJ) (zaG zCF 0))).ways zFA=some zCE:=by kernel_rfl
theorem Tryz.zJM:(zah zwJ&&zae zsa&&zan zno&&zao znp&&zaq zfG&&zal zCF&&zaF 53 zfG&&Nat.ble 53 zaN&&zaz zwK)=true:=by kernel_rfl
def Tryz.zr9:List Ent:= []
def Tryz.zwH:List Sh:=zFE (.lit 0) []
def Tryz.zfF:List (Nat×AV):=zhI (lnv 1) []
def Tryz.znm:List LEnt:= []
def Tryz.znn:List AEnt:= []
def Tryz.zwI:Option AV:=some ckD
def Tryz.zFy:List (SB×Bool):= [(.cmp .lss (lnv 1) (lnv 0),false)]
def Tryz.zCD:List zbe:= [
 ⟨(.exit 0),[2],(some (.tup [.func 118 [] [.ptr 1 0,.ptr 2 0],.tup []])),⟨.tup [.ptr 1 0],[(1,[.int .i64 (.lit 0)]),(2,[.int .u64 (u64v 2)])],[],0,[1,2]⟩⟩]
def Tryz.zCC:List (List (SB×Bool)×Nat):= [
 ([], 0)]
theorem Tryz.zFx:(evL prog (zau zr9) (zaC znm) (zaA znn) 100000 (.code (zaI prog [0,0,1,0,1,1,1,1,88]) [0,0,1,0,1,1,1,1,88] 53 (envS 53 zfF zwI) (zar 0 zwH) (zaG zCD 0))).ways zFy=some zCC:=by kernel_rfl
theorem Tryz.zJL:(zah zwH&&zae zr9&&zan znm&&zao znn&&zaq zfF&&zal zCD&&zaF 53 zfF&&Nat.ble 53 zaN&&zaz zwI)=true:=by kernel_rfl
def Tryz.zwG:List Ent:= []
def Tryz.zCA:List Sh:=zFE (.lit 0) []
def Tryz.zhc:List (Nat×AV):= [(2,.ptr 1 0)]
def Tryz.zr7:List LEnt:= []
def Tryz.zr8:List AEnt:= []
def Tryz.zCB:Option AV:=some ckD
def Tryz.zJK:List (SB×Bool):= []
def Tryz.zGP:List zbe:= [
 ⟨.ret,[2],(some (.tup [.func 118 [] [.ptr 1 0,.ptr 2 0],.tup []])),⟨.tup [.ptr 1 0],[(1,[.int .i64 (.lit 0)]),(2,[.int .u64 (u64v 2)])],[],0,[1,2]⟩⟩]
def Tryz.zGO:List (List (SB×Bool)×Nat):= [
 ([], 0)]
theorem Tryz.zJJ:(evL prog (zau zwG) (zaC zr7) (zaA zr8) 100000 (.code (zaI prog [1,1,1,1,1,88]) [1,1,1,1,1,88] 53 (envS 53 zhc zCB) (zar 0 zCA) (zaG zGP 0))).ways zJK=some zGO:=by kernel_rfl
theorem Tryz.zLd:(zah zCA&&zae zwG&&zan zr7&&zao zr8&&zaq zhc&&zal zGP&&zaF 53 zhc&&Nat.ble 53 zaN&&zaz zCB)=true:=by kernel_rfl
open Go.RowKit
def Tryz.za7 (pw:Bool) (sum:Int):List Sg→Int
 | [] => if 4294967296≤sum then 2 else 0
 | x::r=>if x.len<1∨18446744073709551615-x.at1<x.len-1∨(pw=true∧x.wr=false) then 2 else za7 x.wr (sum+x.len) r
def Tryz.zaZ (l:List Sg):Int:=if 64<l.length then 3 else za7 false 0 l
theorem Tryz.zbH {P:Program} {c c':Code} {Q:Exit→Act→World→Prop} {a:Act} {w:World} (e:c=c') (h:c'.wp P Q a w):c.wp P Q a w:=e▸h
structure Tryz.CkI (l:List Sg) (sa:Option Addr) (c E C:Nat) (w0:World) (k:Nat) (a:Act) (w:World):Prop where
 kl:k≤l.length
 size:a.tmps.size=53
 s0:a.tmps.getD 0 undef= .slice sa l.length c
 s2:a.tmps.getD 2 undef= .pointer (some ⟨E,0,none⟩)
 s3:a.tmps.getD 3 undef= .pointer (some ⟨C,0,none⟩)
 s10:a.tmps.getD 10 undef= .slice sa l.length c
 s11:a.tmps.getD 11 undef= .int .i64 l.length
 s12:a.tmps.getD 12 undef= .int .i64 k
 dfr: ∃d,a.defers= [d]∧ ∃args cap,d.target= .fn (.func 118) cap∧d.args=args∧(args++cap).toList= [.pointer (some ⟨E,0,none⟩),.pointer (some ⟨C,0,none⟩)]
 mv:Dw.Mv (fun b=>b=E∨b=C) w0 w
 sum: ∃pw s,Own w E [.int .i64 0]∧Own w C [.int .u64 s]∧0≤s∧s≤k*4294967296∧za7 pw s (l.drop k)=za7 false 0 l∧(k=0→pw=false)∧(∀i,k=i+1→ ∃h:i<l.length,pw=l[i].wr)
def Tryz.zbT (n k s:Int) (x y:Sg) (sl:Value):Val:=vof [n,k,s,x.at1,x.len,y.at1,y.len] [x.wr,y.wr] [sl]
theorem Tryz.zii {ρ:Val} {j:J} {E C:Nat} {ds:List Deferred} (h:DRo ρ j (some ckD) ds) (h1:j 1=some ⟨E,0,0,none⟩) (h2:j 2=some ⟨C,0,0,none⟩):
  ∃ d,ds= [d]∧ ∃args cap,d.target= .fn (.func 118) cap∧d.args=args∧(args++cap).toList= [.pointer (some ⟨E,0,none⟩),.pointer (some ⟨C,0,none⟩)]:=by
 cases ds with
 | nil=>cases h
 | cons d ds=>
  obtain ⟨g,args,rest,cap,e1,e2,e3,e4⟩:=h
  unfold ckD at e1
  cases e1
  cases ds with
  | cons d' ds'=>obtain ⟨_,_,_,_,e,_⟩:=e4;cases e
  | nil=>
   refine ⟨d,rfl,d.args,cap,e2,rfl,?_⟩
   obtain ⟨v1,m1,q1,⟨L1,r1,rfl⟩,v2,m2,rfl,⟨L2,r2,rfl⟩,q3⟩:=e3
   rw [h1] at r1;cases r1
   rw [h2] at r2;cases r2
   have q3:m2= []:=q3
   rw [q1,q3]
theorem Tryz.ck_dfr' {ρ:Val} {j:J} {E C:Nat} {ds:List Deferred} (h1:j 1=some ⟨E,0,0,none⟩) (h2:j 2=some ⟨C,0,0,none⟩)
  (h: ∃d,ds= [d]∧ ∃args cap,d.target= .fn (.func 118) cap∧d.args=args∧(args++cap).toList= [.pointer (some ⟨E,0,none⟩),.pointer (some ⟨C,0,none⟩)]):DRo ρ j (some ckD) ds:=by
 obtain ⟨d,rfl,args,cap,e1,rfl,e3⟩:=h
 exact ⟨_,_,_,cap,rfl,e1,by rw [e3];exact zab (zaY h1) (zab (zaY h2) RL.nil),rfl⟩
theorem Tryz.zqg {w:World} {R o:Nat} {vs:List Value} (h:w.rangeAt R o vs) (h0:vs≠ []): ∃(arr:Array Value) (e:TypeId) (fr:Nat×Nat),w.heap[R]? =some (.cells arr e fr)∧o+vs.length≤arr.size∧ ∀(i:Nat) (y:Value),vs[i]? =some y→arr[o+i]? =some y:=by
 have hc: ∀(i:Nat) (y:Value),vs[i]? =some y→ ∃arr e fr,w.heap[R]? =some (.cells arr e fr)∧arr[o+i]? =some y:=fun i y hy=>by
  have:=h i y hy
  unfold World.cell? at this
  split at this
  ·rename_i arr e fr he
   exact ⟨arr,e,fr,he,this⟩
  ·cases this
 obtain ⟨y0,hy0⟩: ∃y,vs[0]? =some y:=⟨vs[0]'(List.length_pos_iff.2 h0),List.getElem?_eq_getElem (List.length_pos_iff.2 h0)⟩
 obtain ⟨arr,e,fr,he,_⟩:=hc 0 y0 hy0
 refine ⟨arr,e,fr,he,?_,fun i y hy=> ?_⟩
 ·have hl:vs.length-1<vs.length:=by have:=List.length_pos_iff.2 h0;omega
  obtain ⟨arr',e',fr',he',hy'⟩:=hc (vs.length-1) _ (List.getElem?_eq_getElem hl)
  rw [he] at he';cases he'
  have:=(Array.getElem?_eq_some_iff.1 hy').1
  omega
 ·obtain ⟨arr',e',fr',he',hy'⟩:=hc i y hy
  rw [he] at he';cases he'
  exact hy'
theorem Tryz.zaQ {w:World} {X o:Nat} {ρ:Val} {j:J} {K:Nat→Prop} {g:Gho} {row:List AV} {vals:List Value} (h:w.rangeAt X o vals) (h0:vals≠ []) (hr:RL ρ j row vals) (hK: ¬K X):ShOk ρ j (cxOf w K g) (X,o) (.ro row):=by
 obtain ⟨arr,e,fr,h1,h2,h3⟩:=zqg h h0
 exact ⟨hK,vals,arr,e,fr,h1,hr,by rw [←RL.length hr];exact h2,h3⟩
structure Tryz.CkO (E C:Nat) (w0:World) (e s:Int) (a:Act) (w:World):Prop where
 size:a.tmps.size=53
 s2:a.tmps.getD 2 undef= .pointer (some ⟨E,0,none⟩)
 dfr: ∃d,a.defers= [d]∧ ∃args cap,d.target= .fn (.func 118) cap∧d.args=args∧(args++cap).toList= [.pointer (some ⟨E,0,none⟩),.pointer (some ⟨C,0,none⟩)]
 mv:Dw.Mv (fun b=>b=E∨b=C) w0 w
 oE:Own w E [.int .i64 e]
 oC:Own w C [.int .u64 s]
theorem Tryz.zaE {ρ:Val} {lc:Nat→Dw.Loc} {L:List Value} {vs:List AV} (h:Ending.returned (.tuple L.toArray)= .returned ((AV.tup vs).val ρ lc)):L=AV.valL ρ lc vs:=by
 injection h with h
 unfold AV.val at h
 injection h with h
 simpa using congrArg Array.toList h
theorem Tryz.zFD {l:List Sg} {sa:Option Addr} {c E C:Nat} {w0:World} {k:Nat} {a:Act} {w:World} (h:CkI l sa c E C w0 k a w) (hl:l.length≤64) (hok: ∀x∈l,x.ok) (hne:E≠C) (hE:E<w0.heap.size) (hC:C<w0.heap.size)
    (hr:l= []∨ ∃R o,sa=some ⟨R,o,none⟩∧R≠E∧R≠C∧w0.rangeAt R o (zaP l)):
    (zaI prog [0,0,1,0,1,1,1,1,88]).wp prog (fun ex a' w'=>match ex with
      | .normal=>k<l.length∧CkI l sa c E C w0 (k+1) a' w'
      | ex=>(ex= .ret∧za7 false 0 l=2∧ ∃s,CkO E C w0 2 s a' w')∨(ex= .exit 0∧ ∃s,0≤s∧s<18446744073709551616∧za7 false 0 l=(if 4294967296≤s then 2 else 0)∧CkO E C w0 0 s a' w')) a w:=by
  obtain ⟨kl,size,s0,s2,s3,s10,s11,s12,dfr,mv,pw,s,oE,oC,hs0,hs1,hsw,hp0,hp1⟩:=h
  have hEw:E<w.heap.size:=zeN oE
  have hCw:C<w.heap.size:=zeN oC
  have hK: ∀b,(b=E∨b=C)→b<w.heap.size:=fun b hb=>by rcases hb with rfl|rfl<;>assumption
  by_cases hkl:k<l.length
  · rcases hr with h0|⟨R,o,rfl,hRE,hRC,hr⟩
    · rw [h0] at hkl;simp at hkl
    have hRw0:=zci hr (by intro h0;rw [h0] at hkl;simp at hkl)
    have hrw:w.rangeAt R o (zaP l):=zaJ hr (mv.block R hRw0 (by rintro (e|e)<;>contradiction))
    have hx:=zbZ hrw k hkl
    have hxo:=hok l[k] (List.getElem_mem hkl)
    rw [List.drop_eq_getElem_cons hkl] at hsw
    have hKR: ¬(R=E∨R=C):=by rintro (e|e)<;>contradiction
    generalize hX:l[k]=X at hx hxo hsw
    obtain ⟨xa0,xa1,xl0,xl1⟩:=hxo
    rw [za7] at hsw
    have fin: ∀ {a':Act} {w':World} {ρ:Val} {j:J},a'.tmps.size=53→DRo ρ j (some ckD) a'.defers→j 1=some ⟨E,0,0,none⟩→j 2=some ⟨C,0,0,none⟩→Dw.Mv (fun b=>b=E∨b=C) w w'→
        Own w' E [.int .i64 0]→Own w' C [.int .u64 (s+X.len)]→
        ([0,2,3,10,11,12].map fun t=>a'.tmps.getD t undef)= [.slice (some ⟨R,o,none⟩) l.length c,.pointer (some ⟨E,0,none⟩),.pointer (some ⟨C,0,none⟩),.slice (some ⟨R,o,none⟩) l.length c,.int .i64 l.length,.int .i64 (k+1)]→
        za7 X.wr (s+X.len) (l.drop (k+1))=za7 false 0 l→k<l.length∧CkI l (some ⟨R,o,none⟩) c E C w0 (k+1) a' w':=fun {a' w' ρ j} q1 q2 q3 q4 q5 q6 q7 q8 q9=>by
      simp only [List.map_cons,List.map_nil,List.cons.injEq,and_true] at q8
      obtain ⟨t0,t2,t3,t10,t11,t12⟩:=q8
      refine ⟨hkl,⟨by omega,q1,t0,t2,t3,t10,t11,by rw [t12];norm_cast,zii q2 q3 q4,mv.trans q5,X.wr,s+X.len,q6,q7,by omega,by push_cast;omega,q9,by omega,fun i hi=> ?_⟩⟩
      have:k=i:=by omega
      subst this
      exact ⟨hkl,by rw [hX]⟩
    have hden: ∀(n k' s':Int) (x y:Sg) (sl:Value),n=l.length→0≤k'→k'<64→0≤s'→s'<18446744073709551616→x.ok→(lnv 0).den (zbT n k' s' x y sl)=l.length∧(lnv 1).den (zbT n k' s' x y sl)=k'∧(u64v 2).den (zbT n k' s' x y sl)=s'∧(u64v 3).den (zbT n k' s' x y sl)=x.at1∧(u32v 4).den (zbT n k' s' x y sl)=x.len:=fun n k' s' x y sl h1 h2 h3 h4 h5 h6=>by
      subst h1
      exact ⟨zaR (by show (0:Int)≤l.length;omega) (by show ((l.length:Nat):Int)<_;omega),zaR h2 (by show k'<_;omega),zaH h4 h5,zaH h6.1 h6.2.1,zbL h6.2.2.1 h6.2.2.2⟩
    have hXok:X.ok:=⟨xa0,xa1,xl0,xl1⟩
    have hwl:IntKind.wrap .u64 (X.len-1)=(X.len-1)%18446744073709551616:=zeB _
    have hwa:IntKind.wrap .u64 (18446744073709551615-X.at1)=18446744073709551615-X.at1:=zaL (by omega) (by omega)
    have hws:IntKind.wrap .u64 (s+X.len)=s+X.len:=zaL (by omega) (by omega)
    rcases Nat.eq_zero_or_pos k with hk0|hk0
    · subst hk0
      have hpw:=hp0 rfl
      subst hpw
      obtain ⟨d0,d1,d2,d3,d4⟩:=hden l.length 0 s X X (.slice (some ⟨R,o,none⟩) l.length c) rfl (by omega) (by omega) hs0 (by omega) hXok
      have hj1:jOf [(E,0),(C,0),(R,o)] 1=some ⟨E,0,0,none⟩:=rfl
      have hj2:jOf [(E,0),(C,0),(R,o)] 2=some ⟨C,0,0,none⟩:=rfl
      have hj3:jOf [(E,0),(C,0),(R,o)] 3=some ⟨R,o,0,none⟩:=rfl
      have hsx:Dw.R (zbT l.length 0 s X X (.slice (some ⟨R,o,none⟩) l.length c)) (jOf [(E,0),(C,0),(R,o)]) (ckL [(.lit 0,3)]) (.slice (some ⟨R,o,none⟩) l.length c):=⟨rfl,_,_,_,rfl,d0.symm,⟨R,o,_,0,rfl,hj3,rfl,rfl,hkl,rfl⟩,trivial⟩
      refine wp_mono (zax (ρ:=zbT l.length 0 s X X (.slice (some ⟨R,o,none⟩) l.length c)) (K:=fun b=>b=E∨b=C) (g:=Gho.none) (bl:= [(E,0),(C,0),(R,o)]) mixed zFB zJN hK
        ⟨zbc oE (zab (zac rfl) RL.nil) (.inl rfl),zbc oC (zab (zac d2) RL.nil) (.inr rfl),zaQ hx (by unfold Sg.cells;simp) (zab (zac d3) (zab (zac d4) (zab (zaO rfl) RL.nil))) hKR,trivial⟩
        ⟨fun _ i b' s' h1 h2 h3=>(by match i,h1,h2 with|0,h1,_=>cases h1;exact hne|1,_,h2=>cases h2;cases h3|i+2,h1,_=>cases h1),fun _ i b' s' h1 h2 h3=>(by match i,h1,h2 with|0,_,h2=>cases h2;cases h3|i+1,h1,_=>cases h1),fun h=>(by cases h),trivial⟩
        zaB trivial trivial trivial size (ck_dfr' hj1 hj2 dfr) ?_ (zad.2 trivial)) fun ex a' w' hh=> ?_
      · intro t ht
        simp only [zfH,zhI,List.mem_cons,List.not_mem_nil,or_false] at ht
        rcases ht with rfl|rfl|rfl|rfl|rfl|rfl
        · rw [s0];exact hsx
        · rw [s2];exact zaY hj1
        · rw [s3];exact zaY hj2
        · rw [s10];exact hsx
        · rw [s11];exact zac d0
        · rw [s12];exact zac rfl
      · obtain ⟨q,hq,hto,lf,hlf,rfl,hsz,j,hdf,he⟩:=hh
        have hj1':=he.sub _ _ hj1
        have hj2':=he.sub _ _ hj2
        unfold zCG at hq
        simp only [List.mem_cons,List.not_mem_nil,or_false] at hq
        rcases hq with rfl|rfl|rfl|rfl
        all_goals
          simp only [zaa,zad,zbV,zaX,zaM,zaW,zaf,d0,d1,d2,d3,d4,hwl,hwa,decide_eq_true_eq,decide_eq_false_iff_not,and_true] at hto
          cases hlf
        · exact .inl ⟨rfl,by rw [←hsw,if_pos (by omega)],_,hsz,by have:=zaE he.ret;simpa [AV.valL,AV.val,zag hj1'] using this,zii hdf hj1' hj2',mv.trans he.mv,(he.rows.1 _ hj1').2 (.inr (.inl rfl)) rfl,(he.rows.2.1 _ hj2').2 (.inr (.inr rfl)) rfl⟩
        · exact .inl ⟨rfl,by rw [←hsw,if_pos (by omega)],_,hsz,by have:=zaE he.ret;simpa [AV.valL,AV.val,zag hj1'] using this,zii hdf hj1' hj2',mv.trans he.mv,(he.rows.1 _ hj1').2 (.inr (.inl rfl)) rfl,(he.rows.2.1 _ hj2').2 (.inr (.inr rfl)) rfl⟩
        · refine fin hsz hdf hj1' hj2' he.mv ((he.rows.1 _ hj1').2 (.inr (.inl rfl)) rfl) ?_ ?_ ?_
          · have:=(he.rows.2.1 _ hj2').2 (.inr (.inr rfl)) rfl
            simpa only [AV.valL,AV.val,den_add,d2,d4,hws] using this
          · have:=zaE he.ret
            rw [this]
            simp only [AV.valL,AV.val,zag hj1',zag hj2',d0,zaf]
            rfl
          · rw [←hsw,if_neg (by rintro (h|h|⟨h,_⟩);omega;omega;cases h)]
        · omega
    · obtain ⟨i,rfl⟩: ∃i,k=i+1:=⟨k-1,by omega⟩
      obtain ⟨hil,hpw⟩:=hp1 i rfl
      have hy:=zbZ hrw i hil
      have hyo:=hok l[i] (List.getElem_mem hil)
      generalize hY:l[i]=Y at hy hyo hpw
      subst hpw
      have hkk:IntKind.wrap .i64 (((i+1:Nat):Int)+1)=((i+1:Nat):Int)+1:=zdt (by omega) (by omega)
      have hk1:IntKind.wrap .i64 (((i+1:Nat):Int)-1)=(i:Int):=by rw [zdt (by omega) (by omega)];omega
      obtain ⟨d0,d1,d2,d3,d4⟩:=hden l.length (i+1:Nat) s X Y (.slice (some ⟨R,o,none⟩) l.length c) rfl (by omega) (by omega) hs0 (by omega) hXok
      have hj1:jOf [(E,0),(C,0),(R,o+3*(i+1)),(R,o+3*i)] 1=some ⟨E,0,0,none⟩:=rfl
      have hj2:jOf [(E,0),(C,0),(R,o+3*(i+1)),(R,o+3*i)] 2=some ⟨C,0,0,none⟩:=rfl
      have hj3:jOf [(E,0),(C,0),(R,o+3*(i+1)),(R,o+3*i)] 3=some ⟨R,o+3*(i+1),0,none⟩:=rfl
      have hj4:jOf [(E,0),(C,0),(R,o+3*(i+1)),(R,o+3*i)] 4=some ⟨R,o+3*i,0,none⟩:=rfl
      have hsx:Dw.R (zbT l.length (i+1:Nat) s X Y (.slice (some ⟨R,o,none⟩) l.length c)) (jOf [(E,0),(C,0),(R,o+3*(i+1)),(R,o+3*i)]) (ckL [(lnv 1,3),(.bin .sub .i64 (lnv 1) (.lit 1),4)]) (.slice (some ⟨R,o,none⟩) l.length c):=⟨rfl,_,_,_,rfl,d0.symm,⟨R,o,_,i+1,rfl,hj3,rfl,d1,hkl,rfl⟩,⟨R,o,_,i,rfl,hj4,rfl,by rw [zaW,d1,zaf];exact hk1,hil,rfl⟩,trivial⟩
      refine wp_mono (zax (ρ:=zbT l.length (i+1:Nat) s X Y (.slice (some ⟨R,o,none⟩) l.length c)) (K:=fun b=>b=E∨b=C) (g:=Gho.none) (bl:= [(E,0),(C,0),(R,o+3*(i+1)),(R,o+3*i)]) mixed zFz zJM hK
        ⟨zbc oE (zab (zac rfl) RL.nil) (.inl rfl),zbc oC (zab (zac d2) RL.nil) (.inr rfl),zaQ hx (by unfold Sg.cells;simp) (zab (zac d3) (zab (zac d4) (zab (zaO rfl) RL.nil))) hKR,zaQ hy (by unfold Sg.cells;simp) (zab (zac (zaH hyo.1 hyo.2.1)) (zab (zac (zbL hyo.2.2.1 hyo.2.2.2)) (zab (zaO rfl) RL.nil))) hKR,trivial⟩
        ⟨fun _ i b' s' h1 h2 h3=>(by match i,h1,h2 with|0,h1,_=>cases h1;exact hne|1,_,h2=>cases h2;cases h3|2,_,h2=>cases h2;cases h3|i+3,h1,_=>cases h1),fun _ i b' s' h1 h2 h3=>(by match i,h1,h2 with|0,_,h2=>cases h2;cases h3|1,_,h2=>cases h2;cases h3|i+2,h1,_=>cases h1),fun h=>(by cases h),fun h=>(by cases h),trivial⟩
        zaB trivial trivial trivial size (ck_dfr' hj1 hj2 dfr) ?_ (zaa.2 ⟨by rw [zaX,d0,d1];simp only [decide_eq_true_eq];omega,zaa.2 ⟨by rw [zbV,d1,zaf];simp only [decide_eq_true_eq];omega,zad.2 trivial⟩⟩)) fun ex a' w' hh=> ?_
      · intro t ht
        simp only [zfG,zhI,List.mem_cons,List.not_mem_nil,or_false] at ht
        rcases ht with rfl|rfl|rfl|rfl|rfl|rfl
        · rw [s0];exact hsx
        · rw [s2];exact zaY hj1
        · rw [s3];exact zaY hj2
        · rw [s10];exact hsx
        · rw [s11];exact zac d0
        · rw [s12];exact zac d1
      · obtain ⟨q,hq,hto,lf,hlf,rfl,hsz,j,hdf,he⟩:=hh
        have hj1':=he.sub _ _ hj1
        have hj2':=he.sub _ _ hj2
        unfold zCE at hq
        simp only [List.mem_cons,List.not_mem_nil,or_false] at hq
        rcases hq with rfl|rfl|rfl|rfl|rfl
        all_goals
          simp only [zaa,zad,zbV,zaX,zaM,zaW,zaf,d0,d1,d2,d3,d4,hwl,hwa,decide_eq_true_eq,decide_eq_false_iff_not,and_true] at hto
          cases hlf
        · exact .inl ⟨rfl,by rw [←hsw,if_pos (by omega)],_,hsz,by have:=zaE he.ret;simpa [AV.valL,AV.val,zag hj1'] using this,zii hdf hj1' hj2',mv.trans he.mv,(he.rows.1 _ hj1').2 (.inr (.inl rfl)) rfl,(he.rows.2.1 _ hj2').2 (.inr (.inr rfl)) rfl⟩
        · exact .inl ⟨rfl,by rw [←hsw,if_pos (by omega)],_,hsz,by have:=zaE he.ret;simpa [AV.valL,AV.val,zag hj1'] using this,zii hdf hj1' hj2',mv.trans he.mv,(he.rows.1 _ hj1').2 (.inr (.inl rfl)) rfl,(he.rows.2.1 _ hj2').2 (.inr (.inr rfl)) rfl⟩
        · exact .inl ⟨rfl,by rw [←hsw,if_pos (.inr (.inr ⟨hto.2.2.1,hto.2.2.2⟩))],_,hsz,by have:=zaE he.ret;simpa [AV.valL,AV.val,zag hj1'] using this,zii hdf hj1' hj2',mv.trans he.mv,(he.rows.1 _ hj1').2 (.inr (.inl rfl)) rfl,(he.rows.2.1 _ hj2').2 (.inr (.inr rfl)) rfl⟩
        · refine fin hsz hdf hj1' hj2' he.mv ((he.rows.1 _ hj1').2 (.inr (.inl rfl)) rfl) ?_ ?_ ?_
          · have:=(he.rows.2.1 _ hj2').2 (.inr (.inr rfl)) rfl
            simpa only [AV.valL,AV.val,den_add,d2,d4,hws] using this
          · have:=zaE he.ret
            rw [this]
            simp only [AV.valL,AV.val,zag hj1',zag hj2',d0,d1,den_add,zaf,hkk]
            rfl
          · rw [←hsw,if_neg (by rintro (h|h|⟨h,h'⟩);omega;omega;exact absurd (h'.symm.trans hto.2.2.2) (by decide))]
        · refine fin hsz hdf hj1' hj2' he.mv ((he.rows.1 _ hj1').2 (.inr (.inl rfl)) rfl) ?_ ?_ ?_
          · have:=(he.rows.2.1 _ hj2').2 (.inr (.inr rfl)) rfl
            simpa only [AV.valL,AV.val,den_add,d2,d4,hws] using this
          · have:=zaE he.ret
            rw [this]
            simp only [AV.valL,AV.val,zag hj1',zag hj2',d0,d1,den_add,zaf,hkk]
            rfl
          · rw [←hsw,if_neg (by rintro (h|h|⟨h,h'⟩);omega;omega;exact absurd (h.symm.trans hto.2.2) (by decide))]
  · have hkk:k=l.length:=by omega
    subst hkk
    rw [List.drop_length,za7] at hsw
    have d0:(lnv 0).den (zbT l.length l.length s ⟨0,0,false⟩ ⟨0,0,false⟩ (.slice sa l.length c))=l.length:=zaR (by show (0:Int)≤l.length;omega) (by show ((l.length:Nat):Int)<_;omega)
    have d1:(lnv 1).den (zbT l.length l.length s ⟨0,0,false⟩ ⟨0,0,false⟩ (.slice sa l.length c))=l.length:=zaR (by show (0:Int)≤l.length;omega) (by show ((l.length:Nat):Int)<_;omega)
    have d2:(u64v 2).den (zbT l.length l.length s ⟨0,0,false⟩ ⟨0,0,false⟩ (.slice sa l.length c))=s:=zaH hs0 (by show s<_;omega)
    have hj1:jOf [(E,0),(C,0)] 1=some ⟨E,0,0,none⟩:=rfl
    have hj2:jOf [(E,0),(C,0)] 2=some ⟨C,0,0,none⟩:=rfl
    have hsx:Dw.R (zbT l.length l.length s ⟨0,0,false⟩ ⟨0,0,false⟩ (.slice sa l.length c)) (jOf [(E,0),(C,0)]) (ckL []) (.slice sa l.length c):=⟨rfl,_,_,_,rfl,d0.symm,trivial⟩
    refine wp_mono (zax (ρ:=zbT l.length l.length s ⟨0,0,false⟩ ⟨0,0,false⟩ (.slice sa l.length c)) (K:=fun b=>b=E∨b=C) (g:=Gho.none) (bl:= [(E,0),(C,0)]) mixed zFx zJL hK
      ⟨zbc oE (zab (zac rfl) RL.nil) (.inl rfl),zbc oC (zab (zac d2) RL.nil) (.inr rfl),trivial⟩
      ⟨fun _ i b' s' h1 h2 h3=>(by match i,h1,h2 with|0,h1,_=>cases h1;exact hne|i+1,h1,_=>cases h1),fun _ i b' s' h1 h2 h3=>(by cases h1),trivial⟩
      zaB trivial trivial trivial size (ck_dfr' hj1 hj2 dfr) ?_ (zaa.2 ⟨by rw [zaX,d0,d1];simp,zad.2 trivial⟩)) fun ex a' w' hh=> ?_
    · intro t ht
      simp only [zfF,zhI,List.mem_cons,List.not_mem_nil,or_false] at ht
      rcases ht with rfl|rfl|rfl|rfl|rfl|rfl
      · rw [s0];exact hsx
      · rw [s2];exact zaY hj1
      · rw [s3];exact zaY hj2
      · rw [s10];exact hsx
      · rw [s11];exact zac d0
      · rw [s12];exact zac d1
    · obtain ⟨q,hq,hto,lf,hlf,rfl,hsz,j,hdf,he⟩:=hh
      have hj1':=he.sub _ _ hj1
      have hj2':=he.sub _ _ hj2
      unfold zCC at hq
      simp only [List.mem_cons,List.not_mem_nil,or_false] at hq
      subst hq
      cases hlf
      refine .inr ⟨rfl,s,hs0,by omega,hsw.symm,hsz,by have:=zaE he.ret;simpa [AV.valL,AV.val,zag hj1'] using this,zii hdf hj1' hj2',mv.trans he.mv,(he.rows.1 _ hj1').2 (.inr (.inl rfl)) rfl,?_⟩
      have:=(he.rows.2.1 _ hj2').2 (.inr (.inr rfl)) rfl
      simpa only [AV.valL,AV.val,d2] using this
open Go.Maps Go.Sort
set_option maxRecDepth 100000 in
theorem Tryz.zo6 (E C:Nat) (e sum:Int) (u:FrameMode) (w:World) (hE:w.cell? ⟨E,0,none⟩=some (.int .i64 e)) (fE:w.frozen? ⟨E,0,none⟩=false) (hC:w.cell? ⟨C,0,none⟩=some (.int .u64 sum)):
  CallsD prog 118 #[.pointer (some ⟨E,0,none⟩),.pointer (some ⟨C,0,none⟩)] u w fun ed u' w'=>u'=u∧ed= .returned (.tuple #[])∧w'=if e=0∧4294967296≤sum then w.setCell ⟨E,0,none⟩ (.int .i64 2) else w:=by
 refine callsD_of_wp func118 rfl ?_
 simp only [ntmps118,List.size_toArray,List.length_cons,List.length_nil,Nat.reduceAdd,Nat.reduceSub,Array.replicate_succ,Array.replicate_zero,List.push_toArray,List.append_toArray,List.nil_append,List.cons_append]
 by_cases h0:e=0
 ·subst h0
  by_cases h1:4294967296≤sum
  ·rw [if_pos ⟨rfl,h1⟩]
   go_wp2
   go_end0
   exact ⟨rfl,rfl⟩
  ·rw [if_neg (fun h=>h1 h.2)]
   go_wp2
   go_end0
   exact ⟨rfl,rfl⟩
 ·rw [if_neg (fun h=>h0 h.1)]
  go_wp2
  go_end0
  exact ⟨rfl,rfl⟩
theorem Tryz.zvB {w:World} {b:Nat} {v:Value} (h:Own w b [v]):w.cell? ⟨b,0,none⟩=some v∧w.frozen? ⟨b,0,none⟩=false:=by
 obtain ⟨arr,e,h1,h2⟩:=h
 exact ⟨by simp [World.cell?,h1,h2 0 v rfl],by simp [World.frozen?,h1]⟩
theorem Tryz.zAN (w:World) (cs:List Value) (t:TypeId):Own (w.alloc (.cells cs.toArray t)) w.heap.size cs:=⟨cs.toArray,t,by unfold World.alloc;exact Array.getElem?_push_size,fun i y h=>by rw [List.getElem?_toArray];exact h⟩
set_option maxRecDepth 100000 in
theorem Tryz.zpV {A:Nat→Prop} {w:World} {v:Value} {l:List Sg} (h:SegV A w v l):
  Calls prog 88 #[v] w fun e w'=>e= .returned (.int .i64 (zaZ l))∧Below w.heap.size w w':=by
 obtain ⟨sa,c,rfl,hok,hr⟩:=h
 unfold zaZ
 by_cases hlen:64<l.length
 ·rw [if_pos hlen]
  have hb0:=(Below.refl w.heap.size w).alloc (Nat.le_refl _) (.cells #[.int .i64 3] 38)
  go_enter_defers func88,ntmps88
  go_wp2
  have hE:(w.alloc (.cells #[.int .i64 3] 38)).cell? ⟨w.heap.size,0,none⟩=some (.int .i64 3):=by simp
  simp only [bodyPostD,Leaves]
  refine ⟨.int .i64 3,?_,rfl,hb0⟩
  simp [results,results88,go_sem,hE]
 ·rw [if_neg hlen]
  go_enter_defers func88,ntmps88
  go_wp2
  have o1:=zAN w [.int .i64 0] 38
  have o2:=zAN (w.alloc (.cells #[.int .i64 0] 38)) [.int .u64 0] 30
  have hs1:(w.alloc (.cells #[.int .i64 0] 38)).heap.size=w.heap.size+1:=World.size_alloc _ _
  rw [hs1] at o2
  have o1':Own ((w.alloc (.cells #[.int .i64 0] 38)).alloc (.cells #[.int .u64 0] 30)) w.heap.size [.int .i64 0]:=o1.kept (Below.heap_alloc _ _ _ (by rw [hs1];omega))
  have hbb:=((Below.refl w.heap.size w).alloc (Nat.le_refl _) (.cells #[.int .i64 0] 38)).alloc (by rw [hs1];omega) (.cells #[.int .u64 0] 30)
  have hsz:((w.alloc (.cells #[.int .i64 0] 38)).alloc (.cells #[.int .u64 0] 30)).heap.size=w.heap.size+2:=by rw [World.size_alloc,hs1]
  have hr':l= []∨ ∃R o,sa=some ⟨R,o,none⟩∧R≠w.heap.size∧R≠w.heap.size+1∧((w.alloc (.cells #[.int .i64 0] 38)).alloc (.cells #[.int .u64 0] 30)).rangeAt R o (zaP l):=by
   rcases hr with h0|⟨R,o,e,_,hr⟩
   ·exact .inl h0
   ·by_cases h0:l= []
    ·exact .inl h0
    ·have hR:=zci hr h0
     exact .inr ⟨R,o,e,by omega,by omega,zaJ hr (hbb.block R hR)⟩
  generalize (w.alloc (.cells #[.int .i64 0] 38)).alloc (.cells #[.int .u64 0] 30)=W at*
  refine zbH (c':= .loop (zaI prog [0,0,1,0,1,1,1,1,88])) (by kernel_rfl) ?_
  refine zbl (fun k a w'=>CkI l sa c w.heap.size (w.heap.size+1) W k a w') (fun k=>l.length-k) (fun k a w' hI=>wp_mono (zFD hI (by omega) hok (by omega) (by omega) (by omega) hr') fun ex a' w2 hh=> ?_) 0 _ _ ?_
  ·have leave: ∀ {e s:Int} {a':Act} {w2:World},CkO w.heap.size (w.heap.size+1) W e s a' w2→za7 false 0 l=(if e=0∧4294967296≤s then 2 else e)→
     bodyPostD prog f88 (fun e w'=>e=Ending.returned (Value.int IntKind.i64 (za7 false 0 l))∧RowKit.Below w.heap.size w w') .ret a' w2:=fun {e s a' w2} ho hV=>by
    obtain ⟨d,hd,args,cap,e1,e2,e3⟩:=ho.dfr
    have hm2:RowKit.Below w.heap.size w w2:=⟨ho.mv.os.trans hbb.os,ho.mv.tape.trans hbb.tape,ho.mv.output.trans hbb.output,Nat.le_trans hbb.size ho.mv.size,fun k hk=>(ho.mv.block k (by omega) (by omega)).trans (hbb.block k hk)⟩
    obtain ⟨cE,fE⟩:=zvB ho.oE
    obtain ⟨cC,fC⟩:=zvB ho.oC
    simp only [bodyPostD,hd,Leaves]
    have e3:args++cap= #[.pointer (some ⟨w.heap.size,0,none⟩),.pointer (some ⟨w.heap.size+1,0,none⟩)]:=by rw [←Array.toList_inj];exact e3
    refine ⟨by simp,.func 118,cap,118,#[.pointer (some ⟨w.heap.size,0,none⟩),.pointer (some ⟨w.heap.size+1,0,none⟩)],e1,by rw [e1,e2,←e3];simp [go_sem],?_⟩
    refine (zo6 w.heap.size (w.heap.size+1) e s .returning w2 cE fE cC).mono ?_
    rintro ed u' w9 ⟨rfl,rfl,rfl⟩
    simp only [Leaves,settle]
    have hp:a'.tmps.getD 2 undef= .pointer (some ⟨w.heap.size,0,none⟩):=ho.s2
    by_cases h0:e=0∧4294967296≤s
    ·rw [if_pos h0] at hV ⊢
     have dE2:(w2.setCell ⟨w.heap.size,0,none⟩ (.int .i64 2)).cell? ⟨w.heap.size,0,none⟩=some (.int .i64 2):=World.cell?_setCell_same' _ _ _ (by rw [cE];rfl)
     refine ⟨.int .i64 2,?_,by rw [hV],hm2.setCell (p:=⟨w.heap.size,0,none⟩) (Nat.le_refl _) _⟩
     have hp':a'.tmps[2]?.getD undef= .pointer (some ⟨w.heap.size,0,none⟩):=by simpa using hp
     simp [results,results88,go_sem,hp',dE2]
    ·rw [if_neg h0] at hV ⊢
     refine ⟨.int .i64 e,?_,by rw [hV],hm2⟩
     have hp':a'.tmps[2]?.getD undef= .pointer (some ⟨w.heap.size,0,none⟩):=by simpa using hp
     simp [results,results88,go_sem,hp',cE]
   cases ex with
   | normal=>exact ⟨k+1,by omega,hh.2⟩
   | ret=>
    rcases hh with ⟨_,hV,s,ho⟩|⟨h,_⟩
    ·exact leave ho (by rw [hV];simp)
    ·cases h
   | exit i=>
    rcases hh with ⟨h,_⟩|⟨h,s,hq0,hq1,hV,ho⟩
    ·cases h
    ·cases h
     simp only [Exit.inBlock,Exit.then,if_pos]
     rename_i K hK
     refine hK _ _ (zbH (c':=zaI prog [1,1,1,1,1,88]) (by kernel_rfl) ?_)
     have hj1:jOf [(w.heap.size,0),(w.heap.size+1,0)] 1=some ⟨w.heap.size,0,0,none⟩:=rfl
     have hj2:jOf [(w.heap.size,0),(w.heap.size+1,0)] 2=some ⟨w.heap.size+1,0,0,none⟩:=rfl
     have d2:(u64v 2).den (zbT 0 0 s ⟨0,0,false⟩ ⟨0,0,false⟩ undef)=s:=zaH hq0 hq1
     refine wp_mono (zax (ρ:=zbT 0 0 s ⟨0,0,false⟩ ⟨0,0,false⟩ undef) (K:=fun b=>b=w.heap.size∨b=w.heap.size+1) (g:=Gho.none) (bl:= [(w.heap.size,0),(w.heap.size+1,0)]) mixed zJJ zLd (fun b hb=>by rcases hb with rfl|rfl;exact zeN ho.oE;exact zeN ho.oC)
      ⟨zbc ho.oE (zab (zac rfl) RL.nil) (.inl rfl),zbc ho.oC (zab (zac d2) RL.nil) (.inr rfl),trivial⟩
      ⟨fun _ i b' s' h1 h2 h3=>(by match i,h1,h2 with|0,h1,_=>cases h1;show w.heap.size≠w.heap.size+1;omega|i+1,h1,_=>cases h1),fun _ i b' s' h1 h2 h3=>(by cases h1),trivial⟩
      zaB trivial trivial trivial ho.size (ck_dfr' hj1 hj2 ho.dfr) ?_ (zad.2 trivial)) fun ex a3 w3 hh=> ?_
     ·intro t ht
      simp only [zhc,List.mem_cons,List.not_mem_nil,or_false] at ht
      subst ht
      rw [ho.s2];exact zaY hj1
     ·obtain ⟨q,hq,hto,lf,hlf,rfl,hsz3,j,hdf,he⟩:=hh
      have hj1':=he.sub _ _ hj1
      have hj2':=he.sub _ _ hj2
      unfold zGO at hq
      simp only [List.mem_cons,List.not_mem_nil,or_false] at hq
      subst hq
      cases hlf
      have oC:=(he.rows.2.1 _ hj2').2 (.inr (.inr rfl)) rfl
      simp only [AV.valL,AV.val,d2] at oC
      refine leave (e:=0) ⟨hsz3,by have:=zaE he.ret;simpa [AV.valL,AV.val,zag hj1'] using this,zii hdf hj1' hj2',ho.mv.trans he.mv,(he.rows.1 _ hj1').2 (.inr (.inl rfl)) rfl,oC⟩ (by rw [hV];simp)
   | _=>rcases hh with ⟨h,_⟩|⟨h,_⟩<;>cases h
  ·exact ⟨Nat.zero_le _,rfl,rfl,rfl,rfl,rfl,rfl,rfl,⟨_,rfl,_,_,rfl,rfl,rfl⟩,Dw.Mv.refl _ _,false,0,o1',o2,Int.le_refl _,by simp,rfl,fun _=>rfl,fun i hi=>by omega⟩
end Go.Proofs
namespace Go.Proofs
open Go.Dw Go.RowKit
def Tryz.sl1 (l:List (SE×Nat)):AV:= .sx 1 (lnv 0) 3 l
def Tryz.ckE:Ent:=⟨88,[sl1 []],0,0,0,.int .i64 (.var 7),0⟩
def Tryz.rd0E:Ent:=⟨71,[.cst 0 none,.int .u64 (.lit 0),.int .i64 (.lit 0)],0,0,0,.tup [.nils,.int .i64 (.lit 0)],0⟩
def Tryz.hasE:Ent:=⟨167,[.cst 0 none,.int .u64 (u64v 3),.int .u64 (u32v 4)],0,0,0,.bool (.var 2),0⟩
def Tryz.zdP:LEnt:=⟨[0,1,0,1,1,1,163],38,0,[(0,.cst 0 none),(23,sl1 []),(24,.int .i64 (lnv 0)),(25,.int .i64 (.lit 0))],[],[],0,0,[⟨.var 2,.exit 0,[],0⟩,⟨.lit true,.ret,[(4,.int .i64 (.lit 5))],0⟩]⟩
def Tryz.zeG:LEnt:=⟨[0,1,0,1,1,60],30,0,[(2,.int .u64 (.lit 0)),(3,.int .u64 (.lit 0)),(9,sl1 []),(10,.int .i64 (lnv 0)),(11,.int .i64 (.lit 0))],[],[],0,0,[⟨.lit true,.exit 0,[(2,.int .u64 (u64v 5)),(3,.int .u64 (u64v 6))],0⟩]⟩
end Go.Proofs
namespace Go.Proofs
open Go.Dw
def Tryz.zuW:List Ent:= [ckE,rd0E]
def Tryz.zzO:List Sh:= []
def Tryz.zuX:List AV:= [.cst 0 none,sl1 []]
def Tryz.zpF:List LEnt:= [zdP]
def Tryz.zpG:List AEnt:= []
def Tryz.zHY:List (SB×Bool):= []
def Tryz.zGn:List Leaf:= [
 ⟨.int .i64 (.var 7),[],[],0,[]⟩,
 ⟨.int .i64 (.lit 0),[],[],0,[]⟩,
 ⟨.int .i64 (.lit 5),[],[],0,[]⟩]
def Tryz.zGm:List (List (SB×Bool)×Nat):= [
 ([((.cmp .neq (.var 7) (.lit 0)),true)],0),
 ([((.cmp .neq (.var 7) (.lit 0)),false),(.var 2,true)],1),
 ([((.cmp .neq (.var 7) (.lit 0)),false),(.var 2,false)],2)]
theorem Tryz.zHX:(evL prog (zau zuW) (zaC zpF) (zaA zpG) 100000 (.call 163 zuX (zar 0 zzO) (zaK zGn 0))).ways zHY=some zGm:=by kernel_rfl
theorem Tryz.zKy:(zah zzO&&zae zuW&&zan zpF&&zao zpG&&AV.smallL zuX&&zaj zGn)=true:=by kernel_rfl
def Tryz.zpE:List Ent:= [hasE]
def Tryz.zuU:List Sh:= [ckEl 3 4 0]
def Tryz.zfc:List (Nat×AV):= [(0,.cst 0 none),(23,sl1 [(lnv 1,1)]),(24,.int .i64 (lnv 0)),(25,.int .i64 (lnv 1))]
def Tryz.zl3:List LEnt:= []
def Tryz.zl4:List AEnt:= []
def Tryz.zuV:Option AV:=none
def Tryz.zDI:List (SB×Bool):= [(.cmp .lss (lnv 1) (lnv 0),true)]
def Tryz.zzN:List zbe:= [
 ⟨.ret,[4],none,⟨.tup [.int .i64 (.lit 5)],[],[],0,[]⟩⟩,
 ⟨.normal,[0,23,24,25],none,⟨.tup [.cst 0 none,.sx 1 ((lnv 0)) 3 [((lnv 1),1)],.int .i64 (lnv 0),.int .i64 (.bin .add .i64 (lnv 1) (.lit 1))],[],[],0,[]⟩⟩]
def Tryz.zzM:List (List (SB×Bool)×Nat):= [
 ([(.var 2,false)],0),
 ([(.var 2,true)],1)]
theorem Tryz.zDH:(evL prog (zau zpE) (zaC zl3) (zaA zl4) 100000 (.code (zaI prog [0,0,1,0,1,1,1,163]) [0,0,1,0,1,1,1,163] 38 (envS 38 zfc zuV) (zar 0 zuU) (zaG zzN 0))).ways zDI=some zzM:=by kernel_rfl
theorem Tryz.zHW:(zah zuU&&zae zpE&&zan zl3&&zao zl4&&zaq zfc&&zal zzN&&zaF 38 zfc&&Nat.ble 38 zaN&&zaz zuV)=true:=by kernel_rfl
def Tryz.zl2:List Ent:= []
def Tryz.zpC:List Sh:= []
def Tryz.zdO:List (Nat×AV):= [(0,.cst 0 none),(23,sl1 []),(24,.int .i64 (lnv 0)),(25,.int .i64 (lnv 1))]
def Tryz.zjy:List LEnt:= []
def Tryz.zjz:List AEnt:= []
def Tryz.zpD:Option AV:=none
def Tryz.zzL:List (SB×Bool):= [(.cmp .lss (lnv 1) (lnv 0),false)]
def Tryz.zuT:List zbe:= [
 ⟨(.exit 0),[],none,⟨.tup [],[],[],0,[]⟩⟩]
def Tryz.zuS:List (List (SB×Bool)×Nat):= [
 ([], 0)]
theorem Tryz.zzK:(evL prog (zau zl2) (zaC zjy) (zaA zjz) 100000 (.code (zaI prog [0,0,1,0,1,1,1,163]) [0,0,1,0,1,1,1,163] 38 (envS 38 zdO zpD) (zar 0 zpC) (zaG zuT 0))).ways zzL=some zuS:=by kernel_rfl
theorem Tryz.zDG:(zah zpC&&zae zl2&&zan zjy&&zao zjz&&zaq zdO&&zal zuT&&zaF 38 zdO&&Nat.ble 38 zaN&&zaz zpD)=true:=by kernel_rfl
def Tryz.zuC:List Ent:= [ckE]
def Tryz.zzh:List Sh:= []
def Tryz.zuD:List AV:= [sl1 []]
def Tryz.zpb:List LEnt:= [zeG]
def Tryz.zpc:List AEnt:= []
def Tryz.zHN:List (SB×Bool):= []
def Tryz.zGg:List Leaf:= [
 ⟨.tup [.int .u64 (.lit 0),.int .u64 (.lit 0)],[],[],0,[]⟩,
 ⟨.tup [.int .u64 (u64v 5),.int .u64 (u64v 6)],[],[],0,[]⟩]
def Tryz.zGf:List (List (SB×Bool)×Nat):= [
 ([((.cmp .neq (.var 7) (.lit 0)),true)],0),
 ([((.cmp .neq (.var 7) (.lit 0)),false)],1)]
theorem Tryz.zHM:(evL prog (zau zuC) (zaC zpb) (zaA zpc) 100000 (.call 60 zuD (zar 0 zzh) (zaK zGg 0))).ways zHN=some zGf:=by kernel_rfl
theorem Tryz.zKt:(zah zzh&&zae zuC&&zan zpb&&zao zpc&&AV.smallL zuD&&zaj zGg)=true:=by kernel_rfl
def Tryz.zpa:List Ent:= []
def Tryz.zuA:List Sh:= [ckEl 3 4 0]
def Tryz.zfa:List (Nat×AV):= [(2,.int .u64 (u64v 5)),(3,.int .u64 (u64v 6)),(9,sl1 [(lnv 1,1)]),(10,.int .i64 (lnv 0)),(11,.int .i64 (lnv 1))]
def Tryz.zlH:List LEnt:= []
def Tryz.zlI:List AEnt:= []
def Tryz.zuB:Option AV:=none
def Tryz.zDt:List (SB×Bool):= [(.cmp .lss (lnv 1) (lnv 0),true)]
def Tryz.zzg:List zbe:= [
 ⟨.normal,[2,3,9,10,11],none,⟨.tup [.int .u64 (u64v 5),.int .u64 (.bin .add .u64 (u64v 6) (u32v 4)),.sx 1 ((lnv 0)) 3 [((lnv 1),1)],.int .i64 (lnv 0),.int .i64 (.bin .add .i64 (lnv 1) (.lit 1))],[],[],0,[]⟩⟩,
 ⟨.normal,[2,3,9,10,11],none,⟨.tup [.int .u64 (.bin .add .u64 (u64v 5) (u32v 4)),.int .u64 (u64v 6),.sx 1 ((lnv 0)) 3 [((lnv 1),1)],.int .i64 (lnv 0),.int .i64 (.bin .add .i64 (lnv 1) (.lit 1))],[],[],0,[]⟩⟩]
def Tryz.zzf:List (List (SB×Bool)×Nat):= [
 ([(.var 0,true)],0),
 ([(.var 0,false)],1)]
theorem Tryz.zDs:(evL prog (zau zpa) (zaC zlH) (zaA zlI) 100000 (.code (zaI prog [0,0,1,0,1,1,60]) [0,0,1,0,1,1,60] 30 (envS 30 zfa zuB) (zar 0 zuA) (zaG zzg 0))).ways zDt=some zzf:=by kernel_rfl
theorem Tryz.zHL:(zah zuA&&zae zpa&&zan zlH&&zao zlI&&zaq zfa&&zal zzg&&zaF 30 zfa&&Nat.ble 30 zaN&&zaz zuB)=true:=by kernel_rfl
def Tryz.zlG:List Ent:= []
def Tryz.zo8:List Sh:= []
def Tryz.zdN:List (Nat×AV):= [(2,.int .u64 (u64v 5)),(3,.int .u64 (u64v 6)),(9,sl1 []),(10,.int .i64 (lnv 0)),(11,.int .i64 (lnv 1))]
def Tryz.zje:List LEnt:= []
def Tryz.zjf:List AEnt:= []
def Tryz.zo9:Option AV:=none
def Tryz.zze:List (SB×Bool):= [(.cmp .lss (lnv 1) (lnv 0),false)]
def Tryz.zuz:List zbe:= [
 ⟨(.exit 0),[2,3],none,⟨.tup [.int .u64 (u64v 5),.int .u64 (u64v 6)],[],[],0,[]⟩⟩]
def Tryz.zuy:List (List (SB×Bool)×Nat):= [
 ([], 0)]
theorem Tryz.zzd:(evL prog (zau zlG) (zaC zje) (zaA zjf) 100000 (.code (zaI prog [0,0,1,0,1,1,60]) [0,0,1,0,1,1,60] 30 (envS 30 zdN zo9) (zar 0 zo8) (zaG zuz 0))).ways zze=some zuy:=by kernel_rfl
theorem Tryz.zDr:(zah zo8&&zae zlG&&zan zje&&zao zjf&&zaq zdN&&zal zuz&&zaF 30 zdN&&Nat.ble 30 zaN&&zaz zo9)=true:=by kernel_rfl
def Tryz.zpd:List Ent:= [ckE]
def Tryz.zuE:List Sh:= []
def Tryz.zpe:List AV:= [sl1 []]
def Tryz.zDw:List (SB×Bool):= [(.cmp .neq (.var 7) (.lit 0),true)]
def Tryz.zzi:List Leaf:= [
 ⟨.tup [.int .u64 (.lit 0),.int .u64 (.lit 0)],[],[],0,[]⟩]
def Tryz.zHO:List (List (SB×Bool)×Nat):= [
 ([], 0)]
theorem Tryz.zDv:(ev prog (zau zpd) 100000 (.call 60 zpe (zar 0 zuE) (zaK zzi 0))).ways zDw=some zHO:=by kernel_rfl
theorem Tryz.zHP:(zah zuE&&zae zpd&&AV.smallL zpe&&zaj zzi)=true:=by kernel_rfl
def Tryz.zpH:List Ent:= [ckE,rd0E]
def Tryz.zuY:List Sh:= []
def Tryz.zpI:List AV:= [.cst 0 none,sl1 []]
def Tryz.zDL:List (SB×Bool):= [(.cmp .neq (.var 7) (.lit 0),true)]
def Tryz.zzP:List Leaf:= [
 ⟨.int .i64 (.var 7),[],[],0,[]⟩]
def Tryz.zHZ:List (List (SB×Bool)×Nat):= [
 ([], 0)]
theorem Tryz.zDK:(ev prog (zau zpH) 100000 (.call 163 zpI (zar 0 zuY) (zaK zzP 0))).ways zDL=some zHZ:=by kernel_rfl
theorem Tryz.zH0:(zah zuY&&zae zpH&&AV.smallL zpI&&zaj zzP)=true:=by kernel_rfl
end Go.Proofs
end
