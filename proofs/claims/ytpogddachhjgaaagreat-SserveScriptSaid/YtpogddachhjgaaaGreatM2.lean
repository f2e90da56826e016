/-
  Proved: laws on the way to 'SserveScriptProof' (texts DwPlan2 DwLit DwPlan3 DwEnd DwOpen DwEnt DwWay DwDen SoA SoB SoC SoD SoF SoG SoH SoI SoJ); no condition.
-/
import Derived.Test.YtpogddachhjgaaaGreatM1
import Derived.RowKit3
import Derived.ChangeSame
import Derived.KernelRfl
import Derived.Maps.AppendAt
set_option linter.unusedSimpArgs false
set_option linter.unusedVariables false
set_option maxHeartbeats 4000000
noncomputable section
namespace Go.Dw
def bY (ops:Array Oper) (i:Nat):Nat:=(lu ops.toList).getD i 0
def fq (ops:Array Oper):List Nat:=qG ops.toList 0
def jX (ops:Array Oper) (i:Nat):Nat:=lS (bY ops i) (fq ops) 0 0
def kG (ops:Array Oper):List PO:=posOf (fq ops) ops.toList (lu ops.toList) 0
def iY (ops:Array Oper):List PO:=(kG ops).filter fun p=>jh p.o
structure PF (ops:Array Oper):Prop where
 yQ:uy ops
 chain: ∀u h h',(fq ops)[u]? =some h→(fq ops)[u+1]? =some h'→(bY ops h').testBit h=true
 reads: ∀(p q:Nat) (o oq:Oper) (t:Tmp),ops[p]? =some o→ops[q]? =some oq→oq.dst=some t→t∈looks ops o→(bY ops p).testBit q=true∨(bY ops q).testBit p=true
 Db: ∀(p q:Nat) (o oq:Oper) (t:Tmp),p≠q→ops[p]? =some o→ops[q]? =some oq→o.dst=some t→oq.dst≠some t
 abl: ∀(p:Nat) (o:Oper),ops[p]? =some o→FQ o=false
 rer: ∀(u h p q:Nat) (o oq:Oper) (t:Tmp),(fq ops)[u]? =some h→ops[p]? =some o→FP o=true→jX ops p≤u→(bY ops h).testBit p=false→
  ops[q]? =some oq→oq.dst=some t→t∈looks ops o→(bY ops p).testBit q=true∨u<jX ops q
theorem Jj: ∀(l:List Oper) (n i:Nat),i∈qG l n↔ ∃k o,i=n+k∧l[k]? =some o∧jh o=true
 | [], n,i=>by simp [qG]
 | o::l,n,i=>by
  unfold qG;split
  ·rename_i h;rw [yac,Jj l (Nat.succ n) i];constructor
   ·rintro (rfl|⟨k,o',h1,h2,h3⟩)
    ·exact ⟨0,o,rfl,rfl,h⟩
    ·exact ⟨k+1,o',by omega,by simpa using h2,h3⟩
   ·rintro ⟨k,o',h1,h2,h3⟩;cases k with
    | zero=>left;simpa using h1
    | succ k=>exact .inr ⟨k,o',by omega,by simpa using h2,h3⟩
  ·rename_i h;rw [Jj l (Nat.succ n) i];constructor
   ·rintro ⟨k,o',h1,h2,h3⟩;exact ⟨k+1,o',by omega,by simpa using h2,h3⟩
   ·rintro ⟨k,o',h1,h2,h3⟩;cases k with
    | zero=>
     simp only [yaw,ybP] at h2;subst h2;rw [h] at h3;cases h3
    | succ k=>exact ⟨k,o',by omega,by simpa using h2,h3⟩
theorem ES: ∀(l:List Oper) (n:Nat),(qG l n).Pairwise (· < ·)
 | [], n=>List.Pairwise.nil
 | o::l,n=>by
  unfold qG;split
  ·refine List.Pairwise.cons (fun i hi=> ?_) (ES l _);obtain ⟨k,_,h,_⟩:=(Jj l _ i).1 hi;omega
  ·exact ES l _
theorem Fh {ops:Array Oper} {i:Nat}:(∃u:Nat,(fq ops)[u]? =some i)↔ ∃o,ops[i]? =some o∧jh o=true:=by
 rw [←yda];unfold fq;rw [Jj];constructor
 ·rintro ⟨k,o,h1,h2,h3⟩;have e:i=k:=by omega
  subst e;exact ⟨o,by simpa using h2,h3⟩
 ·rintro ⟨o,h2,h3⟩;exact ⟨i,o,by omega,by simpa using h2,h3⟩
theorem Rl {ops:Array Oper} {u v x y:Nat} (h1:(fq ops)[u]? =some x) (h2:(fq ops)[v]? =some y) (h:x<y):u<v:=by
 apply ybu;intro hn;obtain ⟨hu,e1⟩:=yay.1 h1;obtain ⟨hv,e2⟩:=yay.1 h2;rcases Nat.lt_or_eq_of_le (Nat.le_of_not_lt hn) with hlt|heq
 ·have:=(ybK.1 (ES ops.toList 0)) v u hv hu hlt;change (fq ops)[v]<(fq ops)[u] at this;omega
 ·subst heq;rw [h1] at h2;cases h2;exact ybW _ h
theorem ztE {ops:Array Oper} {u v x:Nat} (h1:(fq ops)[u]? =some x) (h2:(fq ops)[v]? =some x):u=v:=by
 obtain ⟨hu,e1⟩:=yay.1 h1;obtain ⟨hv,e2⟩:=yay.1 h2;rcases Nat.lt_trichotomy u v with h|h|h
 ·have:=(ybK.1 (ES ops.toList 0)) u v hu hv h;change (fq ops)[u]<(fq ops)[v] at this;omega
 ·exact h
 ·have:=(ybK.1 (ES ops.toList 0)) v u hv hu h;change (fq ops)[v]<(fq ops)[u] at this;omega
theorem Ke {ops:Array Oper} {i x:Nat} (h:ops[i]? =none):(bY ops i).testBit x=false:=by
 unfold bY;rw [yaD,yaZ (by rw [EJ];simpa using h)];simp
theorem FK {ops:Array Oper} (he:uy ops): ∀(i x:Nat),(bY ops i).testBit x=true→x<i:=by
 intro i
 induction i using Nat.strongRecOn with
 | _ i ih=>
  intro x hx;cases ho:ops[i]? with
  | none=>rw [Ke ho] at hx;cases hx
  | some o=>
   obtain ⟨e,h1,h2,h3⟩:=Jh ops.toList [] i x o (by simpa using ho) (by simpa [bY,lu] using hx);have hlt:=he i o ho e (by simpa using h1) h2;rcases h3 with rfl|⟨h3,h4⟩
   ·exact hlt
   ·have:=ih e.on hlt x (by simpa [bY,lu] using h4);omega
theorem Xp {ms:List Nat}: ∀ {l:List Edge} {x:Nat} {e:Edge},e∈l→Region.binds .any e=true→(x=e.on∨(ms.getD e.on 0).testBit x=true)→(oh ms l).testBit x=true
 | [], x,e,h,_,_=>by cases h
 | e'::l,x,e,h,hb,hx=>by
  unfold oh;rcases yac.1 h with rfl|h
  ·rw [hb];show (((2^e.on)|||(ms.getD e.on 0))|||oh ms l).testBit x=true;rw [yaS,yaS,yct];rcases hx with rfl|hx
   ·simp
   ·rw [hx];simp
  ·have ih:=Xp h hb hx;split
   ·show (((2^e'.on)|||(ms.getD e'.on 0))|||oh ms l).testBit x=true;rw [yaS,ih];simp
   ·exact ih
theorem Xj: ∀(l:List Oper) (ms:List Nat) (i x:Nat) (o:Oper),l[i]? =some o→ ∀e∈o.after.toList,Region.binds .any e=true→e.on<ms.length+i→
  (x=e.on∨((oz l ms).getD e.on 0).testBit x=true)→((oz l ms).getD (ms.length+i) 0).testBit x=true
 | [], ms,i,x,o,h,_,_,_,_,_=>by simp at h
 | o'::l,ms,0,x,o,h,e,he,hb,hlt,hx=>by
  simp at h;subst h;unfold oz at hx ⊢;rw [yaD,EF l _ _ (by simp),yaY (by simp)];simp only [ya7,ydq,yaw,yb1];refine Xp he hb (hx.imp id fun hx=> ?_);rw [yaD,EF l _ _ (by simp;omega),yaX (by omega),←yaD] at hx;exact hx
 | o'::l,ms,i+1,x,o,h,e,he,hb,hlt,hx=>by
  unfold oz at hx ⊢;have:=Xj l (ms++ [oh ms o'.after.toList]) i x o (by simpa using h) e he hb (by simp;omega) hx;simpa [ybh,ycR 1 i] using this
theorem zxY {ops:Array Oper} (he:uy ops) {i x:Nat} {o:Oper} (ho:ops[i]? =some o) {e:Edge} (h1:e∈o.after) (h2:Region.binds .any e=true) (hx:x=e.on∨(bY ops e.on).testBit x=true):
  (bY ops i).testBit x=true:=by
 have:=Xj ops.toList [] i x o (by simpa using ho) e (by simpa using h1) h2 (by simpa using he i o ho e h1 h2) (by simpa [bY,lu] using hx);simpa [bY,lu] using this
theorem zvp {ops:Array Oper} (he:uy ops): ∀(i x y:Nat),(bY ops i).testBit x=true→(bY ops x).testBit y=true→(bY ops i).testBit y=true:=by
 intro i
 induction i using Nat.strongRecOn with
 | _ i ih=>
  intro x y hx hy;cases ho:ops[i]? with
  | none=>rw [Ke ho] at hx;cases hx
  | some o=>
   obtain ⟨e,h1,h2,h3⟩:=Jh ops.toList [] i x o (by simpa using ho) (by simpa [bY,lu] using hx);have hlt:=he i o ho e (by simpa using h1) h2;refine zxY he ho (by simpa using h1) h2 (.inr ?_);rcases h3 with rfl|⟨h3,h4⟩
   ·exact hy
   ·exact ih e.on hlt x y (by simpa [bY,lu] using h4) hy
theorem QN {ops:Array Oper} {i u x:Nat} (hu:(fq ops)[u]? =some x) (hx:(bY ops i).testBit x=true):u+1≤jX ops i:=by
 have:=Qk (m:=bY ops i) (fq ops) 0 0 u x (yab _) hu hx;unfold jX;omega
theorem KP {ops:Array Oper} (i:Nat):jX ops i=0∨ ∃u x,(fq ops)[u]? =some x∧(bY ops i).testBit x=true∧jX ops i=u+1:=by
 rcases PK (m:=bY ops i) (fq ops) 0 0 (yab _) with h|⟨u,x,h1,h2,h3⟩
 ·exact .inl h
 ·exact .inr ⟨u,x,h1,h2,by unfold jX;omega⟩
theorem Rb {ops:Array Oper} (he:uy ops) {i x:Nat} (hx:(bY ops i).testBit x=true):jX ops x≤jX ops i:=by
 rcases KP (ops:=ops) x with h|⟨u,y,h1,h2,h3⟩
 ·omega
 ·have:=QN (i:=i) h1 (zvp he i x y hx h2);omega
def DD (ops:Array Oper) (s n i:Nat):Prop:=
 ∃ o,ops[i]? =some o∧((jh o=false∧(jX ops i<s∨jX ops i=s∧i<n))∨(jh o=true∧ ∃u,u<s∧(fq ops)[u]? =some i))
theorem zo8 {ops:Array Oper} (he:uy ops) {i x:Nat} (hx:(bY ops i).testBit x=true): ∃o,ops[x]? =some o:=by
 have hlt:=FK he i x hx;cases ho:ops[i]? with
 | none=>rw [Ke ho] at hx;cases hx
 | some o=>
  have:=(yar.1 ho).1;exact ⟨ops[x],yaM (by omega)⟩
theorem zzD {ops:Array Oper} (he:uy ops) {s n i x:Nat} (h:DD ops s n i) (hx:(bY ops i).testBit x=true):DD ops s n x:=by
 obtain ⟨o,ho,h⟩:=h;obtain ⟨ox,hox⟩:=zo8 he hx;have hlt:=FK he i x hx;refine ⟨ox,hox,?_⟩;cases hh:jh ox with
 | true=>
  obtain ⟨u,hu⟩:=Fh.2 ⟨ox,hox,hh⟩;refine .inr ⟨rfl,u,?_,hu⟩;rcases h with ⟨_,h⟩|⟨_,v,hv,h⟩
  ·have:=QN (i:=i) hu hx;omega
  ·have:=Rl hu h hlt;omega
 | false=>
  refine .inl ⟨rfl,?_⟩;rcases h with ⟨_,h⟩|⟨_,v,hv,h⟩
  ·have:=Rb he hx;omega
  ·rcases KP (ops:=ops) x with h0|⟨u,y,h1,h2,h3⟩
   ·omega
   ·have:=FK he x y h2;have:=Rl h1 h (by omega);omega
theorem zFe {ops:Array Oper} (he:uy ops) {s i x:Nat} (hs:jX ops i=s) (hx:(bY ops i).testBit x=true):DD ops s i x:=by
 obtain ⟨ox,hox⟩:=zo8 he hx;have hlt:=FK he i x hx;refine ⟨ox,hox,?_⟩;cases hh:jh ox with
 | true=>
  obtain ⟨u,hu⟩:=Fh.2 ⟨ox,hox,hh⟩;have:=QN (i:=i) hu hx;exact .inr ⟨rfl,u,by omega,hu⟩
 | false=>
  have:=Rb he hx;exact .inl ⟨rfl,by omega⟩
theorem zFb {ops:Array Oper} {s n:Nat} {o:Oper} (ho:ops[n]? =some o) (hv:jh o=false) (hs:jX ops n=s) (i:Nat):(DD ops s n i∨i=n)↔DD ops s (n+1) i:=by
 constructor
 ·rintro (⟨o',h1,h2⟩|rfl)
  ·refine ⟨o',h1,h2.imp (fun h=>⟨h.1,?_⟩) id⟩;have:=h.2;omega
  ·exact ⟨o,ho,.inl ⟨hv,by omega⟩⟩
 ·rintro ⟨o',h1,h2|h2⟩
  ·by_cases hi:i=n
   ·exact .inr hi
   ·exact .inl ⟨o',h1,.inl ⟨h2.1,by have:=h2.2;omega⟩⟩
  ·exact .inl ⟨o',h1,.inr h2⟩
theorem zFc {ops:Array Oper} {s n:Nat} {o:Oper} (ho:ops[n]? =some o) (h:jh o=true∨jX ops n≠s) (i:Nat):DD ops s n i↔DD ops s (n+1) i:=by
 constructor
 ·rintro ⟨o',h1,h2⟩;refine ⟨o',h1,h2.imp (fun h=>⟨h.1,?_⟩) id⟩;have:=h.2;omega
 ·rintro ⟨o',h1,h2|h2⟩
  ·refine ⟨o',h1,.inl ⟨h2.1,?_⟩⟩;by_cases hi:i=n
   ·subst hi;rw [ho] at h1;cases h1;rcases h with h|h
    ·rw [h] at h2;cases h2.1
    ·have:=h2.2;omega
   ·have:=h2.2;omega
  ·exact ⟨o',h1,.inr h2⟩
theorem zFd {ops:Array Oper} {s n:Nat} (hn:ops.size≤n) (i:Nat):DD ops s n i↔DD ops s ops.size i:=by
 constructor<;>rintro ⟨o',h1,h2⟩<;>have hlt:=(yar.1 h1).1<;>
  exact ⟨o',h1,h2.imp (fun h=>⟨h.1,by have:=h.2;omega⟩) id⟩
theorem zCa {ops:Array Oper} {s h:Nat} {o:Oper} (hu:(fq ops)[s]? =some h) (ho:ops[h]? =some o) (hv:jh o=true) (i:Nat):(DD ops s ops.size i∨i=h)↔DD ops (s+1) 0 i:=by
 constructor
 ·rintro (⟨o',h1,h2⟩|rfl)
  ·refine ⟨o',h1,h2.imp (fun h=>⟨h.1,by have:=h.2;omega⟩) fun ⟨a,u,b,c⟩=>⟨a,u,by omega,c⟩⟩
  ·exact ⟨o,ho,.inr ⟨hv,s,by omega,hu⟩⟩
 ·rintro ⟨o',h1,h2|⟨h2,u,h3,h4⟩⟩
  ·have hlt:=(yar.1 h1).1;exact .inl ⟨o',h1,.inl ⟨h2.1,by have:=h2.2;omega⟩⟩
  ·by_cases fD:u=s
   ·subst fD;rw [hu] at h4;cases h4;exact .inr rfl
   ·exact .inl ⟨o',h1,.inr ⟨h2,u,by omega,h4⟩⟩
theorem zxX {ops:Array Oper} {p:PO}:p∈kG ops↔ops[p.i]? =some p.o∧p.m=bY ops p.i∧p.s=jX ops p.i:=by
 unfold kG;rw [zo7 (by rw [EJ])];constructor
 ·rintro ⟨i,h1,h2,h3,h4⟩;have e:p.i=i:=by omega
  have hm:p.m=bY ops i:=by unfold bY;rw [yaD,h3];rfl
  rw [e];exact ⟨by simpa using h1,hm,by rw [h4,hm];rfl⟩
 ·rintro ⟨h1,h2,h3⟩;have hlt:=(yar.1 h1).1;have hm:(lu ops.toList)[p.i]? =some p.m:=by
   rw [h2];unfold bY;rw [yaD,yam (by rw [EJ];simpa using hlt)];rfl
  exact ⟨p.i,by simpa using h1,by omega,hm,by rw [h3,h2];rfl⟩
theorem yg {ops:Array Oper} {i:Nat} {o:Oper} (h:ops[i]? =some o):(⟨o,i,bY ops i,jX ops i⟩:PO)∈kG ops:=zxX.2 ⟨h,rfl,rfl⟩
theorem zms {ms:List Nat}: ∀ {l:List Nat} {u h h':Nat},chained ms l=true→l[u]? =some h→l[u+1]? =some h'→(ms.getD h' 0).testBit h=true
 | [], u,h,h',_,h1,_=>by simp at h1
 | x::l,u,h,h',hc,h1,h2=>by
  unfold chained at hc;cases l with
  | nil=>simp at h2
  | cons y l=>
   simp only at hc;split at hc
   ·rename_i hb;cases u with
    | zero=>simp at h1 h2;subst h1 h2;exact hb
    | succ u=>exact zms hc (by simpa using h1) (by simpa using h2)
   ·cases hc
theorem zme: ∀ {l:List PO},FV l=true→ ∀p∈l,∀e∈p.o.after,Region.binds .any e=true→e.on<p.i
 | [], _,p,hp,_,_,_=>by cases hp
 | q::l,h,p,hp,e,he,hb=>by
  unfold FV at h;split at h
  case h_2=>cases h
  rename_i hq;rcases yac.1 hp with rfl|hp
  ·have:=ybG.1 hq e (by simpa using he);rw [hb] at this;rw [yaE] at this;exact this
  ·exact zme h p hp e he hb
theorem R7 {hs:List Nat}: ∀ {l:List Oper} {ms:List Nat} {n:Nat},l.length=ms.length→((posOf hs l ms n).filter fun p=>jh p.o).map (·.i)=qG l n
 | [], ms,n,_=>by simp [posOf,qG]
 | o::l,[],n,h=>by simp at h
 | o::l,m::ms,n,h=>by
  unfold posOf qG;rw [List.filter_cons];cases hv:jh o with
  | true=>simp [hv,R7 (hs:=hs) (l:=l) (ms:=ms) (n:=n+1) (by simpa using h)]
  | false=>simp [hv,R7 (hs:=hs) (l:=l) (ms:=ms) (n:=n+1) (by simpa using h)]
theorem ztF (ops:Array Oper):(iY ops).map (·.i)=fq ops:=R7 (by rw [EJ])
theorem zyv {ops:Array Oper} {u:Nat} {p:PO} (h:(iY ops)[u]? =some p):(fq ops)[u]? =some p.i∧ops[p.i]? =some p.o∧p.m=bY ops p.i∧jh p.o=true:=by
 have hm:=ya9 h;unfold iY at hm;rw [List.mem_filter,zxX] at hm;refine ⟨?_,hm.1.1,hm.1.2.1,hm.2⟩;rw [←ztF,ya5,h];rfl
theorem PY (ops:Array Oper):(iY ops).length=(fq ops).length:=by rw [←ztF];simp
theorem Js {s hm:Nat} {p:PO}: ∀ {l:List PO},p∈xL s hm l↔p∈l∧FP p.o=true∧p.s≤s∧hm.testBit p.i=false
 | [] => by simp [xL]
 | q::l=>by
  unfold xL;split
  ·rename_i h1 h2 h3;rw [yac,yac,Js];constructor
   ·rintro (rfl|h)
    ·exact ⟨.inl rfl,h1,yal h2,h3⟩
    ·exact ⟨.inr h.1,h.2⟩
   ·rintro ⟨rfl|h,h'⟩
    ·exact .inl rfl
    ·exact .inr ⟨h,h'⟩
  ·rename_i hne;rw [yac,Js];constructor
   ·rintro ⟨h,h'⟩;exact ⟨.inr h,h'⟩
   ·rintro ⟨rfl|h,h1,h2,h3⟩
    ·exact absurd h3 (hne h1 (by rw [Nat.ble_eq];exact h2))
    ·exact ⟨h,h1,h2,h3⟩
theorem Yu {o:Oper}: ∀ {l:List PO},o∈FJ l↔ ∃p∈l,p.o=o
 | [] => by simp [FJ]
 | q::l=>by
  unfold FJ;rw [yac,Yu];constructor
  ·rintro (rfl|⟨p,h,rfl⟩)
   ·exact ⟨q,yaG ..,rfl⟩
   ·exact ⟨p,yaB _ h,rfl⟩
  ·rintro ⟨p,h,rfl⟩;rcases yac.1 h with rfl|h
   ·exact .inl rfl
   ·exact .inr ⟨p,h,rfl⟩
theorem Xh {ops:Array Oper} {all:List PO}: ∀ {l:List PO} {s u:Nat} {p:PO},EX ops all s l=true→l[u]? =some p→(xL (s+u) p.m all).all (QU ops all (s+u))=true
 | [], s,u,p,_,h=>by simp at h
 | q::l,s,u,p,h,hp=>by
  unfold EX at h;split at h
  case h_2=>cases h
  rename_i hq;cases u with
  | zero=>simp at hp;subst hp;exact hq
  | succ u=>
   have:=Xh (s:=s+1) (u:=u) (p:=p) h (by simpa using hp);rw [show s+(u+1)=s+1+u by omega];exact this
theorem zmz {l:List Nat} {t:Nat} (h:t∈l):l.any (Nat.beq t)=true:=ydu.2 ⟨t,h,yca t⟩
theorem zoY {ops:Array Oper} {l:List sJ} (h:RQ ops=some l):PF ops∧l=xM (kG ops) 0 (iY ops):=by
 unfold RQ at h;simp only at h;split at h
 case h_2=>cases h
 rename_i hc;change (chained (lu ops.toList) (fq ops)&&FV (kG ops)&&(kG ops).all (zxh ops (kG ops))&& !(ops.toList.any FQ)&&EX ops (kG ops) 0 (iY ops))=true at hc;rw [yba,yba,yba,yba] at hc;obtain ⟨⟨⟨⟨c1,c2⟩,c3⟩,c4⟩,c5⟩:=hc;refine ⟨⟨fun i o ho e he hb=>zme c2 _ (yg ho) e he hb,fun u h h' h1 h2=>zms c1 h1 h2,fun p q o oq t hp hq hd ht=> ?_,fun p q o oq t hne hp hq hd hdq=> ?_,fun p o hp=> ?_,fun u h p q o oq t hu hp hl hs hb hq hd ht=> ?_⟩,(yaC h).symm⟩
 ·have:=ybG.1 (ybG.1 c3 _ (yg hp)) _ (yg hq);simp only [hd,zmz ht] at this;cases hb:(bY ops p).testBit q with
  | true=>exact .inl rfl
  | false=>
   cases hb':(bY ops q).testBit p with
   | true=>exact .inr rfl
   | false=>simp [hb,hb'] at this
 ·have:=ybG.1 (ybG.1 c3 _ (yg hp)) _ (yg hq);simp only [hdq,hd] at this;have e1:Nat.beq p q=false:=by cases e:Nat.beq p q with
   | false=>rfl
   | true=>exact absurd (yc9 e) hne
  split at this
  ·cases this
  ·simp [e1] at this
 ·have:=c4;simp only [Bool.not_eq_true',List.any_eq_false] at this;have:=this o (by have:=Array.mem_of_getElem? hp;simpa using this);simpa using this
 ·obtain ⟨hlt,_⟩:=yay.1 hu;rw [←PY] at hlt;have hpo:(iY ops)[u]? =some (iY ops)[u]:=yam hlt;obtain ⟨g1,g2,g3,g4⟩:=zyv hpo;rw [hu] at g1;have e:h=(iY ops)[u].i:=yaC g1;have hall:=Xh c5 hpo;rw [yaq,g3,←e] at hall;have:=ybG.1 hall ⟨o,p,bY ops p,jX ops p⟩ (Js.2 ⟨yg hp,hl,hs,hb⟩);unfold QU at this;have:=ybG.1 this _ (yg hq);simp only [hd,zmz ht] at this;cases hb:(bY ops p).testBit q with
  | true=>exact .inl rfl
  | false=>
   cases hb':Nat.blt u (jX ops q) with
   | true=>rw [yaE] at hb';exact .inr hb'
   | false=>simp [hb,hb'] at this
theorem X5 {ops:Array Oper} (he:uy ops) {v x:Nat} (hv:(fq ops)[v]? =some x):jX ops x≤v:=by
 rcases KP (ops:=ops) x with h|⟨u,y,h1,h2,h3⟩
 ·omega
 ·have:=Rl h1 hv (FK he x y h2);omega
section
variable {P:Program} {ρ:Val} {w0:Cx} {j:J} {H:Heap} {w:World} {N:Nat} {env:T AV} {a:Act} {o:Oper} {ops:Array Oper} {Q:Exit→Act→World→Prop}
theorem count_set {listed:Array Bool} {i:Nat} (h:listed.getD i true=false):(listed.setIfInBounds i true).count false+1=listed.count false:=by
 have hlt:i<listed.size:=by
  apply ybu;intro hn;rw [yaA,ya8 (by omega)] at h;cases h
 have hf:listed[i]=false:=by
  rw [yaA,yaM hlt] at h;exact h
 have hpos:0<listed.count false:=Array.count_pos_iff.2 (by rw [←hf];exact Array.getElem_mem hlt);rw [Array.setIfInBounds_def,ydC hlt,Array.count_set];simp [hf];omega
end
end Go.Dw
namespace Go.Dw
def GV (ρ:Val):G→Bool→Prop
 | .yes,g=>g=true
 | .no,g=>g=false
 | .test _ b want,g=>(b.den ρ==want)=g
 | .none,_=>False
def Am (N:Nat) (env:T AV) (o:Oper) (v:AV):Prop:= ∀d,o.dst=some d→d<N∧env.get d=some v
section
variable {P:Program} {ρ:Val} {w0:Cx} {ops:Array Oper} {N:Nat} {iw:T AV} {H0:Heap} {j0:J}
variable {D listed:Nat→Prop} {bR env env':T AV} {j j':J} {H H':Heap} {w w':World} {a:Act} {nm qp:Nat→Option Nat} {rec:Task→Ob} {n:Nat} {Q:Exit→Act→World→Prop}
theorem zD3 {x:Operand} (h: ∀t,x= .tmp t→env.get t=env'.get t):bq env x=bq env' x:=by
 cases x with
 | tmp t=>simp only [bq];rw [h t rfl]
 | _=>rfl
theorem Qp {o:Oper} (h: ∀t∈looks ops o,env.get t=env'.get t): ∀x∈o.op.operands,bq env x=bq env' x:=fun x hx=>zD3 fun t e=>h t (by
 subst e;unfold looks;exact yco _ (List.mem_filterMap.2 ⟨.tmp t,by simpa using hx,rfl⟩))
theorem Pn {o:Oper} (h: ∀t∈looks ops o,env.get t=env'.get t):mD ops env o=mD ops env' o:=by
 unfold mD;cases hg:o.guard with
 | none=>rfl
 | some gw=>
  obtain ⟨i,want⟩:=gw;simp only;cases hi:ops[i]? with
  | none=>rfl
  | some oj=>
   simp only;cases hd:oj.dst with
   | none=>rfl
   | some t=>
    simp only;rw [h t (by unfold looks;refine ycg _ ?_;simp [hg,hi,hd])]
theorem zpD (he:ER ρ j N env a) {o:Oper} {g:Bool} (h:GV ρ (mD ops env o) g):Region.wanted o (yielded ops a.tmps)=g:=by
 have hs:=YB he ops o;cases hG:mD ops env o with
 | yes=>rw [hG] at h hs;have h:g=true:=h;rw [h];exact hs
 | no=>rw [hG] at h hs;have h:g=false:=h;rw [h];exact hs
 | none=>rw [hG] at h;exact h.elim
 | test t b want=>
  rw [hG] at h hs;have hb:=(Qw he hs).2;have h:(b.den ρ==want)=g:=h;unfold mD at hG;split at hG
  ·cases hG
  rename_i i want' hg;split at hG
  ·cases hG
  rename_i oj hi;split at hG
  ·cases hG
  rename_i t' hd;split at hG
  ·cases hG
  ·split at hG<;>cases hG
  ·split at hG<;>cases hG
  ·cases hG;unfold Region.wanted;rw [hg];simp only [yielded,hi,ybF,hd,hb];rw [←h];cases b.den ρ<;>cases want<;>rfl
  ·cases hG
  ·cases hG
  ·cases hG
def Told (ρ:Val) (l:List (SB×Bool)):Prop:= ∀c∈l,c.1.den ρ=c.2
theorem ug {ρ:Val} {c:SB}: ∀ {l:List (SB×Bool)} {b:Bool},Told ρ l→vR c l=some b→c.den ρ=b
 | [], _,_,h=>by cases h
 | p::l,b,ht,h=>by
  unfold vR at h;split at h
  ·rename_i he;cases h;rw [SB.uI he];exact ht p (by simp)
  ·exact ug (fun c hc=>ht c (by simp [hc])) h
theorem Qs {ρ:Val} {l:List (SB×Bool)} {c:SB} {b:Bool} (h:Told ρ l) (hc:c.den ρ=b):Told ρ ((c,b)::l):=fun x hx=>by
 rcases yac.1 hx with rfl|hx
 ·exact hc
 ·exact h x hx
def OW (ρ:Val) (z:AV):Prop:= ∀j,R ρ j z undef
theorem zGo {ρ:Val} {G:G} {a b:Bool} (h:GV ρ G a) (k:GV ρ G b):a=b:=by
 cases G with
 | yes=>exact ydx (show a=true from h) (show b=true from k).symm
 | no=>exact ydx (show a=false from h) (show b=false from k).symm
 | test t c want=>exact ydx (show (c.den ρ==want)=a from h).symm k
 | none=>exact h.elim
theorem zpE {fs:List (SB×Bool)} (hf:Told ρ fs) {o:Oper}:(vT fs ops env o= .yes→GV ρ (mD ops env o) true)∧(vT fs ops env o= .no→GV ρ (mD ops env o) false∧OW ρ (OJ ops env o))∧
  (∀ t b want,vT fs ops env o= .test t b want→mD ops env o= .test t b want):=by
 unfold vT OJ;cases hG:mD ops env o with
 | yes=>exact ⟨fun _=>rfl,fun h=>by (simp at h),fun _ _ _ h=>by (simp at h)⟩
 | no=>exact ⟨fun h=>by (simp at h),fun _=>⟨rfl,fun j=>rY⟩,fun _ _ _ h=>by (simp at h)⟩
 | none=>exact ⟨fun h=>by (simp at h),fun h=>by (simp at h),fun _ _ _ h=>by (simp at h)⟩
 | test t b want=>
  simp only;split
  ·rename_i ht;have hb:=ug hf ht;cases want with
   | true=>exact ⟨fun _=>by (show (b.den ρ==true)=true;rw [hb];rfl),fun h=>by (simp at h),fun _ _ _ h=>by (simp at h)⟩
   | false=>exact ⟨fun h=>by (simp at h),fun _=>⟨by (show (b.den ρ==false)=false;rw [hb];rfl),fun j=>(show undef=undef∧b.den ρ= !_ from ⟨rfl,hb⟩)⟩,fun _ _ _ h=>by (simp at h)⟩
  ·rename_i ht;have hb:=ug hf ht;cases want with
   | true=>exact ⟨fun h=>by (simp at h),fun _=>⟨by (show (b.den ρ==true)=false;rw [hb];rfl),fun j=>(show undef=undef∧b.den ρ= !_ from ⟨rfl,hb⟩)⟩,fun _ _ _ h=>by (simp at h)⟩
   | false=>exact ⟨fun _=>by (show (b.den ρ==false)=true;rw [hb];rfl),fun h=>by (simp at h),fun _ _ _ h=>by (simp at h)⟩
  ·exact ⟨fun h=>by (simp at h),fun h=>by (simp at h),fun _ _ _ h=>h⟩
theorem YV {o:Oper} {k:T AV→Heap→Ob} {rest:List sJ} {fs:List (SB×Bool)} (hf:Told ρ fs) (h:Ob.den ρ (gU P rec ops N k (.run o::rest) fs env H)):
  ∃ g z fs',GV ρ (mD ops env o) g∧(g=false→OW ρ z)∧Told ρ fs'∧Ob.den ρ (F9 P rec o N (gU P rec ops N k rest fs') env H g z):=by
 obtain ⟨e1,e2,e3⟩:=zpE (ops:=ops) (env:=env) hf (o:=o);unfold gU at h;cases hG:vT fs ops env o with
 | yes=>rw [hG] at h;exact ⟨true,_,fs,e1 hG,(fun hh=>by cases hh),hf,h⟩
 | no=>rw [hG] at h;exact ⟨false,_,fs,(e2 hG).1,fun _=>(e2 hG).2,hf,h⟩
 | none=>rw [hG] at h;exact h.elim
 | test t b want=>
  rw [hG] at h;rw [e3 _ _ _ hG];obtain ⟨h1,h2⟩:=h;cases hb:b.den ρ with
  | true=>exact ⟨want,.iR b want,_,by show (b.den ρ==want)=want;rw [hb];cases want<;>rfl,fun hw j=>(show undef=undef∧b.den ρ= !want from ⟨rfl,by rw [hb,hw];rfl⟩),Qs hf hb,h1 hb⟩
  | false=>
   cases want with
   | true=>exact ⟨false,.iR b true,_,by show (b.den ρ==true)=false;rw [hb];rfl,fun _ j=>(show undef=undef∧b.den ρ= !true from ⟨rfl,by rw [hb];rfl⟩),Qs hf hb,h2 hb⟩
   | false=>exact ⟨true,_,_,by show (b.den ρ==false)=true;rw [hb];rfl,(fun hh=>by cases hh),Qs hf hb,h2 hb⟩
theorem zri {os:List Oper} {k:T AV→Heap→Ob} {rest:List sJ} {fs:List (SB×Bool)} (h:Ob.den ρ (gU P rec ops N k (.uH os::rest) fs env H)):
  wH P fs ops env H os=true∧Ob.den ρ (gU P rec ops N k rest fs env H):=by
 unfold gU at h;split at h
 ·rename_i hc;exact ⟨hc,h⟩
 ·exact h.elim
theorem Kt {dst:Option Tmp} {v:AV} {kk:T AV→Ob} (h:Ob.den ρ (kD dst N env v kk)):
  ∃ env',Ob.den ρ (kk env')∧(∀d,dst=some d→d<N∧env'.get d=some v)∧(∀t,dst≠some t→env'.get t=env.get t):=by
 unfold kD at h;split at h
 ·exact ⟨env,h,⟨fun d e=>(by cases e),fun _ _=>rfl⟩⟩
 ·rename_i d;split at h
  ·rename_i hb;rw [yaE] at hb;refine ⟨_,h,fun d' e=> ?_,fun t ht=> ?_⟩
   ·cases e;exact ⟨hb,by rw [T.lZ,yak rfl]⟩
   ·rw [T.lZ,yai (fun e=>ht (by rw [e]))]
  ·exact h.elim
theorem zzl {fs:List (SB×Bool)}: ∀ {os:List Oper},wH P fs ops env H os=true→ ∀o∈os,vT fs ops env o= .no∨(vT fs ops env o= .yes∧ ∃v,light P o.op env H=some v∧ ∀d,o.dst=some d→env.get d=some v)
 | [], _,o,ho=>by cases ho
 | q::os,h,o,ho=>by
  unfold wH at h;have hrest:wH P fs ops env H os=true:=by
   split at h
   ·exact h
   ·split at h
    ·split at h
     ·split at h
      ·exact h
      ·cases h
     ·cases h
    ·exact h
    ·cases h
   ·cases h
  rcases yac.1 ho with rfl|ho
  ·split at h
   ·rename_i hg;exact .inl hg
   ·rename_i hg;refine .inr ⟨hg,?_⟩;split at h
    ·rename_i v d hl hd;split at h
     ·rename_i u hu;split at h
      ·rename_i hb;refine ⟨v,hl,fun d' e=> ?_⟩;rw [hd] at e;cases e;rw [hu,AV.beq_eq hb]
      ·cases h
     ·cases h
    ·rename_i v hl hd;exact ⟨v,hl,fun d' e=>by rw [hd] at e;cases e⟩
    ·cases h
   ·cases h
  ·exact zzl hrest o ho
theorem ER.Iy (he:ER ρ j N bR a) {o:Oper} {v:AV} {u:Value} (hR:R ρ j v u) (hd: ∀d,o.dst=some d→d<N):
  ∃ iP,ER ρ j N iP (a.put o.dst u)∧(∀d,o.dst=some d→iP.get d=some v)∧(∀t,o.dst≠some t→iP.get t=bR.get t):=by
 cases hdst:o.dst with
 | none=>exact ⟨bR,he,⟨fun d e=>(by cases e),fun _ _=>rfl⟩⟩
 | some d=>
  refine ⟨bR.set d v,he.put (hd d hdst) hR,fun d' e=> ?_,fun t ht=> ?_⟩
  ·cases e;rw [T.lZ,yak rfl]
  ·rw [T.lZ,yai (fun e=>ht (by rw [e]))]
def Done (P:Program) (ρ:Val) (N:Nat) (H0:Heap) (env kN:T AV) (H:Heap) (j:J) (nm:Option Nat) (o:Oper) (g:Bool):Prop:=
 (g=true∧pQ o.op= .light∧ ∃v,light P o.op kN H=some v∧Am N env o v)∨
 (g=true∧pQ o.op= .alloc∧ ∃v ob nx,nm=some nx∧nJ P o.op kN nx=some (v,ob)∧H.m.get nx=some ob∧j nx=none∧H0.nx≤nx∧Am N env o v)∨
 (g=false∧ ∃z,OW ρ z∧Am N env o z)
def R8 (ops:Array Oper) (iw env kN:T AV) (i:Nat) (o:Oper):Prop:=
 ∀ t∈looks ops o,(∀q oq,(bY ops i).testBit q=true→ops[q]? =some oq→oq.dst=some t→kN.get t=env.get t)∧
  ((∀ q oq,(bY ops i).testBit q=true→ops[q]? =some oq→oq.dst≠some t)→kN.get t=iw.get t)
def Wx (P:Program) (ρ:Val) (ops:Array Oper) (N:Nat) (iw:T AV) (H0:Heap) (env:T AV) (H:Heap) (j:J) (nm:Option Nat) (i:Nat) (o:Oper):Prop:=
 ∃ kN g,GV ρ (mD ops kN o) g∧R8 ops iw env kN i o∧Done P ρ N H0 env kN H j nm o g
theorem zqp (op:Op) (env:T AV) (nx:Nat) (v:AV) (k:Nat):nJ P op env nx≠some (v,.gs k):=fun h=>by
 cases op<;>simp only [nJ,L9] at h<;>try cases h
 case alloc=>unfold Gg kZ at h;split at h<;>cases h
 case box=>unfold AB kZ at h;split at h<;>cases h
 case buildSlice=>unfold BS kZ at h;(repeat' split at h)<;>cases h
 case makeMap=>unfold Cm at h;(repeat' split at h)<;>cases h
 case makeSlice=>unfold BN at h;(repeat' split at h)<;>cases h
structure CI (P:Program) (ρ:Val) (w0:Cx) (ops:Array Oper) (N:Nat) (iw:T AV) (H0:Heap) (j0:J) (D listed:Nat→Prop) (bR env:T AV) (j:J) (H:Heap) (w:World) (nm:Nat→Option Nat):Prop where
 inv:Inv ρ w0 j H w
 st:St j0 H0 j H
 sub: ∀i,listed i→D i
 e0: ∀t,(∀i o,D i→ops[i]? =some o→o.dst≠some t)→env.get t=iw.get t
 s0: ∀t,(∀i o,listed i→ops[i]? =some o→o.dst≠some t)→bR.get t=iw.get t
 s1: ∀t i o,listed i→ops[i]? =some o→o.dst=some t→bR.get t=env.get t
 Iz: ∀i o,D i→ ¬listed i→ops[i]? =some o→Wx P ρ ops N iw H0 env H j (nm i) i o
 bnd: ∀i nx,nm i=some nx→nx<H.nx
 inj: ∀i i' nx,nm i=some nx→nm i'=some nx→i=i'
theorem CI.congr {D':Nat→Prop} (h: ∀i,D i↔D' i) (ci:CI P ρ w0 ops N iw H0 j0 D listed bR env j H w nm):CI P ρ w0 ops N iw H0 j0 D' listed bR env j H w nm:=by
 have e:D=D':=funext fun i=>propext (h i);rw [←e];exact ci
theorem CI.put (pf:PF ops) (ci:CI P ρ w0 ops N iw H0 j0 D listed bR env j H w nm) {p:Nat} {o:Oper} (ho:ops[p]? =some o) (hp: ¬D p)
  (hcl: ∀i x,D i→(bY ops i).testBit x=true→D x) (hinv:Inv ρ w0 j H' w) (hst:St j0 H0 j H') (hext:Ext H H') (hnx:H.nx≤H'.nx)
  (Tv: ∀t,o.dst≠some t→env'.get t=env.get t) (hnm: ∀i,i≠p→qp i=nm i) (aas: ∀i nx,qp i=some nx→nx<H'.nx) (hinj: ∀i i' nx,qp i=some nx→qp i'=some nx→i=i')
  (hrec:R8 ops iw env' env p o→Wx P ρ ops N iw H0 env' H' j (qp p) p o) (hm: ∀x,(bY ops p).testBit x=true→D x):
  CI P ρ w0 ops N iw H0 j0 (fun x=>D x∨x=p) listed bR env' j H' w qp:=by
 have hne: ∀i,D i→i≠p:=fun i hi e=>hp (e▸hi);have hkeep: ∀i oi t,D i→ops[i]? =some oi→oi.dst=some t→env'.get t=env.get t:=fun i oi t hi hoi hd=>
  Tv t (pf.Db i p oi o t (hne i hi) hoi ho hd)
 refine ⟨hinv,hst,fun i hi=> .inl (ci.sub i hi),fun t ht=> ?_,ci.s0,fun t i oi hi hoi hd=> ?_,fun i oi hi hl hoi=> ?_,aas,hinj⟩
 ·rw [Tv t (ht p o (.inr rfl) ho)];exact ci.e0 t fun i oi hi hoi=>ht i oi (.inl hi) hoi
 ·rw [ci.s1 t i oi hi hoi hd,hkeep i oi t (ci.sub i hi) hoi hd]
 ·by_cases gX:i=p
  ·subst gX;rw [ho] at hoi;cases hoi;refine hrec fun t ht=>⟨fun q oq hq hoq hd=>(hkeep q oq t (hm q hq) hoq hd).symm,fun hno=>ci.e0 t fun q oq hq hoq hd=> ?_⟩;rcases pf.reads i q o oq t ho hoq hd ht with h|h
   ·exact hno q oq h hoq hd
   ·exact hp (hcl q i hq h)
  ·have wP:D i:=hi.resolve_right gX;obtain ⟨kN,g,h1,h2,h3⟩:=ci.Iz i oi wP hl hoi;have hdst: ∀v,Am N env oi v→Am N env' oi v:=fun v hv d hd=>⟨(hv d hd).1,by rw [hkeep i oi d wP hoi hd];exact (hv d hd).2⟩;refine ⟨kN,g,h1,fun t ht=>⟨fun q oq hq hoq hd=> ?_,(h2 t ht).2⟩,?_⟩
   ·rw [(h2 t ht).1 q oq hq hoq hd,hkeep q oq t (hcl i q wP hq) hoq hd]
   ·rw [hnm i gX];rcases h3 with ⟨g1,g2,v,g3,g4⟩|⟨g1,g2,v,ob,nx,g3,g4,g5,g6,g7,g8⟩|⟨g1,g2⟩
    ·exact .inl ⟨g1,g2,v,zvw hext g3,hdst v g4⟩
    ·exact .inr (.inl ⟨g1,g2,v,ob,nx,g3,g4,hext.m _ _ g5,g6,g7,hdst v g8⟩)
    ·exact (.inr (.inr ⟨g1,g2.elim fun z hz=>⟨z,hz.1,hdst _ hz.2⟩⟩))
theorem zyQ {o:Obj} (hi:Inv ρ w0 j H w):Ext H (H.alloc o):=by
 rw [Heap.alloc_eq];refine ⟨fun n o' h=> ?_,rfl⟩;have:=hi.used n o' h;show (H.m.set H.nx o).get n=_;rw [T.lZ,yai (by omega)];exact h
theorem zx8 {o:Oper} (h:pQ o.op= .light):FP o=true:=by unfold FP;rw [h]
theorem zza {o:Oper} (h:jh o=true) (hd:FQ o=false):pQ o.op= .heavy:=by
 unfold jh at h;unfold FQ at hd;cases hc:pQ o.op<;>rw [hc] at h hd<;>first|rfl|exact absurd hd Bool.noConfusion|exact absurd h Bool.noConfusion
theorem zy9 {o:Oper} (h:jh o=false):pQ o.op= .light∨pQ o.op= .alloc:=by
 unfold jh at h;cases hc:pQ o.op<;>rw [hc] at h<;>first|exact .inl rfl|exact .inr rfl|exact absurd h (by simp)
theorem zqo {op:Op} {nx:Nat} {v:AV} {ob:Obj} (h:nJ P op env nx=some (v,ob)): ∀v' e g t sh ow,ob≠ .cells v' e g (some t) sh ow:=by
 intro v' e g t sh ow kQ;subst kQ;cases op<;>simp only [nJ,L9] at h<;>try (cases h;done)
 case alloc t'=>unfold Gg kZ at h;split at h<;>cases h
 case box t' x=>unfold AB kZ at h;split at h<;>cases h
 case buildSlice t' len parts=>
  unfold BS kZ at h;split at h
  ·split at h
   ·split at h
    ·split at h<;>cases h
    ·cases h
   ·cases h
  ·cases h
 case makeMap t' r=>
  unfold Cm at h;split at h
  ·cases h
  ·split at h<;>cases h
 case makeSlice t' l c=>
  unfold BN at h;split at h
  ·split at h
   ·split at h
    ·split at h<;>cases h
    ·cases h
   ·cases h
  ·cases h
theorem CI.aah (pf:PF ops) (ci:CI P ρ w0 ops N iw H0 j0 D listed bR env j H w nm) {p:Nat} {o:Oper} (ho:ops[p]? =some o) (hv:jh o=false) (hp: ¬D p)
  (hcl: ∀i x,D i→(bY ops i).testBit x=true→D x) (hm: ∀x,(bY ops p).testBit x=true→D x) {k:T AV→Heap→Ob} {rest:List sJ}
  {fs:List (SB×Bool)} (hf:Told ρ fs) (h:Ob.den ρ (gU P rec ops N k (.run o::rest) fs env H)):
  ∃ env' H' qp fs',CI P ρ w0 ops N iw H0 j0 (fun x=>D x∨x=p) listed bR env' j H' w qp∧Told ρ fs'∧Ob.den ρ (gU P rec ops N k rest fs' env' H'):=by
 obtain ⟨g,z,fs',hg,hz,hf',hd⟩:=YV hf h;cases g with
 | false=>
  obtain ⟨env',h1,h2,h3⟩:=Kt (kk:=fun env'=>gU P rec ops N k rest fs' env' H) hd;exact ⟨env',H,nm,fs',ci.put pf ho hp hcl ci.inv ci.st (Ext.refl H) (yab _) h3 (fun _ _=>rfl) ci.bnd ci.inj (fun hl=>⟨env,false,hg,hl,.inr (.inr ⟨rfl,z,hz rfl,h2⟩)⟩) hm,hf',h1⟩
 | true=>
  have hd:Ob.den ρ (wM P rec o env H fun env v H=>kD o.dst N env v fun env'=>gU P rec ops N k rest fs' env' H):=hd;unfold wM at hd;rcases zy9 hv with hc|hc
  ·rw [hc] at hd;have hd:Ob.den ρ (Oh o H (fun v H=>kD o.dst N env v fun env'=>gU P rec ops N k rest fs' env' H) (light P o.op env H)):=hd;cases hl:light P o.op env H with
   | none=>rw [hl] at hd;exact hd.elim
   | some v=>
    rw [hl] at hd;obtain ⟨env',h1,h2,h3⟩:=Kt (kk:=fun env'=>gU P rec ops N k rest fs' env' H) hd;exact ⟨env',H,nm,fs',ci.put pf ho hp hcl ci.inv ci.st (Ext.refl H) (yab _) h3 (fun _ _=>rfl) ci.bnd ci.inj (fun hlk=>⟨env,true,hg,hlk,.inl ⟨rfl,hc,v,hl,h2⟩⟩) hm,hf',h1⟩
  ·rw [hc] at hd;have hd:Ob.den ρ (Og o H (fun v H=>kD o.dst N env v fun env'=>gU P rec ops N k rest fs' env' H) (nJ P o.op env H.nx)):=hd;cases hl:nJ P o.op env H.nx with
   | none=>rw [hl] at hd;exact hd.elim
   | some q=>
    obtain ⟨v,ob⟩:=q;rw [hl] at hd;obtain ⟨env',h1,h2,h3⟩:=Kt (kk:=fun env'=>gU P rec ops N k rest fs' env' (H.alloc ob)) hd;have hnx:(H.alloc ob).nx=H.nx+1:=by rw [Heap.alloc_eq]
    have hinv:Inv ρ w0 j (H.alloc ob) w:=ci.inv.extend ob (fun v' e g t sh ow kQ=>absurd kQ (zqo hl v' e g t sh ow));refine ⟨env',H.alloc ob,fun i=>if i=p then some H.nx else nm i,fs',ci.put pf ho hp hcl hinv (ci.st.trans (St.extend ci.inv ob)) (zyQ ci.inv) (by omega) h3 (fun i hi=>yai hi) (fun i nx hi=> ?_) (fun i i' nx h1 h2=> ?_) (fun hlk=>⟨env,true,hg,hlk,.inr (.inl ⟨rfl,hc,v,ob,H.nx,yak rfl,hl,?_,ci.inv.fresh,ci.st.nx,h2⟩)⟩) hm,hf',h1⟩
    ·by_cases gX:i=p
     ·rw [yak gX] at hi;cases hi;omega
     ·rw [yai gX] at hi;have:=ci.bnd i nx hi;omega
    ·by_cases gX:i=p<;>by_cases Bn:i'=p
     ·rw [gX,Bn]
     ·rw [yak gX] at h1;rw [yai Bn] at h2;cases h1;exact absurd (ci.bnd i' _ h2) (ybW _)
     ·rw [yai gX] at h1;rw [yak Bn] at h2;cases h2;exact absurd (ci.bnd i _ h1) (ybW _)
     ·rw [yai gX] at h1;rw [yai Bn] at h2;exact ci.inj i i' nx h1 h2
    ·rw [Heap.alloc_eq];show (H.m.set H.nx ob).get H.nx=_;rw [T.lZ,yak rfl]
theorem JJ (pf:PF ops) {k:T AV→Heap→Ob} {rest:List sJ} {s:Nat}: ∀(l:List Oper) (ms:List Nat) (n:Nat) (fs:List (SB×Bool)) (env:T AV) (H:Heap) (nm:Nat→Option Nat),Told ρ fs→l=ops.toList.drop n→ms=(lu ops.toList).drop n→
  CI P ρ w0 ops N iw H0 j0 (DD ops s n) listed bR env j H w nm→Ob.den ρ (gU P rec ops N k (Ah s (posOf (fq ops) l ms n)++rest) fs env H)→
  ∃ env' H' qp fs',CI P ρ w0 ops N iw H0 j0 (DD ops s ops.size) listed bR env' j H' w qp∧Told ρ fs'∧Ob.den ρ (gU P rec ops N k rest fs' env' H')
 | [], ms,n,fs,env,H,nm,hf,hl,hms,ci,h=>by
  have hn:ops.size≤n:=by have:=hl.symm;rw [ydc] at this;simpa using this
  have e:posOf (fq ops) [] ms n= []:=by simp [posOf]
  rw [e] at h;exact ⟨env,H,nm,fs,ci.congr (zFd hn),hf,h⟩
 | o::l,ms,n,fs,env,H,nm,hf,hl,hms,ci,h=>by
  have ho:ops[n]? =some o:=by
   have:=yaH (·[0]?) hl;simp only [yaw,yb7,ya7] at this;simpa using this.symm
  have hlt:=(yar.1 ho).1;have hl':l=ops.toList.drop (n+1):=by
   have:=yaH List.tail hl;simpa using this
  cases TR:ms with
  | nil=>
   rw [TR] at hms;have:=hms.symm;rw [ydc,EJ] at this;simp at this;omega
  | cons m ms'=>
   rw [TR] at hms h;have hm:m=bY ops n:=by
    have:=yaH (·[0]?) hms;simp only [yaw,yb7,ya7] at this;unfold bY;rw [yaD,←this];rfl
   have TQ:ms'=(lu ops.toList).drop (n+1):=by
    have:=yaH List.tail hms;simpa using this
   unfold posOf at h;unfold Ah at h;have hst:lS m (fq ops) 0 0=jX ops n:=by rw [hm];rfl
   simp only [hst] at h;split at h
   ·rename_i hv hs;have hs:=yc9 hs;have hnD: ¬DD ops s n n:=by
     rintro ⟨o',h1,h2⟩;rw [ho] at h1;cases h1;rcases h2 with ⟨_,h2⟩|⟨h2,_⟩
     ·omega
     ·rw [hv] at h2;cases h2
    obtain ⟨env',H',qp,fs',h1,hf',h2⟩:=ci.aah pf ho hv hnD (fun i x hi hx=>zzD pf.yQ hi hx) (fun x hx=>zFe pf.yQ hs hx) hf h;exact JJ pf l ms' (n+1) fs' env' H' qp hf' hl' TQ (h1.congr (zFb ho hv hs)) h2
   ·rename_i hne;refine JJ pf l ms' (n+1) fs env H nm hf hl' TQ (ci.congr (zFc ho ?_)) h;cases hv:jh o with
    | true=>exact .inl rfl
    | false=>exact .inr fun e=>hne hv (by rw [e];exact yca s)
theorem CI.list (pf:PF ops) (ci:CI P ρ w0 ops N iw H0 j0 D listed bR env j H w nm) {i:Nat} {o:Oper} {iP:T AV} (ho:ops[i]? =some o) (hD:D i)
  (hinv:Inv ρ w0 j' H w') (hst:St j0 H0 j' H) (hd: ∀d,o.dst=some d→iP.get d=env.get d) (hn: ∀t,o.dst≠some t→iP.get t=bR.get t)
  (hj: ∀i' nx,i'≠i→nm i'=some nx→j nx=none→j' nx=none):
  CI P ρ w0 ops N iw H0 j0 D (fun x=>listed x∨x=i) iP env j' H w' nm:=by
 refine ⟨hinv,hst,fun x hx=>hx.elim (ci.sub x) fun e=>e▸hD,ci.e0,fun t ht=> ?_,fun t x ox hx hox Nf=> ?_,fun x ox hx hl hox=> ?_,ci.bnd,ci.inj⟩
 ·rw [hn t (ht i o (.inr rfl) ho)];exact ci.s0 t fun x ox hx hox=>ht x ox (.inl hx) hox
 ·by_cases hxi:x=i
  ·subst hxi;rw [ho] at hox;cases hox;exact hd t Nf
  ·rw [hn t (pf.Db x i ox o t hxi hox ho Nf)];exact ci.s1 t x ox (hx.resolve_right hxi) hox Nf
 ·have hxi:x≠i:=fun e=>hl (.inr e);obtain ⟨kN,g,h1,h2,h3⟩:=ci.Iz x ox hx (fun h=>hl (.inl h)) hox;refine ⟨kN,g,h1,h2,?_⟩;rcases h3 with h3|⟨g1,g2,v,ob,nx,g3,g4,g5,g6,g7,g8⟩|h3
  ·exact .inl h3
  ·exact .inr (.inl ⟨g1,g2,v,ob,nx,g3,g4,g5,hj x nx hxi g3 g6,g7,g8⟩)
  ·exact .inr (.inr h3)
theorem CI.late (pf:PF ops) (ci:CI P ρ w0 ops N iw H0 j0 D listed bR env j H w nm) (he:ER ρ j N bR a) {i:Nat} {o:Oper} (ho:ops[i]? =some o) (hD:D i) (hl: ¬listed i)
  (hm: ∀x,(bY ops i).testBit x=true→listed x) (hlc: ∀q x,listed q→(bY ops q).testBit x=true→listed x) {K:Act→World→Prop}
  (hK: ∀iP j' a' w',CI P ρ w0 ops N iw H0 j0 D (fun x=>listed x∨x=i) iP env j' H w' nm→ER ρ j' N iP a'→K a' w'):wpOp P ops Q i K a w:=by
 obtain ⟨kN,g,hg,TK,hdone⟩:=ci.Iz i o hD hl ho;have hag: ∀t∈looks ops o,bR.get t=kN.get t:=fun t ht=>by
  by_cases hw: ∃q oq,(bY ops i).testBit q=true∧ops[q]? =some oq∧oq.dst=some t
  ·obtain ⟨q,oq,h1,h2,h3⟩:=hw;rw [ci.s1 t q oq (hm q h1) h2 h3,(TK t ht).1 q oq h1 h2 h3]
  ·rw [(TK t ht).2 (fun q oq h1 h2 h3=>hw ⟨q,oq,h1,h2,h3⟩)];refine ci.s0 t fun q oq h1 h2 h3=> ?_;rcases pf.reads i q o oq t ho h2 h3 ht with h4|h4
   ·exact hw ⟨q,oq,h4,h2,h3⟩
   ·exact hl (hlc q i h1 h4)
 rw [←Pn hag] at hg;have hwant:=zpD he hg;have hops:=Qp hag;unfold wpOp;simp only [ho];rw [hwant];rcases hdone with ⟨rfl,hc,v,hv,hd⟩|⟨rfl,hc,v,ob,nx,hnm,hv,hH,hj,hnx,hd⟩|⟨rfl,hd⟩
 ·rw [yak rfl];left;rw [←Yy hops] at hv;obtain ⟨u,h1,h2⟩:=PV ci.inv he hv;unfold Oper.wp;rw [h1,Oper.upon_value];obtain ⟨iP,e1,e2,e3⟩:=he.Iy h2 (fun d hh=>(hd d hh).1);exact hK iP j _ _ (ci.list pf ho hD ci.inv ci.st (fun d hh=>by rw [e2 d hh,(hd d hh).2]) e3 (fun _ _ _ _ h=>h)) e1
 ·rw [yak rfl];left;rw [←zqq hops] at hv;obtain ⟨⟨u,obj,h1,h2,h3⟩,h4⟩:=Xt (P:=P) (w:=w) he hv;unfold Oper.wp;rw [h1,Oper.upon_value];have hinv:=ci.inv.Ma hH hj h2 (fun v e g cl sh kQ=>by subst kQ;exact .inl h4);have hst:St j0 H0 (iZ j nx ⟨w.heap.size,0,0,none⟩) H:=by
   refine ⟨ci.st.sub.trans (qB hj),fun m L e e0=> ?_,ci.st.keep,ci.st.nx⟩;by_cases hm:m=nx
   ·omega
   ·rw [lM _ _ hm] at e;exact ci.st.fresh m L e e0
  obtain ⟨iP,e1,e2,e3⟩:=(he.mono (qB hj)).Iy h3 (fun d hh=>(hd d hh).1);refine hK iP _ _ _ (ci.list pf ho hD hinv hst (fun d hh=>by rw [e2 d hh,(hd d hh).2]) e3 (fun i' nx' hne hnm' hj'=> ?_)) e1;rw [lM _ _ (fun e=>hne (ci.inj i' i nx' hnm' (by rw [e];exact hnm)))];exact hj'
 ·rw [yai (by simp)];obtain ⟨z,hz,hd⟩:=hd;obtain ⟨iP,e1,e2,e3⟩:=he.Iy (o:=o) (hz j) (fun d hh=>(hd d hh).1);exact hK iP j _ _ (ci.list pf ho hD ci.inv ci.st (fun d hh=>by rw [e2 d hh,(hd d hh).2]) e3 (fun _ _ _ _ h=>h)) e1
theorem CI.heavy (hgood:Good P ρ w0 n rec) (pf:PF ops) (ci:CI P ρ w0 ops N iw H0 j0 D listed bR env j H w nm) (he:ER ρ j N bR a) {h u:Nat} {o:Oper} (ho:ops[h]? =some o) (hv:jh o=true) (hD: ¬D h)
  (hcl: ∀i x,D i→(bY ops i).testBit x=true→D x) (hm: ∀x,(bY ops h).testBit x=true→listed x) (hu:(fq ops)[u]? =some h)
  (hDs: ∀i oi,D i→ops[i]? =some oi→jX ops i≤u) {k:T AV→Heap→Ob} {rest:List sJ}
  {fs:List (SB×Bool)} (hf:Told ρ fs) (hden:Ob.den ρ (gU P rec ops N k (.run o:: .uH (xX u (bY ops h) (kG ops))::rest) fs env H)) {K:Act→World→Prop}
  (hK: ∀iP env' j' H' a' w' fs',CI P ρ w0 ops N iw H0 j0 (fun x=>D x∨x=h) (fun x=>listed x∨x=h) iP env' j' H' w' nm→ER ρ j' N iP a'→Told ρ fs'→Ob.den ρ (gU P rec ops N k rest fs' env' H')→K a' w'):
  wpOp P ops Q h K a w:=by
 have hag: ∀t∈looks ops o,bR.get t=env.get t:=fun t ht=>by
  by_cases hw: ∃q oq,listed q∧ops[q]? =some oq∧oq.dst=some t
  ·obtain ⟨q,oq,h1,h2,h3⟩:=hw;exact ci.s1 t q oq h1 h2 h3
  ·rw [ci.s0 t fun q oq h1 h2 h3=>hw ⟨q,oq,h1,h2,h3⟩,ci.e0 t fun q oq h1 h2 h3=> ?_];rcases pf.reads h q o oq t ho h2 h3 ht with h4|h4
   ·exact hw ⟨q,oq,hm q h4,h2,h3⟩
   ·exact hD (hcl q h h1 h4)
 obtain ⟨g,z,fs',hgv,hz,hf',hd⟩:=YV hf hden;have hwant:=zpD he (by rw [Pn hag];exact hgv);have main: ∀(v:AV) (x:Value) (H':Heap) (j':J) (w':World),R ρ j' v x→Inv ρ w0 j' H' w'→St j H j' H'→
   Ob.den ρ (kD o.dst N env v fun env'=>gU P rec ops N k (.uH (xX u (bY ops h) (kG ops))::rest) fs' env' H')→K (a.put o.dst x) w':=by
  intro v x H' j' w' hR hinv hst hput;obtain ⟨env',h5,h6,h7⟩:=Kt hput;obtain ⟨aav,h8⟩:=zri h5;obtain ⟨iP,e1,e2,e3⟩:=(he.mono hst.sub).Iy hR (fun d hh=>(h6 d hh).1);have hne: ∀i,D i→i≠h:=fun i hi e=>hD (e▸hi);have hkeep: ∀i oi t,D i→ops[i]? =some oi→oi.dst=some t→env'.get t=env.get t:=fun i oi t hi hoi hdd=>h7 t (pf.Db i h oi o t (hne i hi) hoi ho hdd);have he0: ∀t,(∀i oi,(D i∨i=h)→ops[i]? =some oi→oi.dst≠some t)→env'.get t=iw.get t:=fun t ht=>by
   rw [h7 t (ht h o (.inr rfl) ho)];exact ci.e0 t fun i oi hi hoi=>ht i oi (.inl hi) hoi
  refine hK iP env' j' H' _ w' fs' ⟨hinv,ci.st.trans hst,fun i hi=>hi.imp (ci.sub i) id,he0,fun t ht=> ?_,fun t i oi hi hoi hdd=> ?_,fun i oi hi hl hoi=> ?_,fun i nx hi=>yad (ci.bnd i nx hi) hst.nx,ci.inj⟩ e1 hf' h8
  ·rw [e3 t (ht h o (.inr rfl) ho)];exact ci.s0 t fun i oi hi hoi=>ht i oi (.inl hi) hoi
  ·by_cases hih:i=h
   ·subst hih;rw [ho] at hoi;cases hoi;rw [e2 t hdd,(h6 t hdd).2]
   ·have DW:=hi.resolve_right hih;rw [e3 t (pf.Db i h oi o t hih hoi ho hdd),hkeep i oi t (ci.sub i DW) hoi hdd];exact ci.s1 t i oi DW hoi hdd
  ·have hih:i≠h:=fun e=>hl (.inr e);have wP:D i:=hi.resolve_right hih;have DW: ¬listed i:=fun e=>hl (.inl e);obtain ⟨kN,g',q1,q2,q3⟩:=ci.Iz i oi wP DW hoi;have hdst: ∀v,Am N env oi v→Am N env' oi v:=fun v hv d hd=>⟨(hv d hd).1,by rw [hkeep i oi d wP hoi hd];exact (hv d hd).2⟩;have q2':R8 ops iw env' kN i oi:=fun t ht=>⟨fun q oq hq hoq hdd=>by rw [(q2 t ht).1 q oq hq hoq hdd,hkeep q oq t (hcl i q wP hq) hoq hdd],(q2 t ht).2⟩;refine ⟨kN,g',q1,q2',?_⟩;rcases q3 with ⟨rfl,g2,v',g3,g4⟩|⟨g1,g2,v',ob,nx,g3,g4,g5,g6,g7,g8⟩|⟨g1,g2⟩
   ·have TJ:=zx8 g2;have hbit:(bY ops h).testBit i=false:=by
     cases hb:(bY ops h).testBit i with
     | false=>rfl
     | true=>exact absurd (hm i hb) DW
    have hst':=hDs i oi wP hoi;have hag': ∀t∈looks ops oi,env'.get t=kN.get t:=fun t ht=>by
     by_cases hw: ∃(q:Nat) (oq:Oper),ops[q]? =some oq∧oq.dst=some t
     ·obtain ⟨q,oq,w1,w2⟩:=hw;rcases pf.rer u h i q oi oq t hu hoi TJ hst' hbit w1 w2 ht with hq|hq
      ·exact ((q2' t ht).1 q oq hq w1 w2).symm
      ·have uniq: ∀q' uX,ops[q']? =some uX→uX.dst=some t→q'=q:=fun q' uX x1 x2=>ybu fun hn=>pf.Db q' q uX oq t hn x1 w1 x2 w2;rw [(q2' t ht).2 fun q' uX x0 x1 x2=> ?_]
       ·refine he0 t fun q' uX x0 x1 x2=> ?_;have:=uniq q' uX x1 x2;subst this;rcases x0 with x0|rfl
        ·have:=hDs q' uX x0 x1;omega
        ·have:=X5 pf.yQ hu;omega
       ·have:=uniq q' uX x1 x2;subst this;have:=Rb pf.yQ x0;omega
     ·rw [(q2' t ht).2 fun q oq _ w1 w2=>hw ⟨q,oq,w1,w2⟩];exact he0 t fun q oq _ w1 w2=>hw ⟨q,oq,w1,w2⟩
    have hmem:oi∈xX u (bY ops h) (kG ops):=Yu.2 ⟨_,Js.2 ⟨yg hoi,TJ,hst',hbit⟩,rfl⟩;rw [←Pn hag'] at q1;rcases zzl aav oi hmem with hno|⟨ab1,v1,c1,c2⟩
    ·have:=((zpE (ops:=ops) (env:=env') hf' (o:=oi)).2.1 hno).1;exact absurd (zGo this q1) (by simp)
    ·exact .inl ⟨rfl,g2,v1,by rw [←Yy (Qp hag')];exact c1,fun d hh=>⟨(g4 d hh).1,c2 d hh⟩⟩
   ·have hlt:=ci.inv.used nx ob g5;have aaX:0<nx:=by
     rcases ybk nx with h0|h0
     ·subst h0;obtain ⟨kk,rfl⟩:=ci.inv.z0 _ g5;exact absurd g4 (zqp _ _ _ _ _)
     ·exact h0
    refine .inr (.inl ⟨g1,g2,v',ob,nx,g3,g4,by rw [(hst.keep nx aaX g6 hlt).1];exact g5,?_,g7,hdst v' g8⟩);cases hj':j' nx with
    | none=>rfl
    | some L=>have:=hst.fresh nx L hj' g6;omega
   ·exact (.inr (.inr ⟨g1,g2.elim fun z hz=>⟨z,hz.1,hdst _ hz.2⟩⟩))
 unfold wpOp;simp only [ho];rw [hwant];cases g with
 | true=>
  rw [yak rfl];have hd:Ob.den ρ (wM P rec o env H fun env v H=>kD o.dst N env v fun env'=>gU P rec ops N k (.uH (xX u (bY ops h) (kG ops))::rest) fs' env' H):=hd;unfold wM at hd;rw [zza hv (pf.abl h o ho)] at hd;have hd:Ob.den ρ (Dw.heavy P rec o.op env H fun v H=>kD o.dst N env v fun env'=>gU P rec ops N k (.uH (xX u (bY ops h) (kG ops))::rest) fs' env' H):=hd;rw [←zrF (Qp hag)] at hd;refine .inl (Oper.wp_mono (fun a' w' hp=> ?_) (ztG (Q:=Q) hgood ci.inv he hd));obtain ⟨x,rfl,v,H',j',h1,h2,h3,h4⟩:=hp;exact main v x H' j' w' h1 h2 h3 h4
 | false=>
  rw [yai (by simp)];exact main z undef H j w (hz rfl j) ci.inv (St.refl j H) hd
def F7 (ops:Array Oper) (s:Nat):List PO→List sJ
 | [] => []
 | h::rest=> .run h.o:: .uH (xX s h.m (kG ops))::xM (kG ops) (Nat.succ s) rest
theorem Yr (ops:Array Oper) (s:Nat) (l:List PO):xM (kG ops) s l=Ah s (kG ops)++F7 ops s l:=by
 cases l with
 | nil=>simp [xM,F7]
 | cons h l=>simp [xM,F7]
theorem zA1 (hgood:Good P ρ w0 n rec) (pf:PF ops) {k:T AV→Heap→Ob} (hQ: ∀a' w',Az ρ w0 j0 H0 N k a' w'→Q Exit.normal a' w'):
  ∀ (fuel:Nat) (listed:Array Bool) (s:Nat) (fs:List (SB×Bool)) (bR env:T AV) (j:J) (H:Heap) (a:Act) (w:World) (nm:Nat→Option Nat),listed.size=ops.size→Gi ops listed→listed.count false≤fuel→
   (∀ u h,(fq ops)[u]? =some h→(listed.getD h false=true↔u<s))→CI P ρ w0 ops N iw H0 j0 (DD ops s ops.size) (fun i=>listed.getD i false=true) bR env j H w nm→ER ρ j N bR a→
   Ob.den ρ (gU P rec ops N k (F7 ops s ((iY ops).drop s)) fs env H)→Told ρ fs→wpAny P .any ops Q fuel listed a w:=by
 have fin: ∀(listed:Array Bool) (s:Nat) (fs:List (SB×Bool)) (bR env:T AV) (j:J) (H:Heap) (a:Act) (w:World) (nm:Nat→Option Nat),listed.size=ops.size→Gi ops listed→
   (∀ u h,(fq ops)[u]? =some h→(listed.getD h false=true↔u<s))→CI P ρ w0 ops N iw H0 j0 (DD ops s ops.size) (fun i=>listed.getD i false=true) bR env j H w nm→ER ρ j N bR a→
   Ob.den ρ (gU P rec ops N k (F7 ops s ((iY ops).drop s)) fs env H)→Region.ready .any ops listed= []→Q .normal a w:=by
  intro listed s fs bR env j H a w nm hsz hcl hh ci he hden hr;have hall:=zvV pf.yQ hsz hr;have hdrop:(iY ops).drop s= []:=by
   rw [ydc,PY];apply ybu;intro hn;have hx:(fq ops)[s]? =some (fq ops)[s]:=yam (by omega);obtain ⟨o,ho,_⟩:=Fh.1 ⟨s,hx⟩;have:=(hh s _ hx).1 (hall _ (yar.1 ho).1);omega
  rw [hdrop] at hden;refine hQ a w ⟨env,H,j,⟨he.size,he.le,fun t ht=> ?_,?_⟩,ci.inv,ci.st,hden⟩
  all_goals
   have heq: ∀t,bR.get t=env.get t:=fun t=>by
    by_cases hw: ∃(q:Nat) (oq:Oper),ops[q]? =some oq∧oq.dst=some t
    ·obtain ⟨q,oq,h1,h2⟩:=hw;exact ci.s1 t q oq (hall q (yar.1 h1).1) h1 h2
    ·rw [ci.s0 t fun q oq _ h1 h2=>hw ⟨q,oq,h1,h2⟩,ci.e0 t fun q oq _ h1 h2=>hw ⟨q,oq,h1,h2⟩]
  ·have:=he.get t ht;unfold dK at this ⊢;rw [heq t] at this;exact this
  ·have:=he.dF;unfold dK at this ⊢;rw [heq bS] at this;exact this
 intro fuel
 induction fuel with
 | zero=>
  intro listed s fs bR env j H a w nm hsz hcl hc hh ci he hden hf;have hr:Region.ready .any ops listed= []:=by
   rw [List.eq_nil_iff_forall_not_mem];intro i hi;have:=count_set (mem_ready.1 hi).1;omega
  exact ⟨hr,fin listed s fs bR env j H a w nm hsz hcl hh ci he hden hr⟩
 | succ fuel ih=>
  intro listed s fs bR env j H a w nm hsz hcl hc hh ci he hden hf;refine ⟨fin listed s fs bR env j H a w nm hsz hcl hh ci he hden,fun i hi=> ?_⟩;obtain ⟨hun,o,ho,aaz⟩:=mem_ready.1 hi;have hlt:=(yar.1 ho).1;have hun': ¬listed.getD i false=true:=by
   rw [yaA,yaM (by omega)] at hun ⊢;simp only [yb1] at hun ⊢;rw [hun];simp
  have H6: ∀x,(bY ops i).testBit x=true→listed.getD x false=true:=fun x hx=>Yv hcl i o ho aaz x hx;have hlc: ∀q x,listed.getD q false=true→(bY ops q).testBit x=true→listed.getD x false=true:=fun q x hq hx=>by
   cases hoq:ops[q]? with
   | none=>rw [Ke hoq] at hx;cases hx
   | some oq=>exact Yv hcl q oq hoq (fun e h1 h2=>hcl q oq hoq hq e h1 h2) x hx
  have hnew:(fun x=>listed.getD x false=true∨x=i)=fun x=>(listed.setIfInBounds i true).getD x false=true:=funext fun x=>propext (by
   by_cases hx:x=i
   ·subst hx;constructor
    ·intro _;rw [yaA,ycy,yak (by omega)];rfl
    ·intro _;exact .inr rfl
   ·rw [ydX false (ydk hx)];exact ⟨fun h=>h.resolve_right hx,.inl⟩)
  have hsz':(listed.setIfInBounds i true).size=ops.size:=by simp [hsz]
  have hcl':=zvM hcl hi;have hc':(listed.setIfInBounds i true).count false≤fuel:=by have:=count_set hun;omega
  cases hv:jh o with
  | false=>
   have hD:DD ops s ops.size i:=by
    refine ⟨o,ho,.inl ⟨hv,?_⟩⟩;rcases KP (ops:=ops) i with h0|⟨u,x,h1,h2,h3⟩
    ·omega
    ·have:=(hh u x h1).1 (H6 x h2);omega
   refine ci.late pf he ho hD hun' H6 hlc fun iP j' a' w' C8 he'=> ?_;rw [hnew] at C8;refine ih _ s fs iP env j' H a' w' nm hsz' hcl' hc' (fun u h hu=> ?_) C8 he' hden hf;have hne:i≠h:=fun e=>by
    subst e;obtain ⟨o',h1,h2⟩:=Fh.1 ⟨u,hu⟩;rw [ho] at h1;cases h1;rw [hv] at h2;cases h2
   rw [ydX false hne];exact hh u h hu
  | true=>
   obtain ⟨u,hu⟩:=Fh.2 ⟨o,ho,hv⟩;have fD:u=s:=by
    have h1: ¬u<s:=fun h=>hun' ((hh u i hu).2 h);apply ybu;intro hne;obtain ⟨v,rfl⟩: ∃v,u=v+1:=⟨u-1,by omega⟩;have rF:v<(fq ops).length:=by have:=(yay.1 hu).1;omega
    have hx:(fq ops)[v]? =some (fq ops)[v]:=yam rF;have:=(hh v _ hx).1 (H6 _ (pf.chain v _ i hx hu));omega
   subst fD;have Uk:u<(iY ops).length:=by rw [PY];exact (yay.1 hu).1
   have hp:(iY ops)[u]? =some (iY ops)[u]:=yam Uk;obtain ⟨p1,p2,p3,p4⟩:=zyv hp;have hpi:(iY ops)[u].i=i:=by rw [hu] at p1;exact (yaC p1).symm
   have hpo:(iY ops)[u].o=o:=by rw [hpi,ho] at p2;exact (yaC p2).symm
   have hpm:(iY ops)[u].m=bY ops i:=by rw [p3,hpi]
   have hdrop:(iY ops).drop u=(iY ops)[u]::(iY ops).drop (u+1):=ycr Uk;rw [hdrop] at hden;have hden:Ob.den ρ (gU P rec ops N k (.run (iY ops)[u].o:: .uH (xX u (iY ops)[u].m (kG ops))::xM (kG ops) (u+1) ((iY ops).drop (u+1))) fs env H):=hden;rw [hpo,hpm] at hden;have hD: ¬DD ops u ops.size i:=by
    rintro ⟨o',h1,h2⟩;rw [ho] at h1;cases h1;rcases h2 with ⟨h2,_⟩|⟨_,v,h3,h4⟩
    ·rw [hv] at h2;cases h2
    ·have:=ztE hu h4;omega
   refine ci.heavy hgood pf he ho hv hD (fun x y hx hy=>zzD pf.yQ hx hy) H6 hu (fun x ox hx hox=> ?_) hf hden fun iP env' j' H' a' w' fs' C8 he' hf' Tk=> ?_
   ·obtain ⟨o',h1,h2⟩:=hx;rcases h2 with ⟨_,h2⟩|⟨_,v,h2,h3⟩
    ·omega
    ·have:=X5 pf.yQ h3;omega
   ·rw [hnew] at C8;rw [Yr] at Tk;obtain ⟨Dc,H2,Oe,Mw,Mf,hf2,Nb⟩:=JJ pf ops.toList (lu ops.toList) 0 fs' env' H' nm hf' (by simp) (by simp) (C8.congr (zCa hu ho hv)) Tk;refine ih _ (u+1) Mw iP Dc j' H2 a' w' Oe hsz' hcl' hc' (fun v x hx=> ?_) Mf he' Nb hf2;by_cases hxi:x=i
    ·subst hxi;have:=ztE hu hx;subst this;constructor
     ·intro _;omega
     ·intro _;rw [yaA,ycy,yak (by omega)];rfl
    ·rw [ydX false (ydk hxi),hh v x hx];have:v≠u:=fun e=>by subst e;rw [hu] at hx;exact hxi (yaC hx).symm
     omega
theorem Af (hmo:P.follows .mixedOrders=true) (hgood:Good P ρ w0 n rec):LJ P ρ w0 rec:=by
 intro id ops N env H k j a w h hi he;unfold Ri at h;simp only at h;split at h
 case h_2=>exact h.elim
 rename_i l hl;obtain ⟨pf,rfl⟩:=zoY hl;rw [Yr] at h;refine wp_region_any hmo ?_;have hfalse: ∀i,((Array.replicate ops.size false).getD i false=true)↔False:=fun i=>by
  rw [yaA,ydZ];split<;>simp
 have ci0:CI P ρ w0 ops N env H j (DD ops 0 0) (fun i=>(Array.replicate ops.size false).getD i false=true) env env j H w.drew (fun _=>none):=by
  refine ⟨hi.drew,St.refl j H,fun i h=>((hfalse i).1 h).elim,fun _ _=>rfl,fun _ _=>rfl,fun t i o h=>((hfalse i).1 h).elim,fun i o hD=> ?_,fun i nx h=>(by cases h),fun i i' nx h=>(by cases h)⟩;obtain ⟨o',_,h2⟩:=hD;rcases h2 with ⟨_,h2⟩|⟨_,u,h2,_⟩<;>omega
 obtain ⟨Dc,H2,Oe,Mw,Mf,hf2,Nb⟩:=JJ pf ops.toList (lu ops.toList) 0 [] env H (fun _=>none) (fun _ h=>by cases h) (by simp) (by simp) ci0 h;refine zA1 (k:=k .normal) (j0:=j) (H0:=H) hgood pf (fun a' w' hh=> ?_) ops.size _ 0 Mw env Dc j H2 a w.drew Oe (by simp) ?_ ?_ (fun u h hu=> ?_) Mf he (by simpa using Nb) hf2
 ·obtain ⟨env',H',j',h1,h2,h3,h4⟩:=hh;exact ⟨.normal,env',H',j',rfl,h1,h2,h3,h4⟩
 ·intro i o ho hl;exact ((hfalse i).1 hl).elim
 ·exact yau (Array.count_le_size) (by simp)
 ·constructor
  ·intro h;exact ((hfalse _).1 h).elim
  ·intro h;omega
end
end Go.Dw
namespace Go.Dw
mutual
theorem Ob.AQ {ρ:Val}: ∀ {o:Ob},o.good=true→o.den ρ
 | .ok,_=>trivial
 | .bad _ _,h=>by cases h
 | .all l,h=>Ob.SA (l:=l) h
 | .ite c t e,h=>by
  unfold Ob.good at h;split at h
  ·rename_i ht;exact ⟨fun _=>Ob.AQ ht,fun _=>Ob.AQ h⟩
  ·cases h
theorem Ob.SA {ρ:Val}: ∀ {l:List Ob},Ob.G8 l=true→Ob.GN ρ l
 | [], _=>trivial
 | o::l,h=>by
  unfold Ob.G8 at h;split at h
  ·rename_i ho;exact ⟨Ob.AQ ho,Ob.SA h⟩
  ·cases h
end
theorem inv0 {ρ:Val} (w:World):Inv ρ (Cx.plain w) (fun _=>none) ru w:=
 ⟨Fr.refl (Cx.plain w),(fun _ _ h=>by cases h),(fun _ _ h=>by cases h),(fun n o h=>by rw [show ru.m.get n=none from rfl] at h;cases h),(fun _ _ h=>by cases h),(fun _ _ _ _ _ h=>by cases h),
  (fun n v e g t sh ow h=>by rw [show ru.m.get n=none from rfl] at h;cases h),(fun g x h=>by rw [show ru.gw.get g=none from rfl] at h;cases h),(fun _ _ _ _ _ _ _ h=>by cases h),(fun _ _ h=>by cases h),(fun _ _ _ _ _ _ h=>by cases h),rfl,Nat.zero_lt_one,(fun o h=>by rw [show ru.m.get 0=none from rfl] at h;cases h),trivial⟩
theorem zA7 {P:Program} {ρ:Val} {w0:Cx}:nN P ρ w0 IW:=fun f args H l h=>by cases h
theorem zpv {ρ:Val} {j:J} {v:AV} {u:Value} {H:Heap} (hR:R ρ j v u) (h:Ob.den ρ (isTrue v H)):u= .bool true:=by
 unfold isTrue at h;split at h
 ·exact hR
 ·exact h.elim
 ·rename_i b _ _;have hR:u= .bool (b.den ρ):=hR;cases hb:b.den ρ with
  | true=>rw [hR,hb]
  | false=>exact (h.2 hb).elim
 ·exact h.elim
theorem zvP {P:Program} (hmo:P.follows .mixedOrders=true) {gH:FuncId→List AV→Heap→Option (List (AV×Heap))} {ρ:Val} {w:World} (hor:nN P ρ (Cx.plain w) gH) {n:Nat} {f:FuncId} {args:List AV} {vals:List Value} {H:Heap} {j:J}
  (hi:Inv ρ (Cx.plain w) j H w) (ha:RL ρ j args vals) (h:Ob.den ρ (ev P gH n (.call f args H isTrue))):Calls P f vals.toArray w fun e w'=>e= .returned (.bool true)∧RowKit.Below w.heap.size w w':=by
 have hg:=KV (w0:=Cx.plain w) hor (fun n rec hg=>Af hmo hg) n;refine yas ((hg.call f args H isTrue h).2 j w vals hi ha) fun e w' he=> ?_;obtain ⟨u,rfl,v,H',j',h1,h2,h3,h4⟩:=he;rw [zpv h1 h4];exact ⟨rfl,h2.fr.below⟩
open Go.RowKit Go.WideShapes Go.ChangeShapes in
theorem abp {H:Type} {enc:TypeId×Value→H} {P:Program} {f:Func} {s:ChangeSpec} {apart fresh handsOn again:Bool} {W W':World} {args:Array Value} {v:Value} {ds gs:List (DataW H)} {before pa pv:List MemPlace}
  (hW:DataW.Whole enc P f.params.toList s.vars apart W args.toList ds gs before)
  (hres: ∀(b:Nat) (sp:Nat→Bool) (hd:Bool),DataW.TrodAll enc P W' b sp hd f.resultTypes.toList (v.resultList f.resultTypes.size) (s.fn H (ds++gs)).results [])
  (hargs: ∀sp:Nat→Bool,(∀p∈before,sp p.block=true)→DataW.TrodAll enc P W' 0 sp true f.params.toList args.toList (s.fn H (ds++gs)).args pa)
  (hvars: ∀sp:Nat→Bool,(∀p∈before,sp p.block=true)→DataW.TrodVars enc P W' sp s.vars (s.fn H (ds++gs)).vars pv)
  (hps:before=pa++pv) (hb:Below W.heap.size W W')
  (hok: ∀(j:Nat) (t:TypeId) (r:Value),f.resultTypes[j]? =some t→(v.resultList f.resultTypes.size)[j]? =some r→Value.okWide P W' .any 0 t r):
  s.post enc P f apart fresh handsOn again W args v W':=by
 have hlt: ∀p∈before,p.block<W.heap.size:=fun p hp=>hW.lt p hp;have hold: ∀p∈before,(fun b=>decide (b<W.heap.size)) p.block=true:=fun p hp=>by simpa using hlt p hp
 refine ⟨ds,gs,before,[],pa,pv,hW,hres _ _ _,hargs _ hold,hvars _ hold,World.keptBut_mono (fun p hp=>⟨hp,?_⟩) (hb.frame (· ∈before)),fun _=> ?_⟩
 ·rw [hps,yaT] at hp;exact Or.inr hp
 ·obtain ⟨_,_,_,_,_,hz,hn⟩:=hW;refine ⟨hok,_,_,([]++pa)++pv,⟨[]++pa,pv,trodAll_append (hargs _ (fun _ _=>rfl)) (hres _ _ _),hvars _ (fun _ _=>rfl),rfl,?_,?_⟩,?_⟩
  ·intro b off hp;have hin:MemPlace.cell b off∈before:=by rw [hps];simpa using hp
   rw [hb.frozen (hlt _ hin)];exact hz b off hin
  ·intro ha;have:=hn ha;rw [hps] at this;simpa using this
  ·intro p hp _;rw [hps];simpa using hp
open Go.RowKit
def Val.mark (ρ:Val) (m:Nat→Bool):Val:=⟨ρ.i,fun n=>if n<1000000 then ρ.b n else m n,ρ.v⟩
def SB.small:SB→Bool
 | .lit _=>true
 | .var n=>Nat.blt n 1000000
 | .cmp _ _ _=>true
 | .not a=>a.small
 | .beq a b=>match a.small with|true=>b.small|false=>false
 | .and a b=>match a.small with|true=>b.small|false=>false
theorem zpX (ρ:Val) (m:Nat→Bool): ∀(l:List aO) (c:Nat),aN (ρ.mark m) l c=aN ρ l c
 | [], c=>rfl
 | f::l,c=>by
  unfold aN;rw [zpX ρ m l c];rfl
theorem SE.jT (ρ:Val) (m:Nat→Bool): ∀a:SE,a.den (ρ.mark m)=a.den ρ
 | .lit n=>rfl
 | .var i=>rfl
 | .bin o k a b=>by unfold SE.den;rw [SE.jT ρ m a,SE.jT ρ m b]
 | .wrap k a=>by unfold SE.den;rw [SE.jT ρ m a]
 | .dG l c=>by unfold SE.den;rw [zpX]
theorem SB.jT (ρ:Val) (m:Nat→Bool): ∀b:SB,b.small=true→b.den (ρ.mark m)=b.den ρ
 | .lit b,_=>rfl
 | .var n,h=>by
  have h:Nat.blt n 1000000=true:=h;rw [yaE] at h;show (if n<1000000 then ρ.b n else m n)=ρ.b n;rw [yak h]
 | .cmp o a b,_=>by unfold SB.den;rw [SE.jT,SE.jT]
 | .not a,h=>by unfold SB.den;rw [SB.jT ρ m a h]
 | .beq a b,h=>by
  unfold SB.small at h;split at h
  ·rename_i ha;unfold SB.den;rw [SB.jT ρ m a ha,SB.jT ρ m b h]
  ·cases h
 | .and a b,h=>by
  unfold SB.small at h;split at h
  ·rename_i ha;unfold SB.den;rw [SB.jT ρ m a ha,SB.jT ρ m b h]
  ·cases h
structure Leaf where
 v:AV
 rows:List (Nat×List AV)
 maps:List (Nat×List (AV×Option AV))
 gs:Nat
 own:List Nat
def yD (H:Heap) (n:Nat) (l:List AV):Bool:=
 match H.m.get n with
 | some (.cells v _ g c _ _)=>(match alive H.gw g c,Nat.beq v.n l.length with
  | true,true=>AV.pV (v.list 0 v.n) l
  | _,_=>false)
 | _=>false
def RS:Option AV→Option AV→Bool
 | none,none=>true
 | some a,some b=>AV.beq a b
 | _,_=>false
def LB:List (AV×Option AV)→List (AV×Option AV)→Bool
 | [], [] => true
 | a::l,b::m=>(match AV.beq a.1 b.1,RS a.2 b.2 with
  | true,true=>LB l m
  | _,_=>false)
 | _,_=>false
def CX (H:Heap) (n:Nat) (l:List (AV×Option AV)):Bool:=
 match H.m.get n with
 | some (.dm _ log)=>LB log l
 | _=>false
def yG (H:Heap) (n:Nat):Nat:=
 match H.m.get n with
 | some (.cells _ _ g _ _ _)=>g
 | _=>0
def Jd (H:Heap) (g:Nat):List (Nat×List AV)→Bool
 | [] => false
 | p::l=>match Nat.beq (yG H p.1) g with|true=>true|false=>Jd H g l
def pE (H:Heap):List (Nat×List AV)→Bool
 | [] => true
 | p::l=>match yD H p.1 p.2,Jd H (yG H p.1) l with|true,false=>pE H l|_,_=>false
theorem QI {H:Heap} {g:Nat}: ∀ {l:List (Nat×List AV)},Jd H g l=false→ ∀ {r:Nat×List AV},r∈l→yG H r.1≠g
 | [], _,_,h=>by cases h
 | x::l,ha,r,h=>by
  unfold Jd at ha;split at ha
  ·cases ha
  rename_i h1;rcases yac.1 h with rfl|h
  ·intro e;rw [e] at h1;simp [yca] at h1
  ·exact QI ha h
theorem WU {H:Heap}: ∀ {l:List (Nat×List AV)},pE H l=true→ ∀ {r r':Nat×List AV},r∈l→r'∈l→r.1≠r'.1→yG H r.1≠yG H r'.1
 | [], _,_,_,h,_,_=>by cases h
 | x::l,ha,r,r',h,h',hne=>by
  unfold pE at ha;split at ha
  case h_2=>cases ha
  rename_i h1 h2;rcases yac.1 h with h3|h3
  ·rcases yac.1 h' with h4|h4
   ·exact absurd (by rw [h3,h4]) hne
   ·rw [h3];exact fun e=>QI h2 h4 e.symm
  ·rcases yac.1 h' with h4|h4
   ·rw [h4];exact QI h2 h3
   ·exact WU ha h3 h4 hne
def z8 (H:Heap):List (Nat×List (AV×Option AV))→Bool
 | [] => true
 | p::l=>match CX H p.1 p.2 with|true=>z8 H l|false=>false
def Wo (H:Heap) (n:Nat):Bool:=
 match H.m.get n with
 | some (.cells _ _ g _ _ true)=>Nat.beq g n
 | _=>false
def FI (H:Heap):List Nat→Bool
 | [] => true
 | n::l=>match Wo H n with|true=>FI H l|false=>false
theorem Yt {H:Heap}: ∀ {l:List Nat},FI H l=true→ ∀ {n:Nat},n∈l→ ∃v e c sh,H.m.get n=some (.cells v e n c sh true)
 | [], _,_,h=>by cases h
 | x::l,ha,n,h=>by
  unfold FI at ha;split at ha
  case h_2=>cases ha
  rename_i h1;rcases yac.1 h with rfl|h
  ·unfold Wo at h1;split at h1
   ·rename_i hm;have h1:=bK h1;subst h1;exact ⟨_,_,_,_,hm⟩
   ·cases h1
  ·exact Yt ha h
def Leaf.fits (l:Leaf) (v:AV) (H:Heap):Bool:=
 match AV.beq v l.v,pE H l.rows,z8 H l.maps,Nat.beq H.gs l.gs with
 | true,true,true,true=>FI H l.own
 | _,_,_,_=>false
def cK:List Leaf→Nat→AV→Heap→Ob
  | [], _, _, _ => .bad 95 ""
  | l::r,i,v,H=>match l.fits v H with
    | true => qJ (Nat.add 1000000 i) fun n => .ite (.var n) .ok (.bad 96 "")
    | false=>cK r (Nat.succ i) v H
def RZ:SB→Option Nat
 | .var n=>(match Nat.ble 1000000 n with|true=>some (Nat.sub n 1000000)|false=>none)
 | _=>none
def OL:BinOp→Option BinOp
 | .eql=>some .neq| .neq=>some .eql| .lss=>some .geq| .geq=>some .lss| .leq=>some .gtr| .gtr=>some .leq
 | _=>none
def RJ:BinOp→BinOp
 | .lss=> .gtr| .gtr=> .lss| .leq=> .geq| .geq=> .leq
 | o=>o
def R4:BinOp→Bool
 | .eql| .neq| .lss| .leq| .gtr| .geq=>true
 | _=>false
def LU (pre:List (SB×Bool)) (o:BinOp) (a b:SE):Option Bool:=
 match vR (.cmp o a b) pre with
 | some c=>some c
 | none=>match OL o with
  | some o'=>(match vR (.cmp o' a b) pre with|some true=>some false|some false=>some true|none=>none)
  | none=>none
def qL (pre:List (SB×Bool)):SB→Option Bool
 | .lit b=>some b
 | .not a=>(match vR (.not a) pre with
  | some b=>some b
  | none=>match qL pre a with|some true=>some false|some false=>some true|none=>none)
 | .and a b=>(match vR (.and a b) pre with
  | some c=>some c
  | none=>match qL pre a with
   | some false=>some false
   | some true=>qL pre b
   | none=>match qL pre b with|some false=>some false|_=>none)
 | .cmp o a b=>(match LU pre o a b with
  | some c=>some c
  | none=>match R4 o with
   | true=>LU pre (RJ o) b a
   | false=>none)
 | c=>vR c pre
def uE (pre:List (SB×Bool)):SB→SB
 | .lit b=> .lit b
 | .not a=>(match qL pre (.not a) with
  | some b=> .lit b
  | none=>mkNot (uE pre a))
 | .and a b=>(match qL pre (.and a b) with
  | some c=> .lit c
  | none=>mkAnd (uE pre a) (uE pre b))
 | c=>(match qL pre c with
  | some b=> .lit b
  | none=>c)
def tell (pre:List (SB×Bool)):SB→Bool→List (SB×Bool)
 | .not a,b=>tell pre a (match b with|true=>false|false=>true)
 | .and a b,true=>tell (tell pre a true) b true
 | c,b=>pre++ [(c,b)]
mutual
def Ob.paths (pre:List (SB×Bool)):Ob→Option (List (List (SB×Bool)×Nat))
 | .ok=>none
 | .bad _ _=>none
 | .all l=>Ob.Iu pre l
 | .ite c t e=>match RZ c with
  | some i=>(match t,e with
   | .ok,.bad _ _=>some [(pre,i)]
   | _,_=>none)
  | none=>match c.small with
   | false=>none
   | true=>match uE pre c with
    | .lit true=>Ob.paths pre t
    | .lit false=>Ob.paths pre e
    | c=>match qL pre c with
     | some true=>Ob.paths pre t
     | some false=>Ob.paths pre e
     | none=>match Ob.paths (tell pre c true) t,Ob.paths (tell pre c false) e with
      | some a,some b=>some (a++b)
      | _,_=>none
def Ob.Iu (pre:List (SB×Bool)):List Ob→Option (List (List (SB×Bool)×Nat))
 | [] => some []
 | o::l=>match Ob.paths pre o,Ob.Iu pre l with
  | some a,some b=>some (a++b)
  | _,_=>none
end
theorem zvq {n:Nat} (h:Nat.ble 1000000 n=true):1000000+Nat.sub n 1000000=n∧ ¬n<1000000:=by
 have h:=yal h;have e:Nat.sub n 1000000=n-1000000:=rfl;rw [e];omega
theorem zyg {c:SB} {i:Nat} (h:RZ c=some i): ∃n,c= .var n∧1000000+i=n∧ ¬n<1000000:=by
 unfold RZ at h;split at h
 case h_2=>cases h
 rename_i n;split at h
 case h_2=>cases h
 rename_i hn;have h:=yaC h;obtain ⟨h1,h2⟩:=zvq hn;exact ⟨n,rfl,by rw [←h];exact h1,h2⟩
theorem zo5 {ρ:Val} {o o':BinOp} {a b:SE} (h:OL o=some o'):SB.den ρ (.cmp o a b)= !(SB.den ρ (.cmp o' a b)):=by
 cases o<;>simp only [OL] at h<;>cases h<;>simp only [SB.den,mX]
 ·cases hh:(a.den ρ==b.den ρ)<;>simp_all [bne]
 ·cases hh:(a.den ρ==b.den ρ)<;>simp_all [bne]
 all_goals
  rw [←decide_not];congr 1;exact propext (by omega)
theorem zuz {ρ:Val} {o:BinOp} {a b:SE} (h:R4 o=true):SB.den ρ (.cmp (RJ o) b a)=SB.den ρ (.cmp o a b):=by
 have he:(b.den ρ==a.den ρ)=(a.den ρ==b.den ρ):=by
  rw [ycM,ycz,ycz];exact ⟨Eq.symm,Eq.symm⟩
 cases o<;>simp only [R4] at h<;>first|cases h|skip
 all_goals simp only [RJ,SB.den,mX]
 ·exact he
 ·unfold bne;rw [he]
theorem znt {ρ:Val} {pre:List (SB×Bool)} (ht:Told ρ pre) {o:BinOp} {x y:SE} {b':Bool} (h:LU pre o x y=some b'):SB.den ρ (.cmp o x y)=b':=by
 unfold LU at h;split at h
 ·rename_i hb;cases h;exact ug ht hb
 ·split at h
  ·rename_i o' ho;split at h
   ·rename_i hb;cases h;rw [zo5 ho,ug ht hb];rfl
   ·rename_i hb;cases h;rw [zo5 ho,ug ht hb];rfl
   ·cases h
  ·cases h
theorem o9 {ρ:Val} {pre:List (SB×Bool)} (ht:Told ρ pre): ∀ {c:SB} {b:Bool},qL pre c=some b→c.den ρ=b
 | .lit b,b',h=>by cases h;rfl
 | .var n,b',h=>ug ht h
 | .beq x y,b',h=>ug ht h
 | .not a,b',h=>by
  unfold qL at h;split at h
  ·rename_i hb;cases h;exact ug ht hb
  ·split at h
   ·rename_i ha;cases h;show (!(a.den ρ))=false;rw [o9 ht ha];rfl
   ·rename_i ha;cases h;show (!(a.den ρ))=true;rw [o9 ht ha];rfl
   ·cases h
 | .and x y,b',h=>by
  unfold qL at h;split at h
  ·rename_i hb;cases h;exact ug ht hb
  ·split at h
   ·rename_i ha;cases h;show (x.den ρ&&y.den ρ)=false;rw [o9 ht ha];rfl
   ·rename_i ha;show (x.den ρ&&y.den ρ)=b';rw [o9 ht ha,o9 ht h];rfl
   ·split at h
    ·rename_i ha;cases h;show (x.den ρ&&y.den ρ)=false;rw [o9 ht ha];simp
    ·cases h
 | .cmp o x y,b',h=>by
  unfold qL at h;split at h
  ·rename_i hb;cases h;exact znt ht hb
  ·split at h
   ·rename_i ho;rw [←zuz ho];exact znt ht h
   ·cases h
theorem Fa {ρ:Val} {l:List (SB×Bool)} {c:SB} {b:Bool} (h:Told ρ l) (hc:c.den ρ=b):Told ρ (l++ [(c,b)]):=fun x hx=>by
 rcases yaT.1 hx with hx|hx
 ·exact h x hx
 ·rw [yaF] at hx;subst hx;exact hc
theorem JL {ρ:Val} {pre:List (SB×Bool)} (ht:Told ρ pre): ∀c:SB,(uE pre c).den ρ=c.den ρ
 | .lit b=>rfl
 | .not a=>by
  unfold uE;split
  ·rename_i h;exact (o9 ht h).symm
  ·rw [rX,JL ht a];rfl
 | .and a b=>by
  unfold uE;split
  ·rename_i h;exact (o9 ht h).symm
  ·rw [xP,JL ht a,JL ht b];rfl
 | .var n=>by
  unfold uE;split
  ·rename_i h;exact (o9 ht h).symm
  ·rfl
 | .cmp o a b=>by
  unfold uE;split
  ·rename_i h;exact (o9 ht h).symm
  ·rfl
 | .beq a b=>by
  unfold uE;split
  ·rename_i h;exact (o9 ht h).symm
  ·rfl
theorem Ff {ρ:Val}: ∀(c:SB) (pre:List (SB×Bool)) (b:Bool),Told ρ pre→c.den ρ=b→Told ρ (tell pre c b)
 | .not a,pre,b,ht,h=>by
  unfold tell;refine Ff a pre _ ht ?_;have h:(!(a.den ρ))=b:=h;cases b<;>cases ha:a.den ρ<;>simp_all
 | .and a b,pre,true,ht,h=>by
  unfold tell;have h:(a.den ρ&&b.den ρ)=true:=h;rw [yba] at h;exact Ff b _ _ (Ff a pre _ ht h.1) h.2
 | .and a b,pre,false,ht,h=>Fa ht h
 | .lit _,pre,b,ht,h=>by unfold tell;exact Fa ht h
 | .var _,pre,b,ht,h=>by unfold tell;exact Fa ht h
 | .cmp _ _ _,pre,b,ht,h=>by unfold tell;exact Fa ht h
 | .beq _ _,pre,b,ht,h=>by unfold tell;exact Fa ht h
mutual
theorem rT {ρ:Val} {m:Nat→Bool} {ps:List (List (SB×Bool)×Nat)} (hm: ∀p∈ps,Told ρ p.1→m (1000000+p.2)=true):
  ∀ {o:Ob} {pre:List (SB×Bool)} {qs:List (List (SB×Bool)×Nat)},o.paths pre=some qs→(∀q∈qs,q∈ps)→Told ρ pre→o.den (ρ.mark m)
 | .ok,pre,qs,h,_,_=>by unfold Ob.paths at h;cases h
 | .bad _ _,pre,qs,h,_,_=>by unfold Ob.paths at h;cases h
 | .all l,pre,qs,h,hq,ht=>by
  unfold Ob.paths at h;exact UL (l:=l) hm h hq ht
 | .ite c t e,pre,qs,h,hq,ht=>by
  unfold Ob.paths at h;split at h
  ·rename_i i hi;split at h
   ·cases h;obtain ⟨n,rfl,e1,e2⟩:=zyg hi;have:=hm (pre,i) (hq _ (by simp)) ht;rw [e1] at this;have hd:SB.den (ρ.mark m) (.var n)=true:=by
     show (if n<1000000 then ρ.b n else m n)=true;rw [yai e2];exact this
    exact ⟨fun _=>trivial,fun hf=>by rw [hd] at hf;cases hf⟩
   ·cases h
  ·split at h
   ·cases h
   ·rename_i hs;have hd:=SB.jT ρ m c hs;have hsi:=JL ht c;split at h
    ·rename_i hl;rw [hl] at hsi;have hc:c.den ρ=true:=hsi.symm;exact ⟨fun _=>rT hm h hq ht,fun hf=>(by rw [hd,hc] at hf;cases hf)⟩
    ·rename_i hl;rw [hl] at hsi;have hc:c.den ρ=false:=hsi.symm;exact ⟨fun hf=>(by rw [hd,hc] at hf;cases hf),fun _=>rT hm h hq ht⟩
    ·split at h
     ·rename_i NU;have hc:=o9 ht NU;rw [hsi] at hc;exact ⟨fun _=>rT hm h hq ht,fun hf=>(by rw [hd,hc] at hf;cases hf)⟩
     ·rename_i NU;have hc:=o9 ht NU;rw [hsi] at hc;exact ⟨fun hf=>(by rw [hd,hc] at hf;cases hf),fun _=>rT hm h hq ht⟩
     ·split at h
      ·rename_i a b h1 h2;cases h;exact ⟨fun hc=>rT hm h1 (fun q hq'=>hq q (by simp [hq'])) (Ff _ _ _ ht (by rw [hsi,←hd];exact hc)),fun hc=>rT hm h2 (fun q hq'=>hq q (by simp [hq'])) (Ff _ _ _ ht (by rw [hsi,←hd];exact hc))⟩
      ·cases h
theorem UL {ρ:Val} {m:Nat→Bool} {ps:List (List (SB×Bool)×Nat)} (hm: ∀p∈ps,Told ρ p.1→m (1000000+p.2)=true):
  ∀ {l:List Ob} {pre:List (SB×Bool)} {qs:List (List (SB×Bool)×Nat)},Ob.Iu pre l=some qs→(∀q∈qs,q∈ps)→Told ρ pre→Ob.GN (ρ.mark m) l
 | [], _,_,_,_,_=>trivial
 | o::l,pre,qs,h,hq,ht=>by
  unfold Ob.Iu at h;split at h
  ·rename_i a b h1 h2;cases h;exact ⟨rT hm h1 (fun q hq'=>hq q (by simp [hq'])) ht,UL hm h2 (fun q hq'=>hq q (by simp [hq'])) ht⟩
  ·cases h
end
theorem Qj {ρ:Val} {v:AV} {H:Heap}: ∀ {ls:List Leaf} {i:Nat},Ob.den ρ (cK ls i v H)→ ∃k l,ls[k]? =some l∧l.fits v H=true∧ρ.b (1000000+(i+k))=true
 | [], i,h=>h.elim
 | l::r,i,h=>by
  unfold cK at h;split at h
  ·rename_i hf;rw [vJ] at h;refine ⟨0,l,rfl,hf,?_⟩;cases hb:ρ.b (1000000+(i+0)) with
   | true=>rfl
   | false=>exact (h.2 hb).elim
  ·obtain ⟨k,l',h1,h2,h3⟩:=Qj h;refine ⟨k+1,l',h1,h2,?_⟩;rw [show i+(k+1)=Nat.succ i+k by omega];exact h3
theorem zA5 {P:Program} (hmo:P.follows .mixedOrders=true) {gH:FuncId→List AV→Heap→Option (List (AV×Heap))} {x:Cx} {ρ:Val} {w:World} {n:Nat} {f:FuncId} {args:List AV} {vals:List Value} {H:Heap} {j:J} {ls:List Leaf} {asm:List (SB×Bool)} {ps:List (List (SB×Bool)×Nat)}
  (hor: ∀m,nN P (ρ.mark m) x gH) (hi: ∀m,Inv (ρ.mark m) x j H w) (ha: ∀m,RL (ρ.mark m) j args vals) (ht:Told ρ asm)
  (h:(ev P gH n (.call f args H (cK ls 0))).paths asm=some ps):
  Calls P f vals.toArray w fun e w'=> ∃p∈ps,Told ρ p.1∧ ∃l,ls[p.2]? =some l∧ ∃m u v j' H',e= .returned u∧R (ρ.mark m) j' v u∧Inv (ρ.mark m) x j' H' w'∧St j H j' H'∧l.fits v H'=true:=by
 classical
 let m:Nat→Bool:=fun k=>decide (∃p∈ps,1000000+p.2=k∧Told ρ p.1)
 have hm: ∀p∈ps,Told ρ p.1→m (1000000+p.2)=true:=fun p hp ht=>by
  show decide _=true;exact ya1 ⟨p,hp,rfl,ht⟩
 have hd:=rT hm h (fun q hq=>hq) ht;have hg:=KV (w0:=x) (hor m) (fun n rec hg=>Af hmo hg) n;refine yas ((hg.call f args H (cK ls 0) hd).2 j w vals (hi m) (ha m)) fun e w' he=> ?_;obtain ⟨u,rfl,v,H',j',h1,h2,h3,h4⟩:=he;obtain ⟨k,l,h5,h6,h7⟩:=Qj h4;have h7:(if 1000000+(0+k)<1000000 then ρ.b (1000000+(0+k)) else m (1000000+(0+k)))=true:=h7;rw [yai (by omega)] at h7;obtain ⟨p,hp,hk,hto⟩:=ybB h7;have:p.2=k:=by omega
 subst this;exact ⟨p,hp,hto,l,h5,m,u,v,j',H',rfl,h1,h2,h3,h6⟩
theorem zGa {l:Leaf} {v:AV} {H:Heap} (h:l.fits v H=true):v=l.v∧pE H l.rows=true∧z8 H l.maps=true∧H.gs=l.gs∧FI H l.own=true:=by
 unfold Leaf.fits at h;split at h
 ·rename_i h1 h2 h3 h4;exact ⟨AV.beq_eq h1,h2,h3,bK h4,h⟩
 ·cases h
theorem Ce {H:Heap} {n:Nat} {l:List AV} (h:yD H n l=true): ∃v e g c s o,H.m.get n=some (.cells v e g c s o)∧alive H.gw g c=true∧v.n=l.length∧ ∀i (hi:i<l.length),v.get i=l[i]:=by
 unfold yD at h;split at h
 case h_2=>cases h
 rename_i v e g c s o hm;split at h
 case h_2=>cases h
 rename_i ha hn;have hn:=bK hn;have hb:=AV.sQ h;refine ⟨v,e,g,c,s,o,hm,ha,hn,fun i hi=> ?_⟩;have h1:=Vec.AX v.n v 0 i (by omega);rw [hb,yam hi] at h1;rw [yaC h1,yaq]
theorem Inv.IB {ρ:Val} {x:Cx} {j:J} {H:Heap} {w:World} (hi:Inv ρ x j H w) {n:Nat} {L:Loc} {l:List AV} (hj:j n=some L) (hr:yD H n l=true):
  ∃ vals arr e fr,w.heap[L.blk]? =some (.cells arr e fr)∧RL ρ j l vals∧(∀(i:Nat) (y:Value),vals[i]? =some y→arr[L.off+i]? =some y)∧L.q=none∧(x.own L.blk→fr=(0,0)):=by
 obtain ⟨v,e,gr,c,s,o,hm,ha,hn,hg⟩:=Ce hr;have hrow:H.row n=some v:=by unfold Heap.row;rw [hm];simp only [ha]
 obtain ⟨arr,e',fr,h1,h2,h3⟩:=hi.row hj hrow;have hq:=hi.lJ hj hm;refine ⟨(List.range l.length).map fun i=>arr.getD (L.off+i) undef,arr,e',fr,h1,RL.BG (by simp) fun i a hia=> ?_,fun i y hy=> ?_,hq,fun ho=>hi.fz n L hj hq ho _ _ _ h1⟩
 ·have hlt:i<l.length:=by
   rcases ybT i l.length with h'|h'
   ·exact h'
   ·rw [yaZ h'] at hia;cases hia
  obtain ⟨y,h4,h5⟩:=h3 i (by omega);refine ⟨y,by simp [hlt,h4],?_⟩;rw [hg i hlt] at h5;rw [yam hlt] at hia;cases hia;exact h5
 ·have hlt:i<l.length:=by
   rcases ybT i l.length with h'|h'
   ·exact h'
   ·rw [yaZ (by simpa using h')] at hy;cases hy
  obtain ⟨z,h4,_⟩:=h3 i (by omega);simp [hlt,h4] at hy;rw [h4,hy]
theorem Inv.abv {ρ:Val} {x:Cx} {j:J} {H:Heap} {w:World} (hi:Inv ρ x j H w) {n m:Nat} {L M:Loc} {l k:List AV} (hne:n≠m) (hgr:yG H n≠yG H m) (hn:j n=some L) (hm:j m=some M) (hl:yD H n l=true) (hk:yD H m k=true) (hb:L.blk=M.blk): ¬x.own L.blk:=by
 obtain ⟨v,e,g0,c,s,o,h1,_⟩:=Ce hl;obtain ⟨v',e',g0',c',s',o',h2,_⟩:=Ce hk;unfold yG at hgr;rw [h1,h2] at hgr;obtain ⟨_,_,_,_,_,_,_,_,_,_,_,_,h3,h4,h5,h6⟩:=hi.sep n m L M hne hn hm (hi.lJ hn h1) (hi.lJ hm h2) hb;rw [h1] at h3;cases h3;rw [h2] at h4;cases h4;cases o with
 | true=>exact absurd (h6 rfl).1 hgr
 | false=>
  obtain ⟨ob,g1,g2⟩:=hi.obj n L hn;rw [h1] at g1;cases g1;have:=g2.2.1
  rwa [yai (by decide)] at this
theorem Inv.abu {ρ:Val} {x:Cx} {j:J} {H:Heap} {w:World} (hi:Inv ρ x j H w) {n m:Nat} {L M:Loc} {l:List AV} {k:List (AV×Option AV)} (hn:j n=some L) (hm:j m=some M) (hl:yD H n l=true) (hk:CX H m k=true):L.blk≠M.blk:=fun hb=>by
 obtain ⟨v,e,g0,c,s,o,h1,_⟩:=Ce hl;unfold CX at hk;split at hk
 case h_2=>cases hk
 rename_i kn log h2;have hne:n≠m:=fun e=>by subst e;rw [h1] at h2;cases h2
 obtain ⟨_,_,_,_,_,_,_,_,_,_,_,_,h3,h4,h5,h6⟩:=hi.sep n m L M hne hn hm (hi.lJ hn h1) (hi.q hm h2 (by intro e;cases e)) hb;rw [h2] at h4;cases h4
theorem zxN {a b:Option AV} (h:RS a b=true):a=b:=by
 cases a<;>cases b<;>simp only [RS] at h<;>first|rfl|rw [AV.beq_eq h]|cases h
theorem zpj: ∀ {a b:List (AV×Option AV)},LB a b=true→a=b
 | [], [], _=>rfl
 | [], _::_,h=>by cases h
 | _::_,[],h=>by cases h
 | x::a,y::b,h=>by
  unfold LB at h;split at h
  ·rename_i h1 h2;rw [zpj h,Prod.ext (AV.beq_eq h1) (zxN h2)]
  ·cases h
theorem Inv.abg {ρ:Val} {x:Cx} {j:J} {H:Heap} {w:World} (hi:Inv ρ x j H w) {n:Nat} {L:Loc} {l:List (AV×Option AV)} (hj:j n=some L) (hr:CX H n l=true):
  ∃ arr clock dz eZ m1,w.heap[L.blk]? =some (.map arr clock)∧x.w.heap[L.blk]? =some (.map dz eZ)∧(jE arr∧kI arr clock)∧RX ρ j l m1∧ ∀k,dB arr k=nV (dB dz) m1 k:=by
 unfold CX at hr;split at hr
 case h_2=>cases hr
 rename_i kn log hm;rw [←zpj hr];obtain ⟨ob,h1,h2⟩:=hi.obj n L hj;rw [hm] at h1;cases h1;obtain ⟨_,_,_,arr,clock,dz,eZ,m0,m1,h3,h4,h5,_,h7,_,h9⟩:=h2;exact ⟨arr,clock,dz,eZ,m1,h3,h4,⟨h5.1,h5.2.1⟩,h7,h9⟩
inductive Sh where
 | own (row:List AV)
 | ro (row:List AV)
 | dm (kn:List (AV×Option AV))
def Sh.obj (s:Sh) (n:Nat):Obj:=
 match s with
 | .own row=> .cells (Vec.ofList row) 0 n none false true
 | .ro row=> .cells (Vec.ofList row) 0 n none false false
 | .dm kn=> .dm kn []
def Sh.zn:Sh→Bool
 | .ro _=>true
 | _=>false
def CJ:List Sh→Nat→T Obj→T Obj
 | [], _,t=>t
 | s::l,n,t=>CJ l (Nat.succ n) (t.set n (s.obj n))
def bn (k:Nat) (l:List Sh):Heap:=⟨CJ l 1 (T.set .leaf 0 (.gs k)),Nat.succ l.length,.leaf⟩
def aJ (l:List (Nat×Nat)):J:=fun n=>match n with|0=>none|k+1=>(l[k]?).map fun b=>⟨b.1,b.2,0,none⟩
theorem ZX: ∀(l:List Sh) (n:Nat) (t:T Obj) (i:Nat),(CJ l n t).get i=if n≤i∧i<n+l.length then (l[i-n]?).map (·.obj i) else t.get i
 | [], n,t,i=>by
  unfold CJ;rw [yai (by simp)]
 | s::l,n,t,i=>by
  unfold CJ;rw [ZX l,T.lZ];by_cases h1:n+1≤i∧i<n+1+l.length
  ·rw [yak h1,yak (by simp only [yaW];omega),show i-n=(i-(n+1))+1 by omega,yaN]
  ·rw [yai h1];by_cases h2:i=n
   ·subst h2;rw [yak rfl,yak (by simp only [yaW];omega),ydq];rfl
   ·rw [yai h2,yai (by simp only [yaW];omega)]
def wo (ρ:Val) (j:J) (x:Cx) (b:Nat×Nat):Sh→Prop
 | .own row=>x.K b.1∧b.2=0∧ ∃(vals:List Value) (arr:Array Value) (e:TypeId),x.w.heap[b.1]? =some (.cells arr e (0,0))∧RL ρ j row vals∧ ∀(i:Nat) (y:Value),vals[i]? =some y→arr[i]? =some y
 | .ro row=> ¬x.K b.1∧ ∃(vals:List Value) (arr:Array Value) (e:TypeId) (fr:Nat×Nat),x.w.heap[b.1]? =some (.cells arr e fr)∧RL ρ j row vals∧b.2+row.length≤arr.size∧ ∀(i:Nat) (y:Value),vals[i]? =some y→arr[b.2+i]? =some y
 | .dm kn=>x.K b.1∧b.2=0∧ ∃arr clock m0,x.w.heap[b.1]? =some (.map arr clock)∧(jE arr∧kI arr clock)∧RX ρ j kn m0∧ ∀k o,(k,o)∈m0→dB arr k=o
def oI (ρ:Val) (j:J) (x:Cx):List (Nat×Nat)→List Sh→Prop
 | [], [] => True
 | b::bl,s::l=>wo ρ j x b s∧oI ρ j x bl l
 | _,_=>False
def apart:List (Nat×Nat)→List Sh→Prop
 | b::bl,s::l=>(s.zn=false→ ∀(i:Nat) (b':Nat×Nat) (s':Sh),bl[i]? =some b'→l[i]? =some s'→s'.zn=false→b.1≠b'.1)∧apart bl l
 | _,_=>True
theorem oI.get {ρ:Val} {j:J} {x:Cx}: ∀ {bl:List (Nat×Nat)} {l:List Sh},oI ρ j x bl l→bl.length=l.length∧ ∀(i:Nat) (b:Nat×Nat) (s:Sh),bl[i]? =some b→l[i]? =some s→wo ρ j x b s
 | [], [], _=>⟨rfl,fun i b s h=>by cases h⟩
 | [], _::_,h=>h.elim
 | _::_,[],h=>h.elim
 | b::bl,s::l,h=>by
  obtain ⟨h1,h2⟩:=oI.get h.2;refine ⟨by simp [h1],fun i b' s' e1 e2=> ?_⟩;cases i with
  | zero=>cases e1;cases e2;exact h.1
  | succ i=>exact h2 i b' s' (by simpa using e1) (by simpa using e2)
theorem apart.get: ∀ {bl:List (Nat×Nat)} {l:List Sh},apart bl l→ ∀(i i':Nat) (b b':Nat×Nat) (s s':Sh),i<i'→bl[i]? =some b→l[i]? =some s→bl[i']? =some b'→l[i']? =some s'→s.zn=false→s'.zn=false→b.1≠b'.1
 | [], l,_,i,i',b,b',s,s',_,h,_,_,_,_,_=>by cases h
 | b0::bl,[],_,i,i',b,b',s,s',_,_,h,_,_,_,_=>by cases h
 | b0::bl,s0::l,h,0,i'+1,b,b',s,s',_,h1,h2,h3,h4,h5,h6=>by
  cases h1;cases h2;exact h.1 h5 i' b' s' (by simpa using h3) (by simpa using h4) h6
 | b0::bl,s0::l,h,i+1,i'+1,b,b',s,s',hlt,h1,h2,h3,h4,h5,h6=>
  apart.get h.2 i i' b b' s s' (by omega) (by simpa using h1) (by simpa using h2) (by simpa using h3) (by simpa using h4) h5 h6
theorem xV {bl:List (Nat×Nat)} {n:Nat} {L:Loc} (h:aJ bl n=some L): ∃k b,n=k+1∧bl[k]? =some b∧L=⟨b.1,b.2,0,none⟩:=by
 cases n with
 | zero=>cases h
 | succ k=>
  have h:(bl[k]?).map (fun b=>(⟨b.1,b.2,0,none⟩:Loc))=some L:=h;rw [yb4] at h;obtain ⟨b,h1,h2⟩:=h;exact ⟨k,b,rfl,h1,h2.symm⟩
theorem EZ {ρ:Val} {x:Cx} {k:Nat} {bl:List (Nat×Nat)} {l:List Sh} (hK: ∀b,x.K b→b<x.w.heap.size) (ho:oI ρ (aJ bl) x bl l) (ha:apart bl l) (hG:x.G k (aJ bl) x.w):Inv ρ x (aJ bl) (bn k l) x.w:=by
 obtain ⟨hlen,hok⟩:=ho.get;have hget: ∀i,(bn k l).m.get i=if 1≤i∧i<1+l.length then (l[i-1]?).map (·.obj i) else if i=0 then some (.gs k) else none:=fun i=>by
  show (CJ l 1 (T.set .leaf 0 (.gs k))).get i=_;rw [ZX,T.lZ];rfl
 have hat: ∀(q:Nat) (b:Nat×Nat),bl[q]? =some b→ ∃s,l[q]? =some s∧(bn k l).m.get (q+1)=some (s.obj (q+1)):=fun q b hb=>by
  have hq:q<l.length:=by
   rw [←hlen];exact (yay.1 hb).1
  refine ⟨l[q],yam hq,?_⟩;rw [hget,yak (by omega),Nat.add_sub_cancel,yam hq];rfl
 have hblk: ∀(q:Nat) (b:Nat×Nat) (s:Sh),bl[q]? =some b→l[q]? =some s→b.1<x.w.heap.size:=fun q b s hb hs=>by
  have:=hok q b s hb hs;cases s with
  | own row=>obtain ⟨_,_,_,_,_,h,_⟩:=this;exact (yar.1 h).1
  | ro row=>obtain ⟨_,_,_,_,_,h,_⟩:=this;exact (yar.1 h).1
  | dm kn=>obtain ⟨_,_,_,_,_,h,_⟩:=this;exact (yar.1 h).1
 have NM: ∀(q:Nat) (b:Nat×Nat) (s:Sh),bl[q]? =some b→l[q]? =some s→mY ρ (aJ bl) x x.w .leaf ⟨b.1,b.2,0,none⟩ (s.obj (q+1)):=fun q b s hb hs=>by
  have:=hok q b s hb hs;cases s with
  | own row=>
   obtain ⟨h1,h2,vals,arr,e,h3,h4,h5⟩:=this;refine ⟨rfl,by rw [yak rfl];exact .inr h1,fun _=>⟨arr,e,(0,0),h3,?_,⟨?_,fun hh=>by cases hh⟩,fun i hi=> ?_⟩⟩
   ·show b.2+(Vec.ofList row).n≤arr.size;rw [Vec.l9,h2,yaq];have hl:=h4.length;rcases ybk row.length with h0|h0
    ·omega
    ·have h6:=h5 (row.length-1) _ (yam (by omega));have:=(yar.1 h6).1;omega
   ·show b.2+0*0≤arr.size;omega
   ·rw [Vec.l9] at hi;rw [Vec.uJ row i hi];obtain ⟨y,h6,h7⟩:=h4.get i _ (yam hi);exact ⟨y,by show arr[b.2+i]? =_;rw [h2,yaq];exact h5 i y h6,h7⟩
  | ro row=>
   obtain ⟨h1,vals,arr,e,fr,h3,h4,h6,h5⟩:=this;refine ⟨rfl,?_,fun _=>⟨arr,e,fr,h3,?_,⟨?_,fun hh=>by cases hh⟩,fun i hi=> ?_⟩⟩
   ·rw [yai (by decide)];have:=(yar.1 h3).1;rintro (h|h)
    ·have:x.w.heap.size≤b.1:=h;omega
    ·exact h1 h
   ·show b.2+(Vec.ofList row).n≤arr.size;rw [Vec.l9];exact h6
   ·show b.2+0*0≤arr.size;omega
   ·rw [Vec.l9] at hi;rw [Vec.uJ row i hi];obtain ⟨y,h7,h8⟩:=h4.get i _ (yam hi);exact ⟨y,h5 i y h7,h8⟩
  | dm kn=>
   obtain ⟨h1,h2,arr,clock,m0,h3,h4,h5,h6⟩:=this;obtain ⟨e1,e2⟩:=Qn h5;exact ⟨rfl,.inr h1,h2,arr,clock,arr,clock,m0,[],h3,h3,⟨h4.1,h4.2,e2 _⟩,by rw [e1];exact h5,rfl,h6,fun _=>rfl⟩
 refine ⟨Fr.refl x,fun n L h=> ?_,fun n L h _=> ?_,fun n o h=> ?_,fun n L h=> ?_,fun n m Ln Lm hne h1 h2 _ _ hb=> ?_,fun n v e g t sh ow h=> ?_,fun g y h=>(by cases h),fun n L v e g c sh h1 h2=> ?_,fun n L h _ how c e fr hc=> ?_,fun n L v e c sh h1 h2=> ?_,rfl,ydp _,fun o h=> ?_,?_⟩
 ·obtain ⟨q,b,rfl,hb,rfl⟩:=xV h;show q+1<l.length+1;have:=(yay.1 hb).1;omega
 ·obtain ⟨q,b,rfl,hb,rfl⟩:=xV h;obtain ⟨s,hs,_⟩:=hat q b hb;exact hblk q b s hb hs
 ·show n<l.length+1;rw [hget] at h;split at h
  ·omega
  ·split at h
   ·omega
   ·cases h
 ·obtain ⟨q,b,rfl,hb,rfl⟩:=xV h;obtain ⟨s,hs,h1⟩:=hat q b hb;exact ⟨_,h1,NM q b s hb hs⟩
 ·obtain ⟨q,b,rfl,hq,rfl⟩:=xV h1;obtain ⟨q',b',rfl,hq',rfl⟩:=xV h2;obtain ⟨s,hs,g1⟩:=hat q b hq;obtain ⟨s',hs',g2⟩:=hat q' b' hq';have hb:b.1=b'.1:=hb;have k1:=hok q b s hq hs;have k2:=hok q' b' s' hq' hs';have hro: ∀ {s:Sh} {b:Nat×Nat},wo ρ (aJ bl) x b s→s.zn=false→x.K b.1:=fun {s b} h h'=>by
   cases s with
   | own=>exact h.1
   | ro=>cases h'
   | dm=>exact h.1
  cases hr:s.zn with
  | false=>
   cases hr':s'.zn with
   | false=>
    rcases Nat.lt_or_gt_of_ne (show q≠q' from fun e=>hne (by rw [e])) with hlt|hlt
    ·exact absurd hb (ha.get q q' b b' s s' hlt hq hs hq' hs' hr hr')
    ·exact absurd hb.symm (ha.get q' q b' b s' s hlt hq' hs' hq hs hr' hr)
   | true=>
    have:=hro k1 hr;rw [hb] at this;cases s' with
    | own=>cases hr'
    | ro=>exact absurd this k2.1
    | dm=>cases hr'
  | true=>
   cases s with
   | own=>cases hr
   | dm=>cases hr
   | ro row=>
    cases s' with
    | ro row'=>exact ⟨_,_,_,_,_,_,_,_,_,_,_,_,g1,g2,rfl,fun h=>by cases h⟩
    | own=>exact absurd (hb▸k2.1) k1.1
    | dm=>exact absurd (hb▸k2.1) k1.1
 ·rw [hget] at h;split at h
  ·rw [yb4] at h;obtain ⟨s,_,h⟩:=h;cases s<;>cases h
  ·split at h<;>cases h
 ·obtain ⟨q,b,rfl,hb,rfl⟩:=xV h1;obtain ⟨s,hs,g1⟩:=hat q b hb;rw [g1] at h2;cases s<;>cases h2;exact ⟨_,h1⟩
 ·obtain ⟨q,b,rfl,hb,rfl⟩:=xV h;obtain ⟨s,hs,_⟩:=hat q b hb;have hlt:=hblk q b s hb hs;have hKb:x.K b.1:=by
   rcases how with h|h
   ·have:x.w.heap.size≤b.1:=h;omega
   ·exact h
  have k1:=hok q b s hb hs;cases s with
  | own row=>obtain ⟨_,_,_,_,_,h3,_⟩:=k1;rw [h3] at hc;cases hc;rfl
  | ro row=>exact absurd hKb k1.1
  | dm kn=>obtain ⟨_,_,_,_,_,h3,_⟩:=k1;rw [h3] at hc;cases hc
 ·obtain ⟨q,b,rfl,hb,rfl⟩:=xV h1;obtain ⟨s,hs,g1⟩:=hat q b hb;rw [g1] at h2;cases s<;>cases h2;exact (hok q b _ hb hs).2.1
 ·rw [hget,yai (by omega),yak rfl] at h;cases h;exact ⟨k,rfl⟩
 ·have:(bn k l).gs=k:=by
   unfold Heap.gs;rw [hget,yai (by omega),yak rfl]
  rw [this];exact hG
structure Mv (S:Nat→Prop) (w w':World):Prop where
 os:w'.os=w.os
 tape:w'.tape=w.tape
 output:w'.output=w.output
 size:w.heap.size≤w'.heap.size
 block: ∀k,k<w.heap.size→ ¬S k→w'.heap[k]? =w.heap[k]?
theorem Mv.refl (S:Nat→Prop) (w:World):Mv S w w:=⟨rfl,rfl,rfl,yab _,fun _ _ _=>rfl⟩
theorem Mv.trans {S:Nat→Prop} {a b c:World} (h:Mv S a b) (k:Mv S b c):Mv S a c:=
 ⟨k.os.trans h.os,k.tape.trans h.tape,k.output.trans h.output,yau h.size k.size,fun j hj h1=>(k.block j (yad hj h.size) h1).trans (h.block j hj h1)⟩
theorem Mv.mono {S S':Nat→Prop} {a b:World} (h:Mv S a b) (hs: ∀k,S k→S' k):Mv S' a b:=⟨h.os,h.tape,h.output,h.size,fun j hj h1=>h.block j hj (fun h2=>h1 (hs j h2))⟩
theorem Mv.of_below {S:Nat→Prop} {w w':World} (h:Below w.heap.size w w'):Mv S w w':=⟨h.os,h.tape,h.output,h.size,fun k hk _=>h.block k hk⟩
structure aK where
 f:FuncId
 args:List AV
 gs:Nat
 base:Nat
 fZ:Nat
 res:AV
 gs':Nat
def qQ:Nat→Heap→Heap
 | 0,H=>H
 | n+1,H=>qQ n (H.alloc .opq)
def Wi (k:Nat) (H:Heap):Heap:=
 match H with
 | ⟨m,nx,gw⟩=>match m.set 0 (.gs k) with
  | .leaf=>⟨.leaf,nx,gw⟩
  | .node a b c=>⟨.node a b c,nx,gw⟩
def aK.heap (e:aK) (H:Heap):Heap:=
 match Nat.beq e.gs e.gs' with
 | true=>qQ e.fZ H
 | false=>Wi e.gs' (qQ e.fZ H)
def aK.fits (e:aK) (f:FuncId) (args:List AV) (H:Heap):Bool:=
 match Nat.beq f e.f with
 | false=>false
 | true=>match AV.pV args e.args,Nat.beq H.gs e.gs with
  | true,true=>(match e.fZ with
   | 0=>true
   | _+1=>Nat.beq H.nx e.base)
  | _,_=>false
def bG:List aK→FuncId→List AV→Heap→Option (List (AV×Heap))
 | [], _,_,_=>none
 | e::l,f,args,H=>match e.fits f args H with
  | true=>some [(e.res,e.heap H)]
  | false=>bG l f args H
def jq (j:J) (n:Nat) (qs:List Value):J:=fun k=>if n≤k∧k<n+qs.length then some ⟨0,0,0,some (qs.getD (k-n) undef)⟩ else j k
theorem CG (j:J) (n:Nat):jq j n []=j:=by
 funext k;unfold jq;rw [yai (by simp)]
def O3 (P:Program) (ρ:Val) (x:Cx) (e:aK):Prop:=
 Enters P e.f∧ ∀(j:J) (H:Heap) (w:World) (vals:List Value),Inv ρ x j H w→H.gs=e.gs→(e.fZ≠0→H.nx=e.base)→RL ρ j e.args vals→
  Calls P e.f vals.toArray w fun en w'=> ∃u qs,en= .returned u∧qs.length=e.fZ∧R ρ (jq j H.nx qs) e.res u∧x.G e.gs' (jq j H.nx qs) w'∧Mv (fun b=> ¬Mine j b∧x.own b) w w'
theorem zth: ∀(n:Nat) (H:Heap),(qQ n H).nx=H.nx+n∧(qQ n H).gw=H.gw∧ ∀k,(qQ n H).m.get k=if H.nx≤k∧k<H.nx+n then some .opq else H.m.get k
 | 0,H=>⟨rfl,rfl,fun k=>by rw [yai (by omega)];rfl⟩
 | n+1,H=>by
  obtain ⟨h1,h2,h3⟩:=zth n (H.alloc .opq);rw [Heap.alloc_eq] at h1 h2 h3;have h1:(qQ n ⟨H.m.set H.nx .opq,H.nx+1,H.gw⟩).nx=H.nx+1+n:=h1;refine ⟨?_,?_,fun k=> ?_⟩
  ·show (qQ n (H.alloc .opq)).nx=_;rw [Heap.alloc_eq,h1];omega
  ·show (qQ n (H.alloc .opq)).gw=_;rw [Heap.alloc_eq];exact h2
  ·show (qQ n (H.alloc .opq)).m.get k=_;rw [Heap.alloc_eq,h3];show (if H.nx+1≤k∧k<H.nx+1+n then some Obj.opq else (H.m.set H.nx .opq).get k)=_;rw [T.lZ];by_cases h4:H.nx+1≤k∧k<H.nx+1+n
   ·rw [yak h4,yak (by omega)]
   ·rw [yai h4];by_cases h5:k=H.nx
    ·rw [yak h5,yak (by omega)]
    ·rw [yai h5,yai (by omega)]
theorem zzY (k:Nat) (H:Heap):Wi k H=⟨H.m.set 0 (.gs k),H.nx,H.gw⟩:=by
 obtain ⟨m,nx,gw⟩:=H;show (match m.set 0 (.gs k) with| .leaf=>(⟨.leaf,nx,gw⟩:Heap)| .node a b c=>⟨.node a b c,nx,gw⟩)=_;cases m.set 0 (.gs k)<;>rfl
theorem aK.Tt (e:aK) (H:Heap) (hn:0<H.nx) (hg:H.gs=e.gs):(e.heap H).nx=H.nx+e.fZ∧(e.heap H).gw=H.gw∧(e.heap H).gs=e.gs'∧(∀k,0<k→(e.heap H).m.get k=if H.nx≤k∧k<H.nx+e.fZ then some .opq else H.m.get k)∧
  ((e.heap H).m.get 0=H.m.get 0∨(e.heap H).m.get 0=some (.gs e.gs')):=by
 obtain ⟨h1,h2,h3⟩:=zth e.fZ H;unfold aK.heap;split
 ·rename_i hb;have hb:=bK hb;refine ⟨h1,h2,?_,fun k _=>h3 k,.inl (by rw [h3,yai (by omega)])⟩;unfold Heap.gs;rw [h3,yai (by omega)];rw [←hb,←hg];rfl
 ·rw [zzY];refine ⟨h1,h2,?_,fun k hk=> ?_,.inr (by show ((qQ e.fZ H).m.set 0 _).get 0=_;exact T.get_set_same _ _ _)⟩
  ·unfold Heap.gs;rw [T.get_set_same]
  ·show ((qQ e.fZ H).m.set 0 _).get k=_;rw [T.jm _ _ (by omega),h3]
section
variable {P:Program} {ρ:Val} {x:Cx} {j:J} {H:Heap} {w w':World}
theorem VR (h:Inv ρ x j H w) (qs:List Value):Sub j (jq j H.nx qs):=fun n L e=>by
 unfold jq;rw [yai (by have:=h.dom n L e;omega)];exact e
theorem vL (qs:List Value) {n:Nat} {L:Loc} (h:jq j H.nx qs n=some L):(j n=some L)∨(H.nx≤n∧n<H.nx+qs.length∧L.q≠none):=by
 unfold jq at h;split at h
 ·rename_i hc;cases h;exact .inr ⟨hc.1,hc.2,by simp⟩
 ·exact .inl h
theorem Inv.ent (h:Inv ρ x j H w) {e:aK} {qs:List Value} (hg:H.gs=e.gs) (hl:qs.length=e.fZ) (hG:x.G e.gs' (jq j H.nx qs) w') (hm:Mv (fun b=> ¬Mine j b∧x.own b) w w'):
  Inv ρ x (jq j H.nx qs) (e.heap H) w'∧St j H (jq j H.nx qs) (e.heap H):=by
 obtain ⟨e1,e2,e3,e4,e5⟩:=e.Tt H h.jv hg;have hsub:=VR h qs;have hold: ∀n L,j n=some L→(e.heap H).m.get n=H.m.get n:=fun n L hn=>by
  rw [e4 n (by have:=h.tQ hn;omega),yai (by have:=h.dom n L hn;omega)]
 have hkeep: ∀n L,j n=some L→L.q=none→w'.heap[L.blk]? =w.heap[L.blk]? :=fun n L hn hq=>hm.block _ (h.blk n L hn hq) (fun hh=>hh.1 ⟨n,L,hn,hq,rfl⟩);refine ⟨⟨h.fr.then hm.os hm.output hm.tape hm.size (fun i hi ho=>hm.block i hi (fun hh=>ho hh.2)),fun n L hn=> ?_,fun n L hn hq=> ?_,fun n o hn=> ?_,fun n L hn=> ?_,fun n m Ln Lm hne h1 h2 q1 q2 hb=> ?_,fun n v es g t sh ow hn=> ?_,fun g y hy=> ?_,fun n L v es g c sh h1 h2=> ?_,fun n L hn hq ho c t fr hc=> ?_,fun n L v es c sh h1 h2=> ?_,?_,?_,fun o ho=> ?_,?_⟩,
  hsub,fun n L h1 h2=> ?_,fun n hp h1 h2=>⟨?_,by rw [e2]⟩,by rw [e1];omega⟩
 ·rw [e1];rcases vL qs hn with hn|⟨_,h2,_⟩
  ·have:=h.dom n L hn;omega
  ·omega
 ·rcases vL qs hn with hn|⟨_,_,h3⟩
  ·exact yad (h.blk n L hn hq) hm.size
  ·exact absurd hq h3
 ·rw [e1];rcases ybk n with h0|h0
  ·have:=h.jv;omega
  ·rw [e4 n h0] at hn;split at hn
   ·omega
   ·have:=h.used n o hn;omega
 ·rcases vL qs hn with hn|⟨h1,h2,h3⟩
  ·obtain ⟨o,h4,h5⟩:=h.obj n L hn;refine ⟨o,by rw [hold n L hn];exact h4,?_⟩;rw [e2];exact h5.grow hsub (fun hq=>hkeep n L hn hq)
  ·refine ⟨.opq,?_,h3⟩;rw [e4 n (by have:=h.jv;omega),yak ⟨h1,by omega⟩]
 ·rcases vL qs h1 with h1|⟨_,_,h3⟩
  ·rcases vL qs h2 with h2|⟨_,_,h3⟩
   ·obtain ⟨vn,en,gn,cn,sn,on,vm,em,gm,cm,sm,om,g1,g2,g3⟩:=h.sep n m Ln Lm hne h1 h2 q1 q2 hb;exact ⟨vn,en,gn,cn,sn,on,vm,em,gm,cm,sm,om,by rw [hold n Ln h1];exact g1,by rw [hold m Lm h2];exact g2,by rw [e2];exact g3⟩
   ·exact absurd q2 h3
  ·exact absurd q1 h3
 ·rw [e1];rcases ybk n with h0|h0
  ·subst h0;rcases e5 with e5|e5
   ·rw [e5] at hn;obtain ⟨kk,hk⟩:=h.z0 _ hn;cases hk
   ·rw [e5] at hn;cases hn
  ·rw [e4 n h0] at hn;split at hn
   ·cases hn
   ·have:=h.oZ n v es g t sh ow hn;omega
 ·rw [e2] at hy;rw [e1];have:=h.ni g y hy;omega
 ·rcases vL qs h1 with h1|⟨h3,h4,_⟩
  ·rw [hold n L h1] at h2;obtain ⟨Lg,qZ⟩:=h.kC n L v es g c sh h1 h2;exact ⟨Lg,hsub _ _ qZ⟩
  ·rw [e4 n (by have:=h.jv;omega),yak ⟨h3,by omega⟩] at h2;cases h2
 ·rcases vL qs hn with hn|⟨_,_,h3⟩
  ·rw [hkeep n L hn hq] at hc;exact h.fz n L hn hq ho c t fr hc
  ·exact absurd hq h3
 ·rcases vL qs h1 with h1|⟨h3,h4,_⟩
  ·rw [hold n L h1] at h2;exact h.lH n L v es c sh h1 h2
  ·rw [e4 n (by have:=h.jv;omega),yak ⟨h3,by omega⟩] at h2;cases h2
 ·unfold jq;rw [yai (by have:=h.jv;omega)];exact h.n0
 ·rw [e1];have:=h.jv;omega
 ·rcases e5 with e5|e5
  ·rw [e5] at ho;exact h.z0 o ho
  ·rw [e5] at ho;cases ho;exact ⟨_,rfl⟩
 ·rw [e3];exact hG
 ·rcases vL qs h1 with h1|⟨h3,_,_⟩
  ·rw [h1] at h2;cases h2
  ·exact h3
 ·rw [e4 n hp,yai (by omega)]
theorem E8 {l:List aK} (h: ∀e∈l,O3 P ρ x e):nN P ρ x (bG l):=by
 intro f args H r hr
 induction l with
 | nil=>cases hr
 | cons e l ih=>
  unfold bG at hr;split at hr
  ·rename_i hf;cases hr;obtain ⟨h1,h2⟩:=h e (by simp);unfold aK.fits at hf;split at hf
   ·cases hf
   rename_i yY;have yY:=bK yY;subst yY;split at hf
   case h_2=>cases hf
   rename_i ha hgs;have ha:=AV.sQ ha;have hgs:=bK hgs;subst ha;refine ⟨h1,fun k hk j w vals hi hv=> ?_⟩;have hk:Ob.den ρ (k e.res (e.heap H)):=hk;refine yas (h2 j H w vals hi hgs (fun hn=> ?_) hv) fun en w' he=> ?_
   ·split at hf
    ·rename_i h0;exact absurd h0 hn
    ·exact bK hf
   ·obtain ⟨u,qs,rfl,g1,g2,g3,g4⟩:=he;obtain ⟨g5,g6⟩:=hi.ent hgs g1 g3 g4;exact ⟨u,rfl,e.res,e.heap H,_,g2,g5,g6,hk⟩
  ·exact ih (fun e' he'=>h e' (by simp [he'])) hr
end
structure aU where
 fact:Nat→(Nat→Option Value)→(Nat→Prop)→World→Prop
 loc: ∀k q q' F w w',fact k q F w→(∀n v,q n=some v→q' n=some v)→(∀b,F b→w'.heap[b]? =w.heap[b]?)→w.heap.size≤w'.heap.size→fact k q' F w'
def gQ (j:J) (n:Nat):Option Value:=(j n).bind (·.q)
def aU.G (g:aU) (k:Nat) (j:J) (w:World):Prop:= ∃F:Nat→Prop,(∀b,F b→b<w.heap.size∧ ¬Mine j b)∧g.fact k (gQ j) F w
theorem zA4 {j j':J} (h:Sub j j') {n:Nat} {v:Value} (hv:gQ j n=some v):gQ j' n=some v:=by
 unfold gQ at hv ⊢;rw [yc4] at hv;obtain ⟨L,h1,h2⟩:=hv;rw [h n L h1];exact h2
def gW (w:World) (K:Nat→Prop) (g:aU):Cx:=⟨w,K,g.G,fun k j j' w w' hG hs hle hb hn=>by
 obtain ⟨F,h1,h2⟩:=hG;refine ⟨F,fun b hF=>⟨yad (h1 b hF).1 hle,fun hm=> ?_⟩,g.loc _ _ _ _ _ _ h2 (fun n v hv=>zA4 hs hv) (fun b hF=>hb b (h1 b hF).1 (h1 b hF).2) hle⟩;rcases hn b hm with hm|hm
 ·exact (h1 b hF).2 hm
 ·have:=(h1 b hF).1;omega⟩
def aU.none:aU:=⟨fun _ _ _ _=>True,fun _ _ _ _ _ _ _ _ _ _=>trivial⟩
theorem KS {j:J} {n:Nat} {qs:List Value} {b:Nat} (hj: ∀k,n≤k→j k=none) (h:Mine (jq j n qs) b):Mine j b:=by
 obtain ⟨k,L,h1,h2,h3⟩:=h;unfold jq at h1;split at h1
 ·cases h1;cases h2
 ·exact ⟨k,L,h1,h2,h3⟩
theorem zBx {P:Program} {ρ:Val} {w0:World} {K:Nat→Prop} {g:aU} {e:aK} (he:Enters P e.f)
    (h: ∀(j:J) (w:World) (vals:List Value) (F:Nat→Prop) (n:Nat),RL ρ j e.args vals→(∀k,n≤k→j k=none)→(e.fZ≠0→n=e.base)→(∀b,F b→b<w.heap.size)→w0.heap.size≤w.heap.size→g.fact e.gs (gQ j) F w→(∀i,i<w0.heap.size→ ¬K i→w.heap[i]? =w0.heap[i]?)→
      Calls P e.f vals.toArray w fun en w'=> ∃u qs F',en= .returned u∧qs.length=e.fZ∧R ρ (jq j n qs) e.res u∧g.fact e.gs' (gQ (jq j n qs)) F' w'∧(∀b,F' b→b<w'.heap.size∧(F b∨w.heap.size≤b))∧Mv (fun b=>F b∧(w0.heap.size≤b∨K b)) w w'):
    O3 P ρ (gW w0 K g) e:=by
  refine ⟨he,fun j H w vals hi hgs hb hv=> ?_⟩;have hG:=hi.fO;rw [hgs] at hG;obtain ⟨F,h1,h2⟩:=hG;have hnone: ∀k,H.nx≤k→j k= .none:=fun k hk=>by
    cases hjk:j k with
    | none=>rfl
    | some L=>have:=hi.dom k L hjk;omega
  refine yas (h j w vals F H.nx hv hnone hb (fun b hF=>(h1 b hF).1) hi.fr.size h2 hi.fr.old) fun en w' he'=> ?_;obtain ⟨u,qs,F',rfl,g1,g2,g3,g4,g5⟩:=he';refine ⟨u,qs,rfl,g1,g2,⟨F',fun b hF'=>⟨(g4 b hF').1,fun hm=> ?_⟩,g3⟩,g5.mono fun b hb=>⟨(h1 b hb.1).2,hb.2⟩⟩;have hm:=KS hnone hm;rcases (g4 b hF').2 with hF|hF
  · exact (h1 b hF).2 hm
  · obtain ⟨k,L,k1,k2,k3⟩:=hm;have:=hi.blk k L k1 k2;omega
end Go.Dw
namespace Go.Dw
open Go.RowKit
def zEl:Loc:=⟨0,0,0,none⟩
def dH (j:J) (n:Nat):Loc:=(j n).getD zEl
mutual
def AV.exact:AV→Bool
 | .emp| .oW _| .nG=>false
 | .sl _ _ _ (.upto _)=>true
 | .func _ a b=>match AV.pY a with|true=>AV.pY b|false=>false
 | .iface _ v=>AV.exact v
 | .agg l=>AV.pY l
 | .aH l=>AV.pY l
 | _=>true
def AV.pY:List AV→Bool
 | [] => true
 | a::l=>match AV.exact a with|true=>AV.pY l|false=>false
end
mutual
def AV.val (ρ:Val) (lc:Nat→Loc):AV→Value
 | .bool b=> .bool (b.den ρ)
 | .int k n=> .int k (n.den ρ)
 | .str s=> .string ⟨(s.map UInt8.ofNat).toArray⟩
 | .jr=> .pointer none
 | .ptr n o=> .pointer (some ⟨(lc n).blk,(lc n).off+o,none⟩)
 | .bZ=> .slice none 0 0
 | .sl n o len cap=> .slice (some ⟨(lc n).blk,(lc n).off+o,none⟩) len (vX (lc n) cap)
 | .emp| .oW _| .nG=>undef
 | .kT=> .map none
 | .map n=> .map (some (lc n).blk)
 | .func f first cap=> .func (.func f) (AV.aP ρ lc first).toArray (AV.aP ρ lc cap).toArray
 | .fT=> .nilFunc
 | .nD=> .nilIface
 | .iface t x=> .iface t (AV.val ρ lc x)
 | .agg l=> .agg (AV.aP ρ lc l).toArray
 | .aH l=> .tuple (AV.aP ρ lc l).toArray
 | .cst i _=>ρ.v i
 | .opq n _=>(lc n).q.getD undef
 | .iR _ _=>undef
 | .junk=>undef
 | .sx i _ _ _=>ρ.v i
def AV.aP (ρ:Val) (lc:Nat→Loc):List AV→List Value
 | [] => []
 | a::l=>AV.val ρ lc a::AV.aP ρ lc l
end
theorem bB {j:J} {n:Nat} {L:Loc} (h:j n=some L):dH j n=L:=by unfold dH;rw [h];rfl
mutual
theorem ku {ρ:Val} {j:J}: ∀ {a:AV} {v:Value},a.exact=true→R ρ j a v→v=a.val ρ (dH j)
 | .bool _,_,_,r=>r
 | .int _ _,_,_,r=>r
 | .str _,_,_,r=>r.2
 | .jr,_,_,r=>r
 | .ptr _ _,_,_,r=>by obtain ⟨L,e,rfl⟩:=r;unfold AV.val;rw [bB e]
 | .bZ,_,_,r=>r
 | .sl _ _ _ _,_,_,r=>by obtain ⟨L,e,_,rfl⟩:=r;unfold AV.val;rw [bB e]
 | .emp,_,h,_=>by cases h
 | .oW _,_,h,_=>by cases h
 | .nG,_,h,_=>by cases h
 | .kT,_,_,r=>r
 | .map _,_,_,r=>by obtain ⟨L,e,rfl⟩:=r;unfold AV.val;rw [bB e]
 | .func f a b,_,h,r=>by
  obtain ⟨l,m,rfl,h1,h2⟩:=r;unfold AV.exact at h;split at h
  ·rename_i ha;unfold AV.val;rw [qU ha h1,qU h h2]
  ·cases h
 | .fT,_,_,r=>r
 | .nD,_,_,r=>r
 | .iface t x,_,h,r=>by obtain ⟨y,rfl,h1⟩:=r;unfold AV.exact at h;unfold AV.val;rw [ku h h1]
 | .agg l,_,h,r=>by obtain ⟨m,rfl,h1⟩:=r;unfold AV.exact at h;unfold AV.val;rw [qU h h1]
 | .aH l,_,h,r=>by obtain ⟨m,rfl,h1⟩:=r;unfold AV.exact at h;unfold AV.val;rw [qU h h1]
 | .cst _ _,_,_,r=>r.1
 | .opq _ _,_,_,r=>by obtain ⟨⟨L,e,h1⟩,_⟩:=r;unfold AV.val;rw [bB e,h1];rfl
 | .iR _ _,_,_,r=>r.1
 | .junk,_,_,r=>r.elim
 | .sx _ _ _ _,_,_,r=>r.1
theorem qU {ρ:Val} {j:J}: ∀ {l:List AV} {m:List Value},AV.pY l=true→RL ρ j l m→m=AV.aP ρ (dH j) l
 | [], _,_,r=>r
 | a::l,_,h,r=>by
  obtain ⟨v,m,rfl,h1,h2⟩:=r;unfold AV.pY at h;split at h
  ·rename_i ha;unfold AV.aP;rw [ku ha h1,qU h h2]
  ·cases h
end
mutual
def AV.small:AV→Bool
 | .bool b=>b.small
 | .func _ a b=>match AV.bQ a with|true=>AV.bQ b|false=>false
 | .iface _ v=>AV.small v
 | .agg l=>AV.bQ l
 | .aH l=>AV.bQ l
 | .iR c _=>c.small
 | _=>true
def AV.bQ:List AV→Bool
 | [] => true
 | a::l=>match AV.small a with|true=>AV.bQ l|false=>false
end
theorem zuk {ρ:Val} {j:J} (m:Nat→Bool) {sz:Nat} {b:Option Addr} {len:Nat}: ∀ {l:List (SE×Nat)},(sP (ρ.mark m) j sz b len l↔sP ρ j sz b len l)
 | [] => yb9
 | p::l=>by unfold sP;rw [zuk m (l:=l),SE.jT]
mutual
theorem lX {ρ:Val} {j:J} (m:Nat→Bool): ∀ {a:AV} {v:Value},a.small=true→(R (ρ.mark m) j a v↔R ρ j a v)
 | .bool b,v,h=>by show v=_↔v=_;rw [SB.jT ρ m b h]
 | .int k n,v,_=>by show v=_↔v=_;rw [SE.jT]
 | .str _,_,_=>yb9
 | .jr,_,_=>yb9
 | .ptr _ _,_,_=>yb9
 | .bZ,_,_=>yb9
 | .sl _ _ _ _,_,_=>yb9
 | .emp,_,_=>yb9
 | .oW n,_,_=>by simp only [R,SE.jT]
 | .nG,_,_=>yb9
 | .kT,_,_=>yb9
 | .map _,_,_=>yb9
 | .func f a b,v,h=>by
  unfold AV.small at h;split at h
  ·rename_i ha;constructor
   ·rintro ⟨l,k,rfl,h1,h2⟩;exact ⟨l,k,rfl,(iV m ha).1 h1,(iV m h).1 h2⟩
   ·rintro ⟨l,k,rfl,h1,h2⟩;exact ⟨l,k,rfl,(iV m ha).2 h1,(iV m h).2 h2⟩
  ·cases h
 | .fT,_,_=>yb9
 | .nD,_,_=>yb9
 | .iface t x,v,h=>by
  unfold AV.small at h;constructor
  ·rintro ⟨y,rfl,h1⟩;exact ⟨y,rfl,(lX m h).1 h1⟩
  ·rintro ⟨y,rfl,h1⟩;exact ⟨y,rfl,(lX m h).2 h1⟩
 | .agg l,v,h=>by
  unfold AV.small at h;constructor
  ·rintro ⟨y,rfl,h1⟩;exact ⟨y,rfl,(iV m h).1 h1⟩
  ·rintro ⟨y,rfl,h1⟩;exact ⟨y,rfl,(iV m h).2 h1⟩
 | .aH l,v,h=>by
  unfold AV.small at h;constructor
  ·rintro ⟨y,rfl,h1⟩;exact ⟨y,rfl,(iV m h).1 h1⟩
  ·rintro ⟨y,rfl,h1⟩;exact ⟨y,rfl,(iV m h).2 h1⟩
 | .cst i l,v,_=>by
  show (v=ρ.v i∧_∧_)↔(v=ρ.v i∧_∧_);simp only [SE.jT]
 | .opq _ _,_,_=>by simp only [R,SE.jT]
 | .junk,_,_=>yb9
 | .sx i n sz l,v,_=>by
  show (v=ρ.v i∧_)↔(v=ρ.v i∧_);simp only [SE.jT,zuk]
 | .iR c w,v,h=>by show (v=undef∧_=_)↔(v=undef∧_=_);rw [SB.jT ρ m c h]
theorem iV {ρ:Val} {j:J} (m:Nat→Bool): ∀ {l:List AV} {v:List Value},AV.bQ l=true→(RL (ρ.mark m) j l v↔RL ρ j l v)
 | [], _,_=>yb9
 | a::l,v,h=>by
  unfold AV.bQ at h;split at h
  ·rename_i ha;constructor
   ·rintro ⟨y,k,rfl,h1,h2⟩;exact ⟨y,k,rfl,(lX m ha).1 h1,(iV m h).1 h2⟩
   ·rintro ⟨y,k,rfl,h1,h2⟩;exact ⟨y,k,rfl,(lX m ha).2 h1,(iV m h).2 h2⟩
  ·cases h
end
def zFV:Option AV→Bool
 | none=>true
 | some a=>a.small
def Fz:List (AV×Option AV)→Bool
 | [] => true
 | e::l=>match e.1.small,zFV e.2 with|true,true=>Fz l|_,_=>false
theorem K8 {ρ:Val} {j:J} (m:Nat→Bool): ∀ {l:List (AV×Option AV)} {v:List (Int×Option Value)},Fz l=true→(RX (ρ.mark m) j l v↔RX ρ j l v)
 | [], _,_=>yb9
 | e::l,v,h=>by
  unfold Fz at h;split at h
  ·rename_i h1 h2;have ho: ∀o,RO (ρ.mark m) j e.2 o↔RO ρ j e.2 o:=fun o=>by
    cases he:e.2 with
    | none=>exact yb9
    | some a=>
     rw [he] at h2;constructor
     ·rintro ⟨y,rfl,hy⟩;exact ⟨y,rfl,(lX m h2).1 hy⟩
     ·rintro ⟨y,rfl,hy⟩;exact ⟨y,rfl,(lX m h2).2 hy⟩
   constructor
   ·rintro ⟨x,o,k,rfl,g1,g2,g3⟩;exact ⟨x,o,k,rfl,(lX m h1).1 g1,(ho o).1 g2,(K8 m h).1 g3⟩
   ·rintro ⟨x,o,k,rfl,g1,g2,g3⟩;exact ⟨x,o,k,rfl,(lX m h1).2 g1,(ho o).2 g2,(K8 m h).2 g3⟩
  ·cases h
def Sh.small:Sh→Bool
 | .own row=>AV.bQ row
 | .ro row=>AV.bQ row
 | .dm kn=>Fz kn
def bJ:List Sh→Bool
 | [] => true
 | s::l=>match s.small with|true=>bJ l|false=>false
theorem BO {ρ:Val} {j:J} {x:Cx} (m:Nat→Bool): ∀ {bl:List (Nat×Nat)} {l:List Sh},bJ l=true→oI ρ j x bl l→oI (ρ.mark m) j x bl l
 | [], [], _,_=>trivial
 | [], _::_,_,h=>h.elim
 | _::_,[],_,h=>h.elim
 | b::bl,s::l,hs,h=>by
  unfold bJ at hs;split at hs
  ·rename_i h0;refine ⟨?_,BO m hs h.2⟩;have h1:=h.1;cases s with
   | own row=>obtain ⟨a1,a2,vals,arr,e,a3,a4,a5⟩:=h1;exact ⟨a1,a2,vals,arr,e,a3,(iV m h0).2 a4,a5⟩
   | ro row=>obtain ⟨a1,vals,arr,e,fr,a3,a4,a5,a6⟩:=h1;exact ⟨a1,vals,arr,e,fr,a3,(iV m h0).2 a4,a5,a6⟩
   | dm kn=>obtain ⟨a1,a2,arr,clock,m0,a3,a4,a5,a6⟩:=h1;exact ⟨a1,a2,arr,clock,m0,a3,a4,(K8 m h0).2 a5,a6⟩
  ·cases hs
theorem zqy {ρ:Val} (m:Nat→Bool) {a:AV} {v:Value} {j:J} (hs:a.small=true) (hx:a.exact=true) (h:R (ρ.mark m) j a v):v=a.val ρ (dH j):=ku hx ((lX m hs).1 h)
def mq (P:Program) (ρ:Val) (w0:World) (K:Nat→Prop) (g:aU) (e:aK):Prop:=
 Enters P e.f∧ ∀(j:J) (w:World) (vals:List Value) (F:Nat→Prop) (n:Nat),RL ρ j e.args vals→(∀k,n≤k→j k=none)→(e.fZ≠0→n=e.base)→(∀b,F b→b<w.heap.size)→w0.heap.size≤w.heap.size→g.fact e.gs (gQ j) F w→(∀i,i<w0.heap.size→ ¬K i→w.heap[i]? =w0.heap[i]?)→
   Calls P e.f vals.toArray w fun en w'=> ∃u qs F',en= .returned u∧qs.length=e.fZ∧R ρ (jq j n qs) e.res u∧g.fact e.gs' (gQ (jq j n qs)) F' w'∧(∀b,F' b→b<w'.heap.size∧(F b∨w.heap.size≤b))∧Mv (fun b=>F b∧(w0.heap.size≤b∨K b)) w w'
def Ai (P:Program) (ρ:Val) (w0:World) (K:Nat→Prop) (g:aU):List aK→Prop
 | [] => True
 | e::l=>mq P ρ w0 K g e∧Ai P ρ w0 K g l
def bI:List aK→Bool
 | [] => true
 | e::l=>match AV.bQ e.args,e.res.small with|true,true=>bI l|_,_=>false
theorem BQ {P:Program} {ρ:Val} {w0:World} {K:Nat→Prop} {g:aU} (m:Nat→Bool): ∀ {l:List aK},bI l=true→Ai P ρ w0 K g l→ ∀e∈l,O3 P (ρ.mark m) (gW w0 K g) e
 | [], _,_,e,h=>by cases h
 | e0::l,hs,ho,e,h=>by
  unfold bI at hs;split at hs
  case h_2=>cases hs
  rename_i h1 h2;rcases yac.1 h with rfl|h
  ·refine zBx ho.1.1 fun j w vals F n hv hn hb hF hsz hf hold=> ?_;refine yas (ho.1.2 j w vals F n ((iV m h1).1 hv) hn hb hF hsz hf hold) fun en w' he=> ?_;obtain ⟨u,qs,F',e1,e2,e3,e4⟩:=he;exact ⟨u,qs,F',e1,e2,(lX m h2).2 e3,e4⟩
  ·exact BQ m hs ho.2 e h
theorem WO {P:Program} {ρ:Val} {w0:World} {K:Nat→Prop} {g:aU} {f:FuncId} {args:List AV} {gs base:Nat} {res:AV} (he:Enters P f)
  (h: ∀(j:J) (w:World) (vals:List Value) (F:Nat→Prop),RL ρ j args vals→g.fact gs (gQ j) F w→Calls P f vals.toArray w fun en w'=> ∃u,en= .returned u∧R ρ j res u∧Below w.heap.size w w'):
  mq P ρ w0 K g ⟨f,args,gs,base,0,res,gs⟩:=by
 refine ⟨he,fun j w vals F n hv hn _ hF hsz hfact _=> ?_⟩;refine yas (h j w vals F hv hfact) fun en w' he'=> ?_;obtain ⟨u,rfl,h1,h2⟩:=he';refine ⟨u,[],F,rfl,rfl,by rw [CG];exact h1,?_,fun b hb=>⟨yad (hF b hb) h2.size,.inl hb⟩,Mv.of_below h2⟩;rw [CG];exact g.loc _ _ _ _ _ _ hfact (fun _ _ h=>h) (fun b hb=>h2.block b (hF b hb)) h2.size
theorem zp4 {P:Program} {ρ:Val} {w0:World} {K:Nat→Prop} {g:aU} {f:FuncId} {args:List AV} {gs base gs':Nat} {res:AV} (he:Enters P f)
  (h: ∀(j:J) (w:World) (vals:List Value) (F:Nat→Prop),RL ρ j args vals→g.fact gs (gQ j) F w→Calls P f vals.toArray w fun en w'=> ∃u,en= .returned u∧R ρ j res u∧g.fact gs' (gQ j) F w'∧Mv (fun b=>F b∧K b) w w'):
  mq P ρ w0 K g ⟨f,args,gs,base,0,res,gs'⟩:=by
 refine ⟨he,fun j w vals F n hv hn _ hF hsz hfact _=> ?_⟩;refine yas (h j w vals F hv hfact) fun en w' he'=> ?_;obtain ⟨u,rfl,h1,h2,h3⟩:=he';refine ⟨u,[],F,rfl,rfl,by rw [CG];exact h1,by rw [CG];exact h2,fun b hb=>⟨yad (hF b hb) h3.size,.inl hb⟩,h3.mono fun b hb=>⟨hb.1,.inr hb.2⟩⟩
def Row (w:World) (L:Loc) (vals:List Value):Prop:= ∃arr e fr,w.heap[L.blk]? =some (.cells arr e fr)∧ ∀(i:Nat) (y:Value),vals[i]? =some y→arr[L.off+i]? =some y
def Own (w:World) (b:Nat) (vals:List Value):Prop:= ∃(arr:Array Value) (e:TypeId),w.heap[b]? =some (.cells arr e (0,0))∧ ∀(i:Nat) (y:Value),vals[i]? =some y→arr[i]? =some y
def Cc:List (Nat×List AV)→Bool
 | [] => true
 | r::l=>match AV.pY r.2,AV.bQ r.2 with|true,true=>Cc l|_,_=>false
def Ky:List (AV×Option AV)→Bool
 | [] => true
 | e::l=>match e.1.exact,(match e.2 with|none=>true|some a=>a.exact) with|true,true=>Ky l|_,_=>false
def BV:List (Nat×List (AV×Option AV))→Bool
 | [] => true
 | r::l=>match Ky r.2,Fz r.2 with|true,true=>BV l|_,_=>false
def dx:List Leaf→Bool
 | [] => true
 | l::r=>match l.v.exact,l.v.small,Cc l.rows,BV l.maps with|true,true,true,true=>dx r|_,_,_,_=>false
def intOf:Value→Int
 | .int _ n=>n
 | _=>0
def vU (ρ:Val) (lc:Nat→Loc):List (AV×Option AV)→List (Int×Option Value)
 | [] => []
 | e::l=>(intOf (e.1.val ρ lc),e.2.map (AV.val ρ lc))::vU ρ lc l
theorem VE {ρ:Val} {j:J}: ∀ {l:List (AV×Option AV)} {m:List (Int×Option Value)},Ky l=true→RX ρ j l m→m=vU ρ (dH j) l
 | [], _,_,r=>r
 | e::l,_,h,r=>by
  obtain ⟨x,o,k,rfl,g1,g2,g3⟩:=r;unfold Ky at h;split at h
  case h_2=>cases h
  rename_i h1 h2;unfold vU;rw [VE h g3,←ku h1 g1];cases he:e.2 with
  | none=>rw [he] at g2;have g2:o=none:=g2;rw [g2];rfl
  | some a=>
   rw [he] at g2 h2;obtain ⟨v,rfl,g4⟩:=g2;rw [ku h2 g4];rfl
def LH (ρ:Val) (j:J) (K:Nat→Prop) (w0 w:World):List (Nat×List AV)→Prop
 | [] => True
 | r::l=>(∀L,j r.1=some L→Row w L (AV.aP ρ (dH j) r.2)∧((w0.heap.size≤L.blk∨K L.blk)→L.off=0→Own w L.blk (AV.aP ρ (dH j) r.2)))∧LH ρ j K w0 w l
def LK (ρ:Val) (j:J) (w0 w:World):List (Nat×List (AV×Option AV))→Prop
 | [] => True
 | r::l=>(∀L,j r.1=some L→ ∃arr clock dz eZ,w.heap[L.blk]? =some (.map arr clock)∧w0.heap[L.blk]? =some (.map dz eZ)∧(jE arr∧kI arr clock)∧ ∀k,dB arr k=nV (dB dz) (vU ρ (dH j) r.2) k)∧LK ρ j w0 w l
theorem BK: ∀ {ls:List Leaf} {i:Nat} {l:Leaf},dx ls=true→ls[i]? =some l→l.v.exact=true∧l.v.small=true∧Cc l.rows=true∧BV l.maps=true
 | [], _,_,_,h=>by cases h
 | x::r,i,l,hx,h=>by
  unfold dx at hx;split at hx
  case h_2=>cases hx
  rename_i h1 h2 h3 h4;cases i with
  | zero=>cases h;exact ⟨h1,h2,h3,h4⟩
  | succ i=>exact BK hx (by simpa using h)
theorem zow {ρ:Val} {m:Nat→Bool} {j:J} {x:Cx} {K:Nat→Prop} {H:Heap} {w:World} (hxw: ∀b,x.own b↔(x.w.heap.size≤b∨K b)) (hi:Inv (ρ.mark m) x j H w): ∀ {rows:List (Nat×List AV)},Cc rows=true→pE H rows=true→LH ρ j K x.w w rows
 | [], _,_=>trivial
 | r::l,hx,ha=>by
  unfold Cc at hx;split at hx
  case h_2=>cases hx
  rename_i h1 h2;unfold pE at ha;split at ha
  case h_2=>cases ha
  rename_i h3 _;refine ⟨fun L hL=> ?_,zow hxw hi hx ha⟩;obtain ⟨vals,arr,e,fr,g1,g2,g3,_,g5⟩:=hi.IB hL h3;have hv:=qU h1 ((iV m h2).1 g2);rw [hv] at g3;refine ⟨⟨arr,e,fr,g1,g3⟩,fun ho h0=> ?_⟩;have:=g5 ((hxw _).2 ho);subst this;exact ⟨arr,e,g1,fun i y hy=>by have:=g3 i y hy;rwa [h0,yaq] at this⟩
theorem zo9 {ρ:Val} {m:Nat→Bool} {j:J} {x:Cx} {H:Heap} {w:World} (hi:Inv (ρ.mark m) x j H w): ∀ {maps:List (Nat×List (AV×Option AV))},BV maps=true→z8 H maps=true→LK ρ j x.w w maps
 | [], _,_=>trivial
 | r::l,hx,ha=>by
  unfold BV at hx;split at hx
  case h_2=>cases hx
  rename_i h1 h2;unfold z8 at ha;split at ha
  case h_2=>cases ha
  rename_i h3;refine ⟨fun L hL=> ?_,zo9 hi hx ha⟩;obtain ⟨arr,clock,dz,eZ,m1,g1,g2,g3,g4,g5⟩:=hi.abg hL h3;have hv:=VE h1 ((K8 m h2).1 g4);rw [hv] at g5;exact ⟨arr,clock,dz,eZ,g1,g2,g3,g5⟩
mutual
def AV.names:AV→List Nat
 | .ptr n _=> [n]
 | .sl n _ _ _=> [n]
 | .map n=> [n]
 | .opq n _=> [n]
 | .func _ a b=>AV.lG a++AV.lG b
 | .iface _ v=>AV.names v
 | .agg l=>AV.lG l
 | .aH l=>AV.lG l
 | _=> []
def AV.lG:List AV→List Nat
 | [] => []
 | a::l=>AV.names a++AV.lG l
end
mutual
theorem Od {ρ:Val} {j:J}: ∀ {a:AV} {v:Value},R ρ j a v→ ∀n∈a.names,j n=some (dH j n)
 | .bool _,_,_,n,h=>by cases h
 | .int _ _,_,_,n,h=>by cases h
 | .str _,_,_,n,h=>by cases h
 | .jr,_,_,n,h=>by cases h
 | .ptr m o,_,r,n,h=>by
  obtain ⟨L,e,_⟩:=r;have h:n∈ [m]:=h;rw [yaF] at h;subst h;rw [bB e];exact e
 | .bZ,_,_,n,h=>by cases h
 | .sl m _ _ _,_,r,n,h=>by
  obtain ⟨L,e,_⟩:=r;have h:n∈ [m]:=h;rw [yaF] at h;subst h;rw [bB e];exact e
 | .emp,_,_,n,h=>by cases h
 | .oW _,_,_,n,h=>by cases h
 | .nG,_,_,n,h=>by cases h
 | .kT,_,_,n,h=>by cases h
 | .map m,_,r,n,h=>by
  obtain ⟨L,e,_⟩:=r;have h:n∈ [m]:=h;rw [yaF] at h;subst h;rw [bB e];exact e
 | .func f a b,_,r,n,h=>by
  obtain ⟨l,m,_,h1,h2⟩:=r;have h:n∈AV.lG a++AV.lG b:=h;rcases yaT.1 h with h|h
  ·exact xC h1 n h
  ·exact xC h2 n h
 | .fT,_,_,n,h=>by cases h
 | .nD,_,_,n,h=>by cases h
 | .iface t x,_,r,n,h=>by obtain ⟨y,_,h1⟩:=r;exact Od h1 n h
 | .agg l,_,r,n,h=>by obtain ⟨y,_,h1⟩:=r;exact xC h1 n h
 | .aH l,_,r,n,h=>by obtain ⟨y,_,h1⟩:=r;exact xC h1 n h
 | .cst _ _,_,_,n,h=>by cases h
 | .opq m _,_,r,n,h=>by
  obtain ⟨⟨L,e,_⟩,_⟩:=r;have h:n∈ [m]:=h;rw [yaF] at h;subst h;rw [bB e];exact e
 | .iR _ _,_,_,n,h=>by cases h
 | .junk,_,_,n,h=>by cases h
 | .sx _ _ _ _,_,_,n,h=>by cases h
theorem xC {ρ:Val} {j:J}: ∀ {l:List AV} {m:List Value},RL ρ j l m→ ∀n∈AV.lG l,j n=some (dH j n)
 | [], _,_,n,h=>by cases h
 | a::l,_,r,n,h=>by
  obtain ⟨v,m,_,h1,h2⟩:=r;have h:n∈AV.names a++AV.lG l:=h;rcases yaT.1 h with h|h
  ·exact Od h1 n h
  ·exact xC h2 n h
end
def KJ (j:J):List (Nat×List AV)→Prop
 | [] => True
 | r::l=>(∀L,j r.1=some L→ ∀n∈AV.lG r.2,j n=some (dH j n))∧KJ j l
theorem YJ {ρ:Val} {j:J} {x:Cx} {H:Heap} {w:World} (hi:Inv ρ x j H w): ∀ {rows:List (Nat×List AV)},pE H rows=true→KJ j rows
 | [], _=>trivial
 | r::l,ha=>by
  unfold pE at ha;split at ha
  case h_2=>cases ha
  rename_i h3 _;refine ⟨fun L hL=> ?_,YJ hi ha⟩;obtain ⟨vals,arr,e,fr,g1,g2,_⟩:=hi.IB hL h3;exact xC g2
theorem zK {H:Heap}: ∀ {l:List (Nat×List AV)},pE H l=true→ ∀ {r:Nat×List AV},r∈l→yD H r.1 r.2=true
 | [], _,_,h=>by cases h
 | x::l,ha,r,h=>by
  unfold pE at ha;split at ha
  case h_2=>cases ha
  rename_i h1 _;rcases yac.1 h with rfl|h
  ·exact h1
  ·exact zK ha h
theorem Yw {H:Heap}: ∀ {l:List (Nat×List (AV×Option AV))},z8 H l=true→ ∀ {r:Nat×List (AV×Option AV)},r∈l→CX H r.1 r.2=true
 | [], _,_,h=>by cases h
 | x::l,ha,r,h=>by
  unfold z8 at ha;split at ha
  case h_2=>cases ha
  rename_i h1;rcases yac.1 h with rfl|h
  ·exact h1
  ·exact Yw ha h
structure oG (ρ:Val) (w0:World) (K:Nat→Prop) (g:aU) (bl:List (Nat×Nat)) (l:Leaf) (e:Ending) (w':World) (j:J):Prop where
 ret:e= .returned (l.v.val ρ (dH j))
 sub:Sub (aJ bl) j
 rows:LH ρ j K w0 w' l.rows
 maps:LK ρ j w0 w' l.maps
 names: ∀n∈l.v.names,j n=some (dH j n)
 Ev:KJ j l.rows
 apart: ∀r∈l.rows,∀r'∈l.rows,r.1≠r'.1→ ∀L L',j r.1=some L→j r'.1=some L'→L.blk=L'.blk→ ¬(w0.heap.size≤L.blk∨K L.blk)
 abh: ∀r∈l.rows,∀r'∈l.maps,∀L L',j r.1=some L→j r'.1=some L'→L.blk≠L'.blk
 mine: ∀r∈l.rows,∀L,j r.1=some L→Mine j L.blk
 fresh: ∀n∈l.own,∀L,j n=some L→(w0.heap.size≤L.blk∨K L.blk)∧L.off=0
 fO:g.G l.gs j w'
 mv:Mv K w0 w'
def KW (n:Nat):List (List (SB×Bool)×Nat)→List (List (SB×Bool)×Nat)
 | [] => []
 | p::l=>(p.1.drop n,p.2)::KW n l
def Ob.ways (asm:List (SB×Bool)) (o:Ob):Option (List (List (SB×Bool)×Nat)):=
 match o.paths asm with
 | some l=>some (KW asm.length l)
 | none=>none
theorem BR {n:Nat}: ∀ {l:List (List (SB×Bool)×Nat)} {p:List (SB×Bool)×Nat},p∈l→(p.1.drop n,p.2)∈KW n l
 | [], _,h=>by cases h
 | q::l,p,h=>by
  unfold KW;rcases yac.1 h with rfl|h
  ·exact yaG ..
  ·exact yaB _ (BR h)
theorem Fp {ρ:Val} {w:World} {K:Nat→Prop} {g:aU} {bl:List (Nat×Nat)} {l:Leaf} {m:Nat→Bool} {H H':Heap} {j':J} {u:Value} {v:AV} {w':World}
  (x1:l.v.exact=true) (x2:l.v.small=true) (x3:Cc l.rows=true) (x4:BV l.maps=true)
  (h1:R (ρ.mark m) j' v u) (h2:Inv (ρ.mark m) (gW w K g) j' H' w') (h3:St (aJ bl) H j' H') (h4:l.fits v H'=true):oG ρ w K g bl l (.returned u) w' j':=by
 obtain ⟨k1,k2,k3,k4,k5⟩:=zGa h4;subst k1;refine ⟨by rw [zqy m x2 x1 h1],h3.sub,zow (x:=gW w K g) (fun b=>yb9) h2 x3 k2,zo9 h2 x4 k3,Od h1,YJ h2 k2,fun r hr r' hr' hne L L' hL hL' hb=>h2.abv hne (WU k2 hr hr' hne) hL hL' (zK k2 hr) (zK k2 hr') hb,
  fun r hr r' hr' L L' hL hL'=>h2.abu hL hL' (zK k2 hr) (Yw k3 hr'),fun r hr L hL=> ?_,fun n hn L hL=> ?_,?_,h2.fr.os,h2.fr.tape,h2.fr.out,h2.fr.size,h2.fr.old⟩
 ·obtain ⟨_,_,_,_,_,_,h5,_⟩:=Ce (zK k2 hr);exact ⟨r.1,L,hL,h2.lJ hL h5,rfl⟩
 ·obtain ⟨v,e,c,sh,h5⟩:=Yt k5 hn;refine ⟨?_,h2.lH n L v e c sh hL h5⟩;obtain ⟨o,h6,h7⟩:=h2.obj n L hL;rw [h5] at h6;cases h6;have h8:=h7.2.1;rw [yak rfl] at h8;exact h8
 ·rw [←k4];exact h2.fO
theorem eD {P:Program} {ρ:Val} {w:World} {K:Nat→Prop} {g:aU} {bl:List (Nat×Nat)} {fF:List Sh} {gs:Nat} {iW:List aK} {n:Nat} {f:FuncId} {args:List AV} {vals:List Value} {ls:List Leaf} {asm:List (SB×Bool)} {ps:List (List (SB×Bool)×Nat)}
  (hmo:P.follows .mixedOrders=true)
  (h:(ev P (bG iW) n (.call f args (bn gs fF) (cK ls 0))).ways asm=some ps)
  (hs:(bJ fF&&bI iW&&AV.bQ args&&dx ls)=true)
  (hK: ∀b,K b→b<w.heap.size) (ho:oI ρ (aJ bl) (gW w K g) bl fF) (hap:apart bl fF) (hG:g.G gs (aJ bl) w) (he:Ai P ρ w K g iW) (ha:RL ρ (aJ bl) args vals) (ht:Told ρ asm):
  Calls P f vals.toArray w fun e w'=> ∃p∈ps,Told ρ p.1∧ ∃l,ls[p.2]? =some l∧ ∃j,oG ρ w K g bl l e w' j:=by
 simp only [yba] at hs;obtain ⟨⟨⟨s1,s2⟩,s3⟩,s4⟩:=hs;unfold Ob.ways at h;cases hps:(ev P (bG iW) n (.call f args (bn gs fF) (cK ls 0))).paths asm with
 | none=>rw [hps] at h;cases h
 | some ps0=>
 rw [hps] at h;cases h;have h:=hps;refine yas (zA5 (x:=gW w K g) hmo (fun m=>E8 (BQ m s2 he)) (fun m=>EZ hK (BO m s1 ho) hap hG) (fun m=>(iV m s3).2 ha) ht h) fun e w' hh=> ?_;obtain ⟨p,hp,hto,l,hl,m,u,v,j',H',rfl,h1,h2,h3,h4⟩:=hh;obtain ⟨x1,x2,x3,x4⟩:=BK s4 hl;exact ⟨(p.1.drop asm.length,p.2),BR hp,fun c hc=>hto c (ya2 hc),l,hl,j',Fp x1 x2 x3 x4 h1 h2 h3 h4⟩
end Go.Dw
namespace Go.Dw
open Go.RowKit
def Vd (i:Nat):SE:= .dG [⟨i,0,255,0,8,0⟩] 0
def aF (i:Nat):SE:= .dG [⟨i,0,65535,0,16,0⟩] 0
def bM (i:Nat):SE:= .dG [⟨i,0,4294967295,0,32,0⟩] 0
def af (i:Nat):SE:= .dG [⟨i,0,18446744073709551615,0,64,0⟩] 0
def ah (i:Nat):SE:= .dG [⟨i,1,32768,0,16,0⟩] 0
def au (i:Nat):SE:= .dG [⟨i,0,4611686018427387903,0,62,0⟩] 0
theorem Ab {ρ:Val} {i lo hi n:Nat} (h0:(lo:Int)≤ρ.i i) (h1:ρ.i i≤(hi:Int)) (h2:hi<2^n):SE.den ρ (.dG [⟨i,lo,hi,0,n,0⟩] 0)=ρ.i i:=by
 obtain ⟨x,hx⟩:=yaO (Int.le_trans (ycW lo) h0);simp only [SE.den,aN,aO.den,hx,yaV,ybX,ycw,ycJ];rw [hx] at h0 h1;have e:max lo (min x hi)=x:=by omega
 rw [e,ybe (by omega)];rfl
theorem zGd {ρ:Val} {i:Nat} (h0:0≤ρ.i i) (h1:ρ.i i<256):(Vd i).den ρ=ρ.i i:=Ab (by omega) (by omega) (by decide)
theorem jC {ρ:Val} {i:Nat} (h0:0≤ρ.i i) (h1:ρ.i i<65536):(aF i).den ρ=ρ.i i:=Ab (by omega) (by omega) (by decide)
theorem pF {ρ:Val} {i:Nat} (h0:0≤ρ.i i) (h1:ρ.i i<4294967296):(bM i).den ρ=ρ.i i:=Ab (by omega) (by omega) (by decide)
theorem iI {ρ:Val} {i:Nat} (h0:0≤ρ.i i) (h1:ρ.i i<18446744073709551616):(af i).den ρ=ρ.i i:=Ab (by omega) (by omega) (by decide)
theorem zy6 {ρ:Val} {i:Nat} (h0:1≤ρ.i i) (h1:ρ.i i≤32768):(ah i).den ρ=ρ.i i:=Ab (by omega) (by omega) (by decide)
theorem mh {ρ:Val} {i:Nat} (h0:0≤ρ.i i) (h1:ρ.i i<4611686018427387904):(au i).den ρ=ρ.i i:=Ab (by omega) (by omega) (by decide)
theorem zag {ρ:Val} {n:Int}:SE.den ρ (.lit n)=n:=rfl
theorem dW {ρ:Val} {i:Nat}:SE.den ρ (.var i)=ρ.i i:=rfl
theorem den_add {ρ:Val} {k:IntKind} {a b:SE}:SE.den ρ (.bin .add k a b)=k.wrap (a.den ρ+b.den ρ):=rfl
theorem gG {ρ:Val} {k:IntKind} {a b:SE}:SE.den ρ (.bin .sub k a b)=k.wrap (a.den ρ-b.den ρ):=rfl
theorem den_mul {ρ:Val} {k:IntKind} {a b:SE}:SE.den ρ (.bin .mul k a b)=k.wrap (a.den ρ*b.den ρ):=rfl
theorem zy5 {ρ:Val} {k:IntKind} {a b:SE}:SE.den ρ (.bin .rem k a b)=(a.den ρ).tmod (b.den ρ):=rfl
theorem jO {ρ:Val} {b:Bool}:SB.den ρ (.lit b)=b:=rfl
theorem dJ {ρ:Val} {i:Nat}:SB.den ρ (.var i)=ρ.b i:=rfl
theorem qK {ρ:Val} {a b:SE}:SB.den ρ (.cmp .eql a b)=(a.den ρ==b.den ρ):=rfl
theorem lU {ρ:Val} {a b:SE}:SB.den ρ (.cmp .neq a b)=(a.den ρ !=b.den ρ):=rfl
theorem gT {ρ:Val} {a b:SE}:SB.den ρ (.cmp .lss a b)=decide (a.den ρ<b.den ρ):=rfl
theorem mV {ρ:Val} {a b:SE}:SB.den ρ (.cmp .leq a b)=decide (a.den ρ≤b.den ρ):=rfl
theorem jY {ρ:Val} {a b:SE}:SB.den ρ (.cmp .gtr a b)=decide (a.den ρ>b.den ρ):=rfl
theorem nL {ρ:Val} {a b:SE}:SB.den ρ (.cmp .geq a b)=decide (a.den ρ≥b.den ρ):=rfl
theorem bE {k:Int} (h:0≤k) (h':k<18446744073709551616):IntKind.wrap .u64 k=k:=by unfold IntKind.wrap;simp [IntKind.signed,IntKind.bits];omega
theorem La {k:Int} (h:0≤k) (h':k<4294967296):IntKind.wrap .u32 k=k:=by unfold IntKind.wrap;simp [IntKind.signed,IntKind.bits];omega
theorem yw {k:Int} (h:0≤k) (h':k<65536):IntKind.wrap .u16 k=k:=by unfold IntKind.wrap;simp [IntKind.signed,IntKind.bits];omega
theorem iF (k:Int):IntKind.wrap .u16 k=k%65536:=by unfold IntKind.wrap;simp [IntKind.signed,IntKind.bits]
theorem Ca (k:Int):IntKind.wrap .u64 k=k%18446744073709551616:=by unfold IntKind.wrap;simp [IntKind.signed,IntKind.bits]
theorem gV {k:Int} (h: -9223372036854775808≤k) (h':k<9223372036854775808):IntKind.wrap .i64 k=k:=by
 simp only [IntKind.wrap,IntKind.bits,IntKind.signed];simp;omega
theorem ai {ρ:Val} {j:J} {a:AV} {l:List AV} {v:Value} {m:List Value} (h:R ρ j a v) (h':RL ρ j l m):RL ρ j (a::l) (v::m):=⟨v,m,rfl,h,h'⟩
theorem aA {ρ:Val} {j:J} {k:IntKind} {n:SE} {x:Int} (h:n.den ρ=x):R ρ j (.int k n) (.int k x):=by show Value.int k x= .int k (n.den ρ);rw [h]
theorem fA {ρ:Val} {j:J} {b:SB} {x:Bool} (h:b.den ρ=x):R ρ j (.bool b) (.bool x):=by show Value.bool x= .bool (b.den ρ);rw [h]
theorem iB {ρ:Val} {j:J} {i:Nat} {v:Value} (h:ρ.v i=v) (h1:v.oneCell'=true):R ρ j (.cst i none) v:=⟨h.symm,h1,fun _ h=>by cases h⟩
theorem OT {ρ:Val} {j:J} {n:Nat} {L:Loc} (h:j n=some L):R ρ j (.map n) (.map (some L.blk)):=⟨L,h,rfl⟩
theorem bT {ρ:Val} {j:J} {n o:Nat} {L:Loc} (h:j n=some L):R ρ j (.ptr n o) (.pointer (some ⟨L.blk,L.off+o,none⟩)):=⟨L,h,rfl⟩
theorem jP {ρ:Val} {j:J} {f:Nat} {a b:List AV} {l m:List Value} (h:RL ρ j a l) (h':RL ρ j b m):R ρ j (.func f a b) (.func (.func f) l.toArray m.toArray):=⟨l,m,rfl,h,h'⟩
theorem OU {ρ:Val} {j:J} {a:List AV} {l:List Value} (h:RL ρ j a l):R ρ j (.agg a) (.agg l.toArray):=⟨l,rfl,h⟩
theorem oD {ρ:Val} {j:J} {a:List AV} {l:List Value} (h:RL ρ j a l):R ρ j (.aH a) (.tuple l.toArray):=⟨l,rfl,h⟩
theorem fG {ρ:Val} {w0:World} {K:Nat→Prop} {g:aU} {bl:List (Nat×Nat)} {l:Leaf} {e:Ending} {w':World} {j:J} (h:oG ρ w0 K g bl l e w' j) (hK: ∀b,¬K b):Below w0.heap.size w0 w':=
 ⟨h.mv.os,h.mv.tape,h.mv.output,h.mv.size,fun k hk=>h.mv.block k hk (hK k)⟩
theorem kV {w:World} {b:Nat} {vals:List Value} (h:Own w b vals) {i:Nat} {v:Value} (hv:vals[i]? =some v):w.cell? ⟨b,i,none⟩=some v:=by
 obtain ⟨arr,e,h1,h2⟩:=h;simp [World.cell?,h1,h2 i v hv]
theorem qH {w:World} {b:Nat} {vals:List Value} (h:Own w b vals):b<w.heap.size:=by
 obtain ⟨arr,e,h1,_⟩:=h;exact (yar.1 h1).1
theorem Own.kept {w w':World} {b:Nat} {vals:List Value} (h:Own w b vals) (e:w'.heap[b]? =w.heap[b]?):Own w' b vals:=by
 obtain ⟨arr,t,h1,h2⟩:=h;exact ⟨arr,t,e.trans h1,h2⟩
theorem Row.kept {w w':World} {L:Loc} {vals:List Value} (h:Row w L vals) (e:w'.heap[L.blk]? =w.heap[L.blk]?):Row w' L vals:=by
 obtain ⟨arr,t,fr,h1,h2⟩:=h;exact ⟨arr,t,fr,e.trans h1,h2⟩
theorem eH {k:Nat} {j:J} {w:World}:aU.none.G k j w:=⟨fun _=>False,fun _ h=>h.elim,trivial⟩
end Go.Dw
namespace Go.Dw
theorem aT {ρ:Val}:Told ρ []↔True:=⟨fun _=>trivial,fun _ c h=>by cases h⟩
theorem aZ {ρ:Val} {c:SB} {b:Bool} {l:List (SB×Bool)}:Told ρ ((c,b)::l)↔c.den ρ=b∧Told ρ l:=
 ⟨fun h=>⟨h (c,b) (by simp),fun x hx=>h x (by simp [hx])⟩,fun h x hx=>by
  rcases yac.1 hx with rfl|hx
  ·exact h.1
  ·exact h.2 x hx⟩
def BH (is:List Int) (bs:List Bool) (vs:List Value):Val:=⟨fun i=>is.getD i 0,fun i=>bs.getD i false,fun i=>vs.getD i (.bool false)⟩
end Go.Dw
namespace Go.Dw
def jW (i:Nat):SE:= .dG [⟨i,0,32767,0,15,0⟩] 0
theorem FW {ρ:Val} {i:Nat} (h0:0≤ρ.i i) (h1:ρ.i i<32768):(jW i).den ρ=ρ.i i:=Ab (by omega) (by omega) (by decide)
end Go.Dw
namespace Go.Dw
open Go.RowKit
theorem zGm {ρ:Val} {j:J} {a:AV} {u v:Value} (hx:a.exact=true) (h:R ρ j a u) (k:R ρ j a v):u=v:=(ku hx h).trans (ku hx k).symm
theorem Cu {ρ:Val} {j:J} {a:List AV} {u v:List Value} (hx:AV.pY a=true) (h:RL ρ j a u) (k:RL ρ j a v):u=v:=(qU hx h).trans (qU hx k).symm
def zyV (P:Program) (f:FuncId):Bool:=
  match P.funcs[f]? with
  | some fn => (match fn.body with | some _ => decide (fn.name ≠ "runtime.NumGoroutine") | none => false)
  | none=>false
theorem enters_of {P:Program} {f:FuncId} (h:zyV P f=true):Enters P f:=by
 unfold zyV at h;split at h
 case h_2=>cases h
 rename_i fn hf;split at h
 case h_2=>cases h
 rename_i c hc;exact ⟨fn,c,hf,hc,ybB h⟩
theorem iU {P:Program} {ρ:Val} {w0:World} {K:Nat→Prop} {g:aU} {f:FuncId} {args:List AV} {gs base:Nat} {res:AV} (he:Enters P f) (hx:AV.pY args=true) (V:List Value) (U:Value)
  (ha: ∀j,RL ρ j args V) (hr: ∀j,R ρ j res U) (h: ∀w F q,g.fact gs q F w→Calls P f V.toArray w fun en w'=>en= .returned U∧Below w.heap.size w w'):mq P ρ w0 K g ⟨f,args,gs,base,0,res,gs⟩:=
 WO he fun j w vals F hv hf=>by
  rw [Cu hx hv (ha j)];exact yas (h w F _ hf) fun en w' hh=>⟨U,hh.1,hr j,hh.2⟩
theorem zp3 {P:Program} {ρ:Val} {w0:World} {K:Nat→Prop} {g:aU} {f:FuncId} {args:List AV} {gs base gs':Nat} {res:AV} (he:Enters P f) (hx:AV.pY args=true) (V:List Value) (U:Value)
  (ha: ∀j,RL ρ j args V) (hr: ∀j,R ρ j res U) (h: ∀w F q,g.fact gs q F w→Calls P f V.toArray w fun en w'=>en= .returned U∧g.fact gs' q F w'∧Mv (fun b=>F b∧K b) w w'):mq P ρ w0 K g ⟨f,args,gs,base,0,res,gs'⟩:=
 zp4 he fun j w vals F hv hf=>by
  rw [Cu hx hv (ha j)];exact yas (h w F _ hf) fun en w' hh=>⟨U,hh.1,hr j,hh.2⟩
theorem iN {ρ:Val} {w0:World} {K:Nat→Prop} {g:aU} {bl:List (Nat×Nat)} {l0:Leaf} {e:Ending} {w':World} {pre:List (SB×Bool)}
  (h: ∃p∈ [(pre,0)],Told ρ p.1∧ ∃l,[l0][p.2]? =some l∧ ∃j,oG ρ w0 K g bl l e w' j):Told ρ pre∧ ∃j,oG ρ w0 K g bl l0 e w' j:=by
 obtain ⟨p,hp,ht,l,hl,j,he⟩:=h;rw [yaF] at hp;subst hp;cases hl;exact ⟨ht,j,he⟩
end Go.Dw
namespace Go.Proofs
open Go.Dw Go.RowKit
structure Tryz.Rg where
 n:Int
 d:Int
 v:Int
 c:Int
def Tryz.Rg.val (r:Rg):Value:= .agg #[.bool false,.int .i64 r.n,.int .u64 r.d,.int .u64 r.v,.int .u64 r.c]
structure Tryz.RgOk (r:Rg):Prop where
 pow: ∃k,k≤15∧r.n=2^k
 d0:0≤r.d
 v0:0≤r.v
 c0:0≤r.c
 d16:r.d%16=0
 v2:r.v%2=0
 c4:r.c%4=0
 dE:r.d+16*r.n≤18446744073709551616
 vE:r.v+6+2*r.n≤18446744073709551616
 cE:r.c+6+8*r.n≤18446744073709551616
 dv:r.d+16*r.n≤r.v∨r.v+6+2*r.n≤r.d
 dc:r.d+16*r.n≤r.c∨r.c+6+8*r.n≤r.d
 vc:r.v+6+2*r.n≤r.c∨r.c+6+8*r.n≤r.v
theorem Tryz.RgOk.bnd {r:Rg} (h:RgOk r):1≤r.n∧r.n≤32768:=by
 obtain ⟨k,hk,e⟩:=h.pow;rw [e];have h1:(2:Int)^k=((2^k:Nat):Int):=by push_cast;rfl
 have h2:2^k≤2^15:=ybp (by decide) hk;have h3:1≤2^k:=Nat.pow_pos (by decide);rw [h1];omega
def Tryz.rg:AV:= .agg [.bool (.lit false),.int .i64 (ah 0),.int .u64 (af 1),.int .u64 (af 2),.int .u64 (af 3)]
end Go.Proofs
namespace Go.Proofs
open Go.Dw
def Tryz.zuf:List aK:= []
def Tryz.zzk:List Sh:= []
def Tryz.zug:List AV:= [rg]
def Tryz.Rp:List (SB×Bool):= [(.cmp .neq (.dG [⟨1,0,18446744073709551615,0,4,0⟩] 0) (.lit 0),false),(.cmp .neq (.dG [⟨2,0,18446744073709551615,0,1,0⟩] 0) (.lit 0),false),(.cmp .neq (.dG [⟨3,0,18446744073709551615,0,2,0⟩] 0) (.lit 0),false),(.cmp .eql (.bin .and .i64 (ah 0) (.bin .sub .i64 (ah 0) (.lit 1))) (.lit 0),true),(.cmp .gtr (.bin .sub .u64 (.bin .mul .u64 (.lit 16) (ah 0)) (.lit 1)) (.bin .sub .u64 (.lit 18446744073709551615) (af 1)),false),(.cmp .gtr (.bin .sub .u64 (.bin .add .u64 (.lit 6) (.bin .mul .u64 (.lit 2) (ah 0))) (.lit 1)) (.bin .sub .u64 (.lit 18446744073709551615) (af 2)),false),(.cmp .gtr (.bin .sub .u64 (.bin .add .u64 (.lit 6) (.bin .mul .u64 (.lit 8) (ah 0))) (.lit 1)) (.bin .sub .u64 (.lit 18446744073709551615) (af 3)),false)]
def Tryz.Vz:List Leaf:= [
 ⟨.int .i64 (.lit 2),[],[],0,[]⟩,
 ⟨.int .i64 (.lit 0),[],[],0,[]⟩]
def Tryz.Vy:List (List (SB×Bool)×Nat):= [
 ([((.cmp .leq (af 2) (af 1)),true),((.cmp .lss (.bin .sub .u64 (af 1) (af 2)) (.bin .add .u64 (.lit 6) (.bin .mul .u64 (.lit 2) (ah 0)))),true)],0),
 ([((.cmp .leq (af 2) (af 1)),true),((.cmp .lss (.bin .sub .u64 (af 1) (af 2)) (.bin .add .u64 (.lit 6) (.bin .mul .u64 (.lit 2) (ah 0)))),false),((.cmp .leq (af 3) (af 1)),true),((.cmp .lss (.bin .sub .u64 (af 1) (af 3)) (.bin .add .u64 (.lit 6) (.bin .mul .u64 (.lit 8) (ah 0)))),true)],0),
 ([((.cmp .leq (af 2) (af 1)),true),((.cmp .lss (.bin .sub .u64 (af 1) (af 2)) (.bin .add .u64 (.lit 6) (.bin .mul .u64 (.lit 2) (ah 0)))),false),((.cmp .leq (af 3) (af 1)),true),((.cmp .lss (.bin .sub .u64 (af 1) (af 3)) (.bin .add .u64 (.lit 6) (.bin .mul .u64 (.lit 8) (ah 0)))),false),((.cmp .leq (af 3) (af 2)),true),((.cmp .lss (.bin .sub .u64 (af 2) (af 3)) (.bin .add .u64 (.lit 6) (.bin .mul .u64 (.lit 8) (ah 0)))),true)],0),
 ([((.cmp .leq (af 2) (af 1)),true),((.cmp .lss (.bin .sub .u64 (af 1) (af 2)) (.bin .add .u64 (.lit 6) (.bin .mul .u64 (.lit 2) (ah 0)))),false),((.cmp .leq (af 3) (af 1)),true),((.cmp .lss (.bin .sub .u64 (af 1) (af 3)) (.bin .add .u64 (.lit 6) (.bin .mul .u64 (.lit 8) (ah 0)))),false),((.cmp .leq (af 3) (af 2)),true),((.cmp .lss (.bin .sub .u64 (af 2) (af 3)) (.bin .add .u64 (.lit 6) (.bin .mul .u64 (.lit 8) (ah 0)))),false)],1),
 ([((.cmp .leq (af 2) (af 1)),true),((.cmp .lss (.bin .sub .u64 (af 1) (af 2)) (.bin .add .u64 (.lit 6) (.bin .mul .u64 (.lit 2) (ah 0)))),false),((.cmp .leq (af 3) (af 1)),true),((.cmp .lss (.bin .sub .u64 (af 1) (af 3)) (.bin .add .u64 (.lit 6) (.bin .mul .u64 (.lit 8) (ah 0)))),false),((.cmp .leq (af 3) (af 2)),false),((.cmp .lss (.bin .sub .u64 (af 3) (af 2)) (.bin .add .u64 (.lit 6) (.bin .mul .u64 (.lit 2) (ah 0)))),true)],0),
 ([((.cmp .leq (af 2) (af 1)),true),((.cmp .lss (.bin .sub .u64 (af 1) (af 2)) (.bin .add .u64 (.lit 6) (.bin .mul .u64 (.lit 2) (ah 0)))),false),((.cmp .leq (af 3) (af 1)),true),((.cmp .lss (.bin .sub .u64 (af 1) (af 3)) (.bin .add .u64 (.lit 6) (.bin .mul .u64 (.lit 8) (ah 0)))),false),((.cmp .leq (af 3) (af 2)),false),((.cmp .lss (.bin .sub .u64 (af 3) (af 2)) (.bin .add .u64 (.lit 6) (.bin .mul .u64 (.lit 2) (ah 0)))),false)],1),
 ([((.cmp .leq (af 2) (af 1)),true),((.cmp .lss (.bin .sub .u64 (af 1) (af 2)) (.bin .add .u64 (.lit 6) (.bin .mul .u64 (.lit 2) (ah 0)))),false),((.cmp .leq (af 3) (af 1)),false),((.cmp .lss (.bin .sub .u64 (af 3) (af 1)) (.bin .mul .u64 (.lit 16) (ah 0))),true)],0),
 ([((.cmp .leq (af 2) (af 1)),true),((.cmp .lss (.bin .sub .u64 (af 1) (af 2)) (.bin .add .u64 (.lit 6) (.bin .mul .u64 (.lit 2) (ah 0)))),false),((.cmp .leq (af 3) (af 1)),false),((.cmp .lss (.bin .sub .u64 (af 3) (af 1)) (.bin .mul .u64 (.lit 16) (ah 0))),false),((.cmp .leq (af 3) (af 2)),true),((.cmp .lss (.bin .sub .u64 (af 2) (af 3)) (.bin .add .u64 (.lit 6) (.bin .mul .u64 (.lit 8) (ah 0)))),true)],0),
 ([((.cmp .leq (af 2) (af 1)),true),((.cmp .lss (.bin .sub .u64 (af 1) (af 2)) (.bin .add .u64 (.lit 6) (.bin .mul .u64 (.lit 2) (ah 0)))),false),((.cmp .leq (af 3) (af 1)),false),((.cmp .lss (.bin .sub .u64 (af 3) (af 1)) (.bin .mul .u64 (.lit 16) (ah 0))),false),((.cmp .leq (af 3) (af 2)),true),((.cmp .lss (.bin .sub .u64 (af 2) (af 3)) (.bin .add .u64 (.lit 6) (.bin .mul .u64 (.lit 8) (ah 0)))),false)],1),
 ([((.cmp .leq (af 2) (af 1)),true),((.cmp .lss (.bin .sub .u64 (af 1) (af 2)) (.bin .add .u64 (.lit 6) (.bin .mul .u64 (.lit 2) (ah 0)))),false),((.cmp .leq (af 3) (af 1)),false),((.cmp .lss (.bin .sub .u64 (af 3) (af 1)) (.bin .mul .u64 (.lit 16) (ah 0))),false),((.cmp .leq (af 3) (af 2)),false),((.cmp .lss (.bin .sub .u64 (af 3) (af 2)) (.bin .add .u64 (.lit 6) (.bin .mul .u64 (.lit 2) (ah 0)))),true)],0),
 ([((.cmp .leq (af 2) (af 1)),true),((.cmp .lss (.bin .sub .u64 (af 1) (af 2)) (.bin .add .u64 (.lit 6) (.bin .mul .u64 (.lit 2) (ah 0)))),false),((.cmp .leq (af 3) (af 1)),false),((.cmp .lss (.bin .sub .u64 (af 3) (af 1)) (.bin .mul .u64 (.lit 16) (ah 0))),false),((.cmp .leq (af 3) (af 2)),false),((.cmp .lss (.bin .sub .u64 (af 3) (af 2)) (.bin .add .u64 (.lit 6) (.bin .mul .u64 (.lit 2) (ah 0)))),false)],1),
 ([((.cmp .leq (af 2) (af 1)),false),((.cmp .lss (.bin .sub .u64 (af 2) (af 1)) (.bin .mul .u64 (.lit 16) (ah 0))),true)],0),
 ([((.cmp .leq (af 2) (af 1)),false),((.cmp .lss (.bin .sub .u64 (af 2) (af 1)) (.bin .mul .u64 (.lit 16) (ah 0))),false),((.cmp .leq (af 3) (af 1)),true),((.cmp .lss (.bin .sub .u64 (af 1) (af 3)) (.bin .add .u64 (.lit 6) (.bin .mul .u64 (.lit 8) (ah 0)))),true)],0),
 ([((.cmp .leq (af 2) (af 1)),false),((.cmp .lss (.bin .sub .u64 (af 2) (af 1)) (.bin .mul .u64 (.lit 16) (ah 0))),false),((.cmp .leq (af 3) (af 1)),true),((.cmp .lss (.bin .sub .u64 (af 1) (af 3)) (.bin .add .u64 (.lit 6) (.bin .mul .u64 (.lit 8) (ah 0)))),false),((.cmp .leq (af 3) (af 2)),true),((.cmp .lss (.bin .sub .u64 (af 2) (af 3)) (.bin .add .u64 (.lit 6) (.bin .mul .u64 (.lit 8) (ah 0)))),true)],0),
 ([((.cmp .leq (af 2) (af 1)),false),((.cmp .lss (.bin .sub .u64 (af 2) (af 1)) (.bin .mul .u64 (.lit 16) (ah 0))),false),((.cmp .leq (af 3) (af 1)),true),((.cmp .lss (.bin .sub .u64 (af 1) (af 3)) (.bin .add .u64 (.lit 6) (.bin .mul .u64 (.lit 8) (ah 0)))),false),((.cmp .leq (af 3) (af 2)),true),((.cmp .lss (.bin .sub .u64 (af 2) (af 3)) (.bin .add .u64 (.lit 6) (.bin .mul .u64 (.lit 8) (ah 0)))),false)],1),
 ([((.cmp .leq (af 2) (af 1)),false),((.cmp .lss (.bin .sub .u64 (af 2) (af 1)) (.bin .mul .u64 (.lit 16) (ah 0))),false),((.cmp .leq (af 3) (af 1)),true),((.cmp .lss (.bin .sub .u64 (af 1) (af 3)) (.bin .add .u64 (.lit 6) (.bin .mul .u64 (.lit 8) (ah 0)))),false),((.cmp .leq (af 3) (af 2)),false),((.cmp .lss (.bin .sub .u64 (af 3) (af 2)) (.bin .add .u64 (.lit 6) (.bin .mul .u64 (.lit 2) (ah 0)))),true)],0),
 ([((.cmp .leq (af 2) (af 1)),false),((.cmp .lss (.bin .sub .u64 (af 2) (af 1)) (.bin .mul .u64 (.lit 16) (ah 0))),false),((.cmp .leq (af 3) (af 1)),true),((.cmp .lss (.bin .sub .u64 (af 1) (af 3)) (.bin .add .u64 (.lit 6) (.bin .mul .u64 (.lit 8) (ah 0)))),false),((.cmp .leq (af 3) (af 2)),false),((.cmp .lss (.bin .sub .u64 (af 3) (af 2)) (.bin .add .u64 (.lit 6) (.bin .mul .u64 (.lit 2) (ah 0)))),false)],1),
 ([((.cmp .leq (af 2) (af 1)),false),((.cmp .lss (.bin .sub .u64 (af 2) (af 1)) (.bin .mul .u64 (.lit 16) (ah 0))),false),((.cmp .leq (af 3) (af 1)),false),((.cmp .lss (.bin .sub .u64 (af 3) (af 1)) (.bin .mul .u64 (.lit 16) (ah 0))),true)],0),
 ([((.cmp .leq (af 2) (af 1)),false),((.cmp .lss (.bin .sub .u64 (af 2) (af 1)) (.bin .mul .u64 (.lit 16) (ah 0))),false),((.cmp .leq (af 3) (af 1)),false),((.cmp .lss (.bin .sub .u64 (af 3) (af 1)) (.bin .mul .u64 (.lit 16) (ah 0))),false),((.cmp .leq (af 3) (af 2)),true),((.cmp .lss (.bin .sub .u64 (af 2) (af 3)) (.bin .add .u64 (.lit 6) (.bin .mul .u64 (.lit 8) (ah 0)))),true)],0),
 ([((.cmp .leq (af 2) (af 1)),false),((.cmp .lss (.bin .sub .u64 (af 2) (af 1)) (.bin .mul .u64 (.lit 16) (ah 0))),false),((.cmp .leq (af 3) (af 1)),false),((.cmp .lss (.bin .sub .u64 (af 3) (af 1)) (.bin .mul .u64 (.lit 16) (ah 0))),false),((.cmp .leq (af 3) (af 2)),true),((.cmp .lss (.bin .sub .u64 (af 2) (af 3)) (.bin .add .u64 (.lit 6) (.bin .mul .u64 (.lit 8) (ah 0)))),false)],1),
 ([((.cmp .leq (af 2) (af 1)),false),((.cmp .lss (.bin .sub .u64 (af 2) (af 1)) (.bin .mul .u64 (.lit 16) (ah 0))),false),((.cmp .leq (af 3) (af 1)),false),((.cmp .lss (.bin .sub .u64 (af 3) (af 1)) (.bin .mul .u64 (.lit 16) (ah 0))),false),((.cmp .leq (af 3) (af 2)),false),((.cmp .lss (.bin .sub .u64 (af 3) (af 2)) (.bin .add .u64 (.lit 6) (.bin .mul .u64 (.lit 2) (ah 0)))),true)],0),
 ([((.cmp .leq (af 2) (af 1)),false),((.cmp .lss (.bin .sub .u64 (af 2) (af 1)) (.bin .mul .u64 (.lit 16) (ah 0))),false),((.cmp .leq (af 3) (af 1)),false),((.cmp .lss (.bin .sub .u64 (af 3) (af 1)) (.bin .mul .u64 (.lit 16) (ah 0))),false),((.cmp .leq (af 3) (af 2)),false),((.cmp .lss (.bin .sub .u64 (af 3) (af 2)) (.bin .add .u64 (.lit 6) (.bin .mul .u64 (.lit 2) (ah 0)))),false)],1)]
theorem Tryz.zE0:(ev prog (bG zuf) 100000 (.call 72 zug (bn 0 zzk) (cK Vz 0))).ways Rp=some Vy:=by kernel_rfl
theorem Tryz.zGh:(bJ zzk&&bI zuf&&AV.bQ zug&&dx Vz)=true:=by kernel_rfl
open Go.RowKit
theorem Tryz.mixed:prog.follows .mixedOrders=true:=by kernel_rfl
theorem Tryz.zDW {n:Int} (h: ∃k,k≤15∧n=2^k):nI .and .i64 n (IntKind.wrap .i64 (n-1))=0:=by
 obtain ⟨k,hk,rfl⟩:=h;have:k=0∨k=1∨k=2∨k=3∨k=4∨k=5∨k=6∨k=7∨k=8∨k=9∨k=10∨k=11∨k=12∨k=13∨k=14∨k=15:=by omega
 rcases this with rfl|rfl|rfl|rfl|rfl|rfl|rfl|rfl|rfl|rfl|rfl|rfl|rfl|rfl|rfl|rfl<;>decide
def Tryz.fu (r:Rg) (is:List Int) (bs:List Bool) (vs:List Value):Val:=BH (r.n::r.d::r.v::r.c::is) bs vs
section
variable {r:Tryz.Rg} {is:List Int} {bs:List Bool} {vs:List Value}
theorem Tryz.jH (h:RgOk r):(ah 0).den (fu r is bs vs)=r.n:=zy6 h.bnd.1 h.bnd.2
theorem Tryz.jR (h:RgOk r):(af 1).den (fu r is bs vs)=r.d:=iI h.d0 (by have:=h.dE;have:=h.bnd;show r.d<_;omega)
theorem Tryz.kg (h:RgOk r):(af 2).den (fu r is bs vs)=r.v:=iI h.v0 (by have:=h.vE;have:=h.bnd;show r.v<_;omega)
theorem Tryz.ko (h:RgOk r):(af 3).den (fu r is bs vs)=r.c:=iI h.c0 (by have:=h.cE;have:=h.bnd;show r.c<_;omega)
end
theorem Tryz.Ci {ρ:Val} {i n:Nat} (h0:0≤ρ.i i) (h1:ρ.i i<18446744073709551616):SE.den ρ (.dG [⟨i,0,18446744073709551615,0,n,0⟩] 0)=ρ.i i%2^n:=by
 obtain ⟨x,hx⟩:=yaO h0;simp only [SE.den,aN,aO.den,hx,yaV,ybX,ycw,ycJ];rw [hx] at h1;have e:max 0 (min x 18446744073709551615)=x:=by omega
 rw [e];rfl
theorem Tryz.dY {r:Rg} {is:List Int} {bs:List Bool} {vs:List Value} {j:J} (h:RgOk r):R (fu r is bs vs) j rg r.val:=
 OU (ai (fA rfl) (ai (aA (jH h)) (ai (aA (jR h)) (ai (aA (kg h)) (ai (aA (ko h)) RL.nil)))))
theorem Tryz.tZ (r:Rg) (h:RgOk r) (w:World):Calls prog 72 #[r.val] w fun e w'=>e= .returned (.int .i64 0)∧Below w.heap.size w w':=by
  have hb:=h.bnd;obtain ⟨H9,d0,v0,c0,d16,v2,c4,dE,vE,cE,dv,dc,vc⟩:=h;have hr:RgOk r:=⟨H9,d0,v0,c0,d16,v2,c4,dE,vE,cE,dv,dc,vc⟩;have en:=jH (is:= []) (bs:= []) (vs:= []) hr;have ed:=jR (is:= []) (bs:= []) (vs:= []) hr;have ev:=kg (is:= []) (bs:= []) (vs:= []) hr;have ec:=ko (is:= []) (bs:= []) (vs:= []) hr;have l1:=Ci (ρ:=fu r [] [] []) (i:=1) (n:=4) d0 (by show r.d<_;omega);have l2:=Ci (ρ:=fu r [] [] []) (i:=2) (n:=1) v0 (by show r.v<_;omega);have l3:=Ci (ρ:=fu r [] [] []) (i:=3) (n:=2) c0 (by show r.c<_;omega);have w1:IntKind.wrap .u64 (16*r.n)=16*r.n:=bE (by omega) (by omega);have w2:IntKind.wrap .u64 (2*r.n)=2*r.n:=bE (by omega) (by omega);have w3:IntKind.wrap .u64 (8*r.n)=8*r.n:=bE (by omega) (by omega);have w4:IntKind.wrap .u64 (6+2*r.n)=6+2*r.n:=bE (by omega) (by omega);have w5:IntKind.wrap .u64 (6+8*r.n)=6+8*r.n:=bE (by omega) (by omega);have w6:IntKind.wrap .u64 (16*r.n-1)=16*r.n-1:=bE (by omega) (by omega);have w7:IntKind.wrap .u64 (6+2*r.n-1)=6+2*r.n-1:=bE (by omega) (by omega);have w8:IntKind.wrap .u64 (6+8*r.n-1)=6+8*r.n-1:=bE (by omega) (by omega);have x1:IntKind.wrap .u64 (18446744073709551615-r.d)=18446744073709551615-r.d:=bE (by omega) (by omega);have x2:IntKind.wrap .u64 (18446744073709551615-r.v)=18446744073709551615-r.v:=bE (by omega) (by omega);have x3:IntKind.wrap .u64 (18446744073709551615-r.c)=18446744073709551615-r.c:=bE (by omega) (by omega);have hpa:SE.den (fu r [] [] []) (.bin .and .i64 (ah 0) (.bin .sub .i64 (ah 0) (.lit 1)))=0:=by
    show nI .and .i64 (SE.den _ (ah 0)) (IntKind.wrap .i64 (SE.den _ (ah 0)-1))=0;rw [en];exact zDW H9
  have ht:Dw.Told (fu r [] [] []) Rp:=by
    unfold Rp;simp only [aZ,aT,lU,qK,jY,gG,den_add,den_mul,zag,l1,l2,l3,en,ed,ev,ec,hpa,w1,w2,w3,w4,w5,w6,w7,w8,x1,x2,x3];refine ⟨?_,?_,?_,by decide,?_,?_,?_,trivial⟩
    · show ((r.d%2^4) !=0)=false;have:r.d%2^4=0:=d16;rw [this];rfl
    · show ((r.v%2^1) !=0)=false;have:r.v%2^1=0:=v2;rw [this];rfl
    · show ((r.c%2^2) !=0)=false;have:r.c%2^2=0:=c4;rw [this];rfl
    all_goals (simp;omega)
  refine yas (eD (K:=fun _=>False) (g:=aU.none) (bl:= []) (vals:= [r.val]) mixed zE0 zGh (fun _ h=>h.elim) trivial trivial eH trivial (ai (dY hr) RL.nil) ht) fun e w' hh=> ?_;obtain ⟨p,hp,hto,l,hl,j,he⟩:=hh;have hbel:=fG he (fun _ h=>h);unfold Vy at hp;simp only [yac,yae,yav] at hp;have DV:p.2=1:=by
    rcases hp with rfl|rfl|rfl|rfl|rfl|rfl|rfl|rfl|rfl|rfl|rfl|rfl|rfl|rfl|rfl|rfl|rfl|rfl|rfl|rfl|rfl|rfl
    all_goals first
      | rfl
      | (exfalso;simp only [aZ,aT,mV,gT,jY,nL,gG,den_add,den_mul,zag,en,ed,ev,ec,w1,w2,w3,w4,w5,Ca,yap,yat] at hto;omega)
  rw [DV] at hl;cases hl;exact ⟨he.ret,hbel⟩
end Go.Proofs
namespace Go.Proofs
open Go.Dw
def Tryz.zsl:List aK:= [⟨72,[rg],0,0,0,.int .i64 (.lit 0),0⟩]
def Tryz.zv8:List Sh:= []
def Tryz.zsm:List AV:= [rg,.int .i64 (.lit 1),.int .i64 (jW 4)]
def Tryz.zDc:List (SB×Bool):= [(.cmp .geq (jW 4) (ah 0),false)]
def Tryz.VQ:List Leaf:= [
 ⟨.aH [.int .u64 (.bin .add .u64 (af 1) (.bin .mul .u64 (.lit 16) (jW 4))),.int .i64 (.lit 16),.int .i64 (.lit 0)],[],[],0,[]⟩]
def Tryz.zFv:List (List (SB×Bool)×Nat):= [
 ([], 0)]
theorem Tryz.zDb:(ev prog (bG zsl) 100000 (.call 120 zsm (bn 0 zv8) (cK VQ 0))).ways zDc=some zFv:=by kernel_rfl
theorem Tryz.zFw:(bJ zv8&&bI zsl&&AV.bQ zsm&&dx VQ)=true:=by kernel_rfl
def Tryz.zsj:List aK:= [⟨72,[rg],0,0,0,.int .i64 (.lit 0),0⟩]
def Tryz.zv7:List Sh:= []
def Tryz.zsk:List AV:= [rg,.int .i64 (.lit 2),.int .i64 (.lit 0)]
def Tryz.zC9:List (SB×Bool):= []
def Tryz.VP:List Leaf:= [
 ⟨.aH [.int .u64 (af 2),.int .i64 (.lit 2),.int .i64 (.lit 0)],[],[],0,[]⟩]
def Tryz.zFt:List (List (SB×Bool)×Nat):= [
 ([], 0)]
theorem Tryz.zC8:(ev prog (bG zsj) 100000 (.call 120 zsk (bn 0 zv7) (cK VP 0))).ways zC9=some zFt:=by kernel_rfl
theorem Tryz.zFu:(bJ zv7&&bI zsj&&AV.bQ zsk&&dx VP)=true:=by kernel_rfl
def Tryz.zsh:List aK:= [⟨72,[rg],0,0,0,.int .i64 (.lit 0),0⟩]
def Tryz.zv5:List Sh:= []
def Tryz.zsi:List AV:= [rg,.int .i64 (.lit 3),.int .i64 (.lit 0)]
def Tryz.zC7:List (SB×Bool):= []
def Tryz.VO:List Leaf:= [
 ⟨.aH [.int .u64 (.bin .add .u64 (af 2) (.lit 2)),.int .i64 (.lit 2),.int .i64 (.lit 0)],[],[],0,[]⟩]
def Tryz.zFr:List (List (SB×Bool)×Nat):= [
 ([], 0)]
theorem Tryz.zC6:(ev prog (bG zsh) 100000 (.call 120 zsi (bn 0 zv5) (cK VO 0))).ways zC7=some zFr:=by kernel_rfl
theorem Tryz.zFs:(bJ zv5&&bI zsh&&AV.bQ zsi&&dx VO)=true:=by kernel_rfl
def Tryz.zsf:List aK:= [⟨72,[rg],0,0,0,.int .i64 (.lit 0),0⟩]
def Tryz.zv4:List Sh:= []
def Tryz.zsg:List AV:= [rg,.int .i64 (.lit 4),.int .i64 (jW 4)]
def Tryz.zC4:List (SB×Bool):= [(.cmp .geq (jW 4) (ah 0),false)]
def Tryz.VN:List Leaf:= [
 ⟨.aH [.int .u64 (.bin .add .u64 (.bin .add .u64 (af 2) (.lit 4)) (.bin .mul .u64 (.lit 2) (jW 4))),.int .i64 (.lit 2),.int .i64 (.lit 0)],[],[],0,[]⟩]
def Tryz.zFp:List (List (SB×Bool)×Nat):= [
 ([], 0)]
theorem Tryz.zC3:(ev prog (bG zsf) 100000 (.call 120 zsg (bn 0 zv4) (cK VN 0))).ways zC4=some zFp:=by kernel_rfl
theorem Tryz.zFq:(bJ zv4&&bI zsf&&AV.bQ zsg&&dx VN)=true:=by kernel_rfl
def Tryz.zsd:List aK:= [⟨72,[rg],0,0,0,.int .i64 (.lit 0),0⟩]
def Tryz.zv3:List Sh:= []
def Tryz.zse:List AV:= [rg,.int .i64 (.lit 5),.int .i64 (.lit 0)]
def Tryz.zC1:List (SB×Bool):= []
def Tryz.VL:List Leaf:= [
 ⟨.aH [.int .u64 (.bin .add .u64 (.bin .add .u64 (af 2) (.lit 4)) (.bin .mul .u64 (.lit 2) (ah 0))),.int .i64 (.lit 2),.int .i64 (.lit 0)],[],[],0,[]⟩]
def Tryz.zFn:List (List (SB×Bool)×Nat):= [
 ([], 0)]
theorem Tryz.zC0:(ev prog (bG zsd) 100000 (.call 120 zse (bn 0 zv3) (cK VL 0))).ways zC1=some zFn:=by kernel_rfl
theorem Tryz.zFo:(bJ zv3&&bI zsd&&AV.bQ zse&&dx VL)=true:=by kernel_rfl
def Tryz.zsb:List aK:= [⟨72,[rg],0,0,0,.int .i64 (.lit 0),0⟩]
def Tryz.zv2:List Sh:= []
def Tryz.zsc:List AV:= [rg,.int .i64 (.lit 7),.int .i64 (.lit 0)]
def Tryz.zCY:List (SB×Bool):= []
def Tryz.VK:List Leaf:= [
 ⟨.aH [.int .u64 (.bin .add .u64 (af 3) (.lit 2)),.int .i64 (.lit 2),.int .i64 (.lit 0)],[],[],0,[]⟩]
def Tryz.zFl:List (List (SB×Bool)×Nat):= [
 ([], 0)]
theorem Tryz.zCX:(ev prog (bG zsb) 100000 (.call 120 zsc (bn 0 zv2) (cK VK 0))).ways zCY=some zFl:=by kernel_rfl
theorem Tryz.zFm:(bJ zv2&&bI zsb&&AV.bQ zsc&&dx VK)=true:=by kernel_rfl
def Tryz.zr9:List aK:= [⟨72,[rg],0,0,0,.int .i64 (.lit 0),0⟩]
def Tryz.zv1:List Sh:= []
def Tryz.zsa:List AV:= [rg,.int .i64 (.lit 8),.int .i64 (jW 4)]
def Tryz.zCV:List (SB×Bool):= [(.cmp .geq (jW 4) (ah 0),false)]
def Tryz.VJ:List Leaf:= [
 ⟨.aH [.int .u64 (.bin .add .u64 (.bin .add .u64 (af 3) (.lit 4)) (.bin .mul .u64 (.lit 8) (jW 4))),.int .i64 (.lit 8),.int .i64 (.lit 0)],[],[],0,[]⟩]
def Tryz.zFj:List (List (SB×Bool)×Nat):= [
 ([], 0)]
theorem Tryz.zCU:(ev prog (bG zr9) 100000 (.call 120 zsa (bn 0 zv1) (cK VJ 0))).ways zCV=some zFj:=by kernel_rfl
theorem Tryz.zFk:(bJ zv1&&bI zr9&&AV.bQ zsa&&dx VJ)=true:=by kernel_rfl
def Tryz.zr7:List aK:= [⟨72,[rg],0,0,0,.int .i64 (.lit 0),0⟩]
def Tryz.zv0:List Sh:= []
def Tryz.zr8:List AV:= [rg,.int .i64 (.lit 9),.int .i64 (.lit 0)]
def Tryz.zCS:List (SB×Bool):= []
def Tryz.VI:List Leaf:= [
 ⟨.aH [.int .u64 (.bin .add .u64 (.bin .add .u64 (af 3) (.lit 4)) (.bin .mul .u64 (.lit 8) (ah 0))),.int .i64 (.lit 2),.int .i64 (.lit 0)],[],[],0,[]⟩]
def Tryz.zFh:List (List (SB×Bool)×Nat):= [
 ([], 0)]
theorem Tryz.zCR:(ev prog (bG zr7) 100000 (.call 120 zr8 (bn 0 zv0) (cK VI 0))).ways zCS=some zFh:=by kernel_rfl
theorem Tryz.zFi:(bJ zv0&&bI zr7&&AV.bQ zr8&&dx VI)=true:=by kernel_rfl
def Tryz.zor:List aK:= []
def Tryz.zsN:List Sh:= []
def Tryz.zos:List AV:= [.int .i64 (ah 0)]
def Tryz.zAx:List (SB×Bool):= []
def Tryz.zw8:List Leaf:= [
 ⟨.bool (.lit true),[],[],0,[]⟩,
 ⟨.bool (.lit false),[],[],0,[]⟩]
def Tryz.zw7:List (List (SB×Bool)×Nat):= [
 ([((.cmp .eql (.lit 1) (ah 0)),true)],0),
 ([((.cmp .eql (.lit 1) (ah 0)),false),((.cmp .eql (.lit 2) (ah 0)),true)],0),
 ([((.cmp .eql (.lit 1) (ah 0)),false),((.cmp .eql (.lit 2) (ah 0)),false),((.cmp .eql (.lit 4) (ah 0)),true)],0),
 ([((.cmp .eql (.lit 1) (ah 0)),false),((.cmp .eql (.lit 2) (ah 0)),false),((.cmp .eql (.lit 4) (ah 0)),false),((.cmp .eql (.lit 8) (ah 0)),true)],0),
 ([((.cmp .eql (.lit 1) (ah 0)),false),((.cmp .eql (.lit 2) (ah 0)),false),((.cmp .eql (.lit 4) (ah 0)),false),((.cmp .eql (.lit 8) (ah 0)),false),((.cmp .eql (.lit 16) (ah 0)),true)],0),
 ([((.cmp .eql (.lit 1) (ah 0)),false),((.cmp .eql (.lit 2) (ah 0)),false),((.cmp .eql (.lit 4) (ah 0)),false),((.cmp .eql (.lit 8) (ah 0)),false),((.cmp .eql (.lit 16) (ah 0)),false),((.cmp .eql (.lit 32) (ah 0)),true)],0),
 ([((.cmp .eql (.lit 1) (ah 0)),false),((.cmp .eql (.lit 2) (ah 0)),false),((.cmp .eql (.lit 4) (ah 0)),false),((.cmp .eql (.lit 8) (ah 0)),false),((.cmp .eql (.lit 16) (ah 0)),false),((.cmp .eql (.lit 32) (ah 0)),false),((.cmp .eql (.lit 64) (ah 0)),true)],0),
 ([((.cmp .eql (.lit 1) (ah 0)),false),((.cmp .eql (.lit 2) (ah 0)),false),((.cmp .eql (.lit 4) (ah 0)),false),((.cmp .eql (.lit 8) (ah 0)),false),((.cmp .eql (.lit 16) (ah 0)),false),((.cmp .eql (.lit 32) (ah 0)),false),((.cmp .eql (.lit 64) (ah 0)),false),((.cmp .eql (.lit 128) (ah 0)),true)],0),
 ([((.cmp .eql (.lit 1) (ah 0)),false),((.cmp .eql (.lit 2) (ah 0)),false),((.cmp .eql (.lit 4) (ah 0)),false),((.cmp .eql (.lit 8) (ah 0)),false),((.cmp .eql (.lit 16) (ah 0)),false),((.cmp .eql (.lit 32) (ah 0)),false),((.cmp .eql (.lit 64) (ah 0)),false),((.cmp .eql (.lit 128) (ah 0)),false),((.cmp .eql (.lit 256) (ah 0)),true)],0),
 ([((.cmp .eql (.lit 1) (ah 0)),false),((.cmp .eql (.lit 2) (ah 0)),false),((.cmp .eql (.lit 4) (ah 0)),false),((.cmp .eql (.lit 8) (ah 0)),false),((.cmp .eql (.lit 16) (ah 0)),false),((.cmp .eql (.lit 32) (ah 0)),false),((.cmp .eql (.lit 64) (ah 0)),false),((.cmp .eql (.lit 128) (ah 0)),false),((.cmp .eql (.lit 256) (ah 0)),false),((.cmp .eql (.lit 512) (ah 0)),true)],0),
 ([((.cmp .eql (.lit 1) (ah 0)),false),((.cmp .eql (.lit 2) (ah 0)),false),((.cmp .eql (.lit 4) (ah 0)),false),((.cmp .eql (.lit 8) (ah 0)),false),((.cmp .eql (.lit 16) (ah 0)),false),((.cmp .eql (.lit 32) (ah 0)),false),((.cmp .eql (.lit 64) (ah 0)),false),((.cmp .eql (.lit 128) (ah 0)),false),((.cmp .eql (.lit 256) (ah 0)),false),((.cmp .eql (.lit 512) (ah 0)),false),((.cmp .eql (.lit 1024) (ah 0)),true)],0),
 ([((.cmp .eql (.lit 1) (ah 0)),false),((.cmp .eql (.lit 2) (ah 0)),false),((.cmp .eql (.lit 4) (ah 0)),false),((.cmp .eql (.lit 8) (ah 0)),false),((.cmp .eql (.lit 16) (ah 0)),false),((.cmp .eql (.lit 32) (ah 0)),false),((.cmp .eql (.lit 64) (ah 0)),false),((.cmp .eql (.lit 128) (ah 0)),false),((.cmp .eql (.lit 256) (ah 0)),false),((.cmp .eql (.lit 512) (ah 0)),false),((.cmp .eql (.lit 1024) (ah 0)),false),((.cmp .eql (.lit 2048) (ah 0)),true)],0),
 ([((.cmp .eql (.lit 1) (ah 0)),false),((.cmp .eql (.lit 2) (ah 0)),false),((.cmp .eql (.lit 4) (ah 0)),false),((.cmp .eql (.lit 8) (ah 0)),false),((.cmp .eql (.lit 16) (ah 0)),false),((.cmp .eql (.lit 32) (ah 0)),false),((.cmp .eql (.lit 64) (ah 0)),false),((.cmp .eql (.lit 128) (ah 0)),false),((.cmp .eql (.lit 256) (ah 0)),false),((.cmp .eql (.lit 512) (ah 0)),false),((.cmp .eql (.lit 1024) (ah 0)),false),((.cmp .eql (.lit 2048) (ah 0)),false),((.cmp .eql (.lit 4096) (ah 0)),true)],0),
 ([((.cmp .eql (.lit 1) (ah 0)),false),((.cmp .eql (.lit 2) (ah 0)),false),((.cmp .eql (.lit 4) (ah 0)),false),((.cmp .eql (.lit 8) (ah 0)),false),((.cmp .eql (.lit 16) (ah 0)),false),((.cmp .eql (.lit 32) (ah 0)),false),((.cmp .eql (.lit 64) (ah 0)),false),((.cmp .eql (.lit 128) (ah 0)),false),((.cmp .eql (.lit 256) (ah 0)),false),((.cmp .eql (.lit 512) (ah 0)),false),((.cmp .eql (.lit 1024) (ah 0)),false),((.cmp .eql (.lit 2048) (ah 0)),false),((.cmp .eql (.lit 4096) (ah 0)),false),((.cmp .eql (.lit 8192) (ah 0)),true)],0),
 ([((.cmp .eql (.lit 1) (ah 0)),false),((.cmp .eql (.lit 2) (ah 0)),false),((.cmp .eql (.lit 4) (ah 0)),false),((.cmp .eql (.lit 8) (ah 0)),false),((.cmp .eql (.lit 16) (ah 0)),false),((.cmp .eql (.lit 32) (ah 0)),false),((.cmp .eql (.lit 64) (ah 0)),false),((.cmp .eql (.lit 128) (ah 0)),false),((.cmp .eql (.lit 256) (ah 0)),false),((.cmp .eql (.lit 512) (ah 0)),false),((.cmp .eql (.lit 1024) (ah 0)),false),((.cmp .eql (.lit 2048) (ah 0)),false),((.cmp .eql (.lit 4096) (ah 0)),false),((.cmp .eql (.lit 8192) (ah 0)),false),((.cmp .eql (.lit 16384) (ah 0)),true)],0),
 ([((.cmp .eql (.lit 1) (ah 0)),false),((.cmp .eql (.lit 2) (ah 0)),false),((.cmp .eql (.lit 4) (ah 0)),false),((.cmp .eql (.lit 8) (ah 0)),false),((.cmp .eql (.lit 16) (ah 0)),false),((.cmp .eql (.lit 32) (ah 0)),false),((.cmp .eql (.lit 64) (ah 0)),false),((.cmp .eql (.lit 128) (ah 0)),false),((.cmp .eql (.lit 256) (ah 0)),false),((.cmp .eql (.lit 512) (ah 0)),false),((.cmp .eql (.lit 1024) (ah 0)),false),((.cmp .eql (.lit 2048) (ah 0)),false),((.cmp .eql (.lit 4096) (ah 0)),false),((.cmp .eql (.lit 8192) (ah 0)),false),((.cmp .eql (.lit 16384) (ah 0)),false),((.cmp .eql (.lit 32768) (ah 0)),true)],0),
 ([((.cmp .eql (.lit 1) (ah 0)),false),((.cmp .eql (.lit 2) (ah 0)),false),((.cmp .eql (.lit 4) (ah 0)),false),((.cmp .eql (.lit 8) (ah 0)),false),((.cmp .eql (.lit 16) (ah 0)),false),((.cmp .eql (.lit 32) (ah 0)),false),((.cmp .eql (.lit 64) (ah 0)),false),((.cmp .eql (.lit 128) (ah 0)),false),((.cmp .eql (.lit 256) (ah 0)),false),((.cmp .eql (.lit 512) (ah 0)),false),((.cmp .eql (.lit 1024) (ah 0)),false),((.cmp .eql (.lit 2048) (ah 0)),false),((.cmp .eql (.lit 4096) (ah 0)),false),((.cmp .eql (.lit 8192) (ah 0)),false),((.cmp .eql (.lit 16384) (ah 0)),false),((.cmp .eql (.lit 32768) (ah 0)),false)],1)]
theorem Tryz.zAw:(ev prog (bG zor) 100000 (.call 95 zos (bn 0 zsN) (cK zw8 0))).ways zAx=some zw7:=by kernel_rfl
theorem Tryz.zDF:(bJ zsN&&bI zor&&AV.bQ zos&&dx zw8)=true:=by kernel_rfl
def Tryz.zoJ:List aK:= [⟨95,[.int .i64 (ah 0)],0,0,0,.bool (.lit true),0⟩]
def Tryz.zsZ:List Sh:= []
def Tryz.zoK:List AV:= [rg]
def Tryz.QS:List (SB×Bool):= [(.cmp .neq (.dG [⟨1,0,18446744073709551615,0,4,0⟩] 0) (.lit 0),false),(.cmp .neq (.dG [⟨2,0,18446744073709551615,0,1,0⟩] 0) (.lit 0),false),(.cmp .neq (.dG [⟨3,0,18446744073709551615,0,2,0⟩] 0) (.lit 0),false),(.cmp .lss (.bin .add .u64 (af 1) (.bin .sub .u64 (.bin .mul .u64 (.lit 16) (ah 0)) (.lit 1))) (af 1),false),(.cmp .lss (.bin .add .u64 (af 2) (.bin .sub .u64 (.bin .add .u64 (.lit 6) (.bin .mul .u64 (.lit 2) (ah 0))) (.lit 1))) (af 2),false),(.cmp .lss (.bin .add .u64 (af 3) (.bin .sub .u64 (.bin .add .u64 (.lit 6) (.bin .mul .u64 (.lit 8) (ah 0))) (.lit 1))) (af 3),false)]
def Tryz.zxu:List Leaf:= [
 ⟨.int .i64 (.lit 2),[],[],0,[]⟩,
 ⟨.int .i64 (.lit 0),[],[],0,[]⟩]
def Tryz.zxt:List (List (SB×Bool)×Nat):= [
 ([((.cmp .leq (af 2) (af 1)),true),((.cmp .lss (.bin .sub .u64 (af 1) (af 2)) (.bin .add .u64 (.lit 6) (.bin .mul .u64 (.lit 2) (ah 0)))),true)],0),
 ([((.cmp .leq (af 2) (af 1)),true),((.cmp .lss (.bin .sub .u64 (af 1) (af 2)) (.bin .add .u64 (.lit 6) (.bin .mul .u64 (.lit 2) (ah 0)))),false),((.cmp .leq (af 3) (af 1)),true),((.cmp .lss (.bin .sub .u64 (af 1) (af 3)) (.bin .add .u64 (.lit 6) (.bin .mul .u64 (.lit 8) (ah 0)))),true)],0),
 ([((.cmp .leq (af 2) (af 1)),true),((.cmp .lss (.bin .sub .u64 (af 1) (af 2)) (.bin .add .u64 (.lit 6) (.bin .mul .u64 (.lit 2) (ah 0)))),false),((.cmp .leq (af 3) (af 1)),true),((.cmp .lss (.bin .sub .u64 (af 1) (af 3)) (.bin .add .u64 (.lit 6) (.bin .mul .u64 (.lit 8) (ah 0)))),false),((.cmp .leq (af 3) (af 2)),true),((.cmp .lss (.bin .sub .u64 (af 2) (af 3)) (.bin .add .u64 (.lit 6) (.bin .mul .u64 (.lit 8) (ah 0)))),true)],0),
 ([((.cmp .leq (af 2) (af 1)),true),((.cmp .lss (.bin .sub .u64 (af 1) (af 2)) (.bin .add .u64 (.lit 6) (.bin .mul .u64 (.lit 2) (ah 0)))),false),((.cmp .leq (af 3) (af 1)),true),((.cmp .lss (.bin .sub .u64 (af 1) (af 3)) (.bin .add .u64 (.lit 6) (.bin .mul .u64 (.lit 8) (ah 0)))),false),((.cmp .leq (af 3) (af 2)),true),((.cmp .lss (.bin .sub .u64 (af 2) (af 3)) (.bin .add .u64 (.lit 6) (.bin .mul .u64 (.lit 8) (ah 0)))),false)],1),
 ([((.cmp .leq (af 2) (af 1)),true),((.cmp .lss (.bin .sub .u64 (af 1) (af 2)) (.bin .add .u64 (.lit 6) (.bin .mul .u64 (.lit 2) (ah 0)))),false),((.cmp .leq (af 3) (af 1)),true),((.cmp .lss (.bin .sub .u64 (af 1) (af 3)) (.bin .add .u64 (.lit 6) (.bin .mul .u64 (.lit 8) (ah 0)))),false),((.cmp .leq (af 3) (af 2)),false),((.cmp .lss (.bin .sub .u64 (af 3) (af 2)) (.bin .add .u64 (.lit 6) (.bin .mul .u64 (.lit 2) (ah 0)))),true)],0),
 ([((.cmp .leq (af 2) (af 1)),true),((.cmp .lss (.bin .sub .u64 (af 1) (af 2)) (.bin .add .u64 (.lit 6) (.bin .mul .u64 (.lit 2) (ah 0)))),false),((.cmp .leq (af 3) (af 1)),true),((.cmp .lss (.bin .sub .u64 (af 1) (af 3)) (.bin .add .u64 (.lit 6) (.bin .mul .u64 (.lit 8) (ah 0)))),false),((.cmp .leq (af 3) (af 2)),false),((.cmp .lss (.bin .sub .u64 (af 3) (af 2)) (.bin .add .u64 (.lit 6) (.bin .mul .u64 (.lit 2) (ah 0)))),false)],1),
 ([((.cmp .leq (af 2) (af 1)),true),((.cmp .lss (.bin .sub .u64 (af 1) (af 2)) (.bin .add .u64 (.lit 6) (.bin .mul .u64 (.lit 2) (ah 0)))),false),((.cmp .leq (af 3) (af 1)),false),((.cmp .lss (.bin .sub .u64 (af 3) (af 1)) (.bin .mul .u64 (.lit 16) (ah 0))),true)],0),
 ([((.cmp .leq (af 2) (af 1)),true),((.cmp .lss (.bin .sub .u64 (af 1) (af 2)) (.bin .add .u64 (.lit 6) (.bin .mul .u64 (.lit 2) (ah 0)))),false),((.cmp .leq (af 3) (af 1)),false),((.cmp .lss (.bin .sub .u64 (af 3) (af 1)) (.bin .mul .u64 (.lit 16) (ah 0))),false),((.cmp .leq (af 3) (af 2)),true),((.cmp .lss (.bin .sub .u64 (af 2) (af 3)) (.bin .add .u64 (.lit 6) (.bin .mul .u64 (.lit 8) (ah 0)))),true)],0),
 ([((.cmp .leq (af 2) (af 1)),true),((.cmp .lss (.bin .sub .u64 (af 1) (af 2)) (.bin .add .u64 (.lit 6) (.bin .mul .u64 (.lit 2) (ah 0)))),false),((.cmp .leq (af 3) (af 1)),false),((.cmp .lss (.bin .sub .u64 (af 3) (af 1)) (.bin .mul .u64 (.lit 16) (ah 0))),false),((.cmp .leq (af 3) (af 2)),true),((.cmp .lss (.bin .sub .u64 (af 2) (af 3)) (.bin .add .u64 (.lit 6) (.bin .mul .u64 (.lit 8) (ah 0)))),false)],1),
 ([((.cmp .leq (af 2) (af 1)),true),((.cmp .lss (.bin .sub .u64 (af 1) (af 2)) (.bin .add .u64 (.lit 6) (.bin .mul .u64 (.lit 2) (ah 0)))),false),((.cmp .leq (af 3) (af 1)),false),((.cmp .lss (.bin .sub .u64 (af 3) (af 1)) (.bin .mul .u64 (.lit 16) (ah 0))),false),((.cmp .leq (af 3) (af 2)),false),((.cmp .lss (.bin .sub .u64 (af 3) (af 2)) (.bin .add .u64 (.lit 6) (.bin .mul .u64 (.lit 2) (ah 0)))),true)],0),
 ([((.cmp .leq (af 2) (af 1)),true),((.cmp .lss (.bin .sub .u64 (af 1) (af 2)) (.bin .add .u64 (.lit 6) (.bin .mul .u64 (.lit 2) (ah 0)))),false),((.cmp .leq (af 3) (af 1)),false),((.cmp .lss (.bin .sub .u64 (af 3) (af 1)) (.bin .mul .u64 (.lit 16) (ah 0))),false),((.cmp .leq (af 3) (af 2)),false),((.cmp .lss (.bin .sub .u64 (af 3) (af 2)) (.bin .add .u64 (.lit 6) (.bin .mul .u64 (.lit 2) (ah 0)))),false)],1),
 ([((.cmp .leq (af 2) (af 1)),false),((.cmp .lss (.bin .sub .u64 (af 2) (af 1)) (.bin .mul .u64 (.lit 16) (ah 0))),true)],0),
 ([((.cmp .leq (af 2) (af 1)),false),((.cmp .lss (.bin .sub .u64 (af 2) (af 1)) (.bin .mul .u64 (.lit 16) (ah 0))),false),((.cmp .leq (af 3) (af 1)),true),((.cmp .lss (.bin .sub .u64 (af 1) (af 3)) (.bin .add .u64 (.lit 6) (.bin .mul .u64 (.lit 8) (ah 0)))),true)],0),
 ([((.cmp .leq (af 2) (af 1)),false),((.cmp .lss (.bin .sub .u64 (af 2) (af 1)) (.bin .mul .u64 (.lit 16) (ah 0))),false),((.cmp .leq (af 3) (af 1)),true),((.cmp .lss (.bin .sub .u64 (af 1) (af 3)) (.bin .add .u64 (.lit 6) (.bin .mul .u64 (.lit 8) (ah 0)))),false),((.cmp .leq (af 3) (af 2)),true),((.cmp .lss (.bin .sub .u64 (af 2) (af 3)) (.bin .add .u64 (.lit 6) (.bin .mul .u64 (.lit 8) (ah 0)))),true)],0),
 ([((.cmp .leq (af 2) (af 1)),false),((.cmp .lss (.bin .sub .u64 (af 2) (af 1)) (.bin .mul .u64 (.lit 16) (ah 0))),false),((.cmp .leq (af 3) (af 1)),true),((.cmp .lss (.bin .sub .u64 (af 1) (af 3)) (.bin .add .u64 (.lit 6) (.bin .mul .u64 (.lit 8) (ah 0)))),false),((.cmp .leq (af 3) (af 2)),true),((.cmp .lss (.bin .sub .u64 (af 2) (af 3)) (.bin .add .u64 (.lit 6) (.bin .mul .u64 (.lit 8) (ah 0)))),false)],1),
 ([((.cmp .leq (af 2) (af 1)),false),((.cmp .lss (.bin .sub .u64 (af 2) (af 1)) (.bin .mul .u64 (.lit 16) (ah 0))),false),((.cmp .leq (af 3) (af 1)),true),((.cmp .lss (.bin .sub .u64 (af 1) (af 3)) (.bin .add .u64 (.lit 6) (.bin .mul .u64 (.lit 8) (ah 0)))),false),((.cmp .leq (af 3) (af 2)),false),((.cmp .lss (.bin .sub .u64 (af 3) (af 2)) (.bin .add .u64 (.lit 6) (.bin .mul .u64 (.lit 2) (ah 0)))),true)],0),
 ([((.cmp .leq (af 2) (af 1)),false),((.cmp .lss (.bin .sub .u64 (af 2) (af 1)) (.bin .mul .u64 (.lit 16) (ah 0))),false),((.cmp .leq (af 3) (af 1)),true),((.cmp .lss (.bin .sub .u64 (af 1) (af 3)) (.bin .add .u64 (.lit 6) (.bin .mul .u64 (.lit 8) (ah 0)))),false),((.cmp .leq (af 3) (af 2)),false),((.cmp .lss (.bin .sub .u64 (af 3) (af 2)) (.bin .add .u64 (.lit 6) (.bin .mul .u64 (.lit 2) (ah 0)))),false)],1),
 ([((.cmp .leq (af 2) (af 1)),false),((.cmp .lss (.bin .sub .u64 (af 2) (af 1)) (.bin .mul .u64 (.lit 16) (ah 0))),false),((.cmp .leq (af 3) (af 1)),false),((.cmp .lss (.bin .sub .u64 (af 3) (af 1)) (.bin .mul .u64 (.lit 16) (ah 0))),true)],0),
 ([((.cmp .leq (af 2) (af 1)),false),((.cmp .lss (.bin .sub .u64 (af 2) (af 1)) (.bin .mul .u64 (.lit 16) (ah 0))),false),((.cmp .leq (af 3) (af 1)),false),((.cmp .lss (.bin .sub .u64 (af 3) (af 1)) (.bin .mul .u64 (.lit 16) (ah 0))),false),((.cmp .leq (af 3) (af 2)),true),((.cmp .lss (.bin .sub .u64 (af 2) (af 3)) (.bin .add .u64 (.lit 6) (.bin .mul .u64 (.lit 8) (ah 0)))),true)],0),
 ([((.cmp .leq (af 2) (af 1)),false),((.cmp .lss (.bin .sub .u64 (af 2) (af 1)) (.bin .mul .u64 (.lit 16) (ah 0))),false),((.cmp .leq (af 3) (af 1)),false),((.cmp .lss (.bin .sub .u64 (af 3) (af 1)) (.bin .mul .u64 (.lit 16) (ah 0))),false),((.cmp .leq (af 3) (af 2)),true),((.cmp .lss (.bin .sub .u64 (af 2) (af 3)) (.bin .add .u64 (.lit 6) (.bin .mul .u64 (.lit 8) (ah 0)))),false)],1),
 ([((.cmp .leq (af 2) (af 1)),false),((.cmp .lss (.bin .sub .u64 (af 2) (af 1)) (.bin .mul .u64 (.lit 16) (ah 0))),false),((.cmp .leq (af 3) (af 1)),false),((.cmp .lss (.bin .sub .u64 (af 3) (af 1)) (.bin .mul .u64 (.lit 16) (ah 0))),false),((.cmp .leq (af 3) (af 2)),false),((.cmp .lss (.bin .sub .u64 (af 3) (af 2)) (.bin .add .u64 (.lit 6) (.bin .mul .u64 (.lit 2) (ah 0)))),true)],0),
 ([((.cmp .leq (af 2) (af 1)),false),((.cmp .lss (.bin .sub .u64 (af 2) (af 1)) (.bin .mul .u64 (.lit 16) (ah 0))),false),((.cmp .leq (af 3) (af 1)),false),((.cmp .lss (.bin .sub .u64 (af 3) (af 1)) (.bin .mul .u64 (.lit 16) (ah 0))),false),((.cmp .leq (af 3) (af 2)),false),((.cmp .lss (.bin .sub .u64 (af 3) (af 2)) (.bin .add .u64 (.lit 6) (.bin .mul .u64 (.lit 2) (ah 0)))),false)],1)]
theorem Tryz.zAQ:(ev prog (bG zoJ) 100000 (.call 62 zoK (bn 0 zsZ) (cK zxu 0))).ways QS=some zxt:=by kernel_rfl
theorem Tryz.zDS:(bJ zsZ&&bI zoJ&&AV.bQ zoK&&dx zxu)=true:=by kernel_rfl
def Tryz.zok:List aK:= [⟨62,[rg],0,0,0,.int .i64 (.lit 0),0⟩]
def Tryz.zsK:List Sh:= []
def Tryz.zol:List AV:= [rg,.int .i64 (.lit 2),.int .i64 (.lit 0)]
def Tryz.zAo:List (SB×Bool):= []
def Tryz.zwZ:List Leaf:= [
 ⟨.aH [.int .u64 (af 2),.int .i64 (.lit 2),.int .i64 (.lit 0)],[],[],0,[]⟩]
def Tryz.zDB:List (List (SB×Bool)×Nat):= [
 ([], 0)]
theorem Tryz.zAn:(ev prog (bG zok) 100000 (.call 20 zol (bn 0 zsK) (cK zwZ 0))).ways zAo=some zDB:=by kernel_rfl
theorem Tryz.zDC:(bJ zsK&&bI zok&&AV.bQ zol&&dx zwZ)=true:=by kernel_rfl
def Tryz.zoi:List aK:= [⟨62,[rg],0,0,0,.int .i64 (.lit 0),0⟩]
def Tryz.zsJ:List Sh:= []
def Tryz.zoj:List AV:= [rg,.int .i64 (.lit 3),.int .i64 (.lit 0)]
def Tryz.zAm:List (SB×Bool):= []
def Tryz.zwY:List Leaf:= [
 ⟨.aH [.int .u64 (.bin .add .u64 (af 2) (.lit 2)),.int .i64 (.lit 2),.int .i64 (.lit 0)],[],[],0,[]⟩]
def Tryz.zDz:List (List (SB×Bool)×Nat):= [
 ([], 0)]
theorem Tryz.zAl:(ev prog (bG zoi) 100000 (.call 20 zoj (bn 0 zsJ) (cK zwY 0))).ways zAm=some zDz:=by kernel_rfl
theorem Tryz.zDA:(bJ zsJ&&bI zoi&&AV.bQ zoj&&dx zwY)=true:=by kernel_rfl
def Tryz.zog:List aK:= [⟨62,[rg],0,0,0,.int .i64 (.lit 0),0⟩]
def Tryz.zsH:List Sh:= []
def Tryz.zoh:List AV:= [rg,.int .i64 (.lit 4),.int .i64 (jW 4)]
def Tryz.zAk:List (SB×Bool):= [(.cmp .geq (jW 4) (ah 0),false)]
def Tryz.zwX:List Leaf:= [
 ⟨.aH [.int .u64 (.bin .add .u64 (.bin .add .u64 (af 2) (.lit 4)) (.bin .mul .u64 (.lit 2) (jW 4))),.int .i64 (.lit 2),.int .i64 (.lit 0)],[],[],0,[]⟩]
def Tryz.zDx:List (List (SB×Bool)×Nat):= [
 ([], 0)]
theorem Tryz.zAj:(ev prog (bG zog) 100000 (.call 20 zoh (bn 0 zsH) (cK zwX 0))).ways zAk=some zDx:=by kernel_rfl
theorem Tryz.zDy:(bJ zsH&&bI zog&&AV.bQ zoh&&dx zwX)=true:=by kernel_rfl
def Tryz.zoe:List aK:= [⟨62,[rg],0,0,0,.int .i64 (.lit 0),0⟩]
def Tryz.zsG:List Sh:= []
def Tryz.zof:List AV:= [rg,.int .i64 (.lit 5),.int .i64 (.lit 0)]
def Tryz.zAh:List (SB×Bool):= []
def Tryz.zwW:List Leaf:= [
 ⟨.aH [.int .u64 (.bin .add .u64 (.bin .add .u64 (af 2) (.lit 4)) (.bin .mul .u64 (.lit 2) (ah 0))),.int .i64 (.lit 2),.int .i64 (.lit 0)],[],[],0,[]⟩]
def Tryz.zDv:List (List (SB×Bool)×Nat):= [
 ([], 0)]
theorem Tryz.zAg:(ev prog (bG zoe) 100000 (.call 20 zof (bn 0 zsG) (cK zwW 0))).ways zAh=some zDv:=by kernel_rfl
theorem Tryz.zDw:(bJ zsG&&bI zoe&&AV.bQ zof&&dx zwW)=true:=by kernel_rfl
def Tryz.zoc:List aK:= [⟨62,[rg],0,0,0,.int .i64 (.lit 0),0⟩]
def Tryz.zsF:List Sh:= []
def Tryz.zod:List AV:= [rg,.int .i64 (.lit 7),.int .i64 (.lit 0)]
def Tryz.zAe:List (SB×Bool):= []
def Tryz.zwV:List Leaf:= [
 ⟨.aH [.int .u64 (.bin .add .u64 (af 3) (.lit 2)),.int .i64 (.lit 2),.int .i64 (.lit 0)],[],[],0,[]⟩]
def Tryz.zDt:List (List (SB×Bool)×Nat):= [
 ([], 0)]
theorem Tryz.zAd:(ev prog (bG zoc) 100000 (.call 20 zod (bn 0 zsF) (cK zwV 0))).ways zAe=some zDt:=by kernel_rfl
theorem Tryz.zDu:(bJ zsF&&bI zoc&&AV.bQ zod&&dx zwV)=true:=by kernel_rfl
def Tryz.zoa:List aK:= [⟨62,[rg],0,0,0,.int .i64 (.lit 0),0⟩]
def Tryz.zsE:List Sh:= []
def Tryz.zob:List AV:= [rg,.int .i64 (.lit 8),.int .i64 (jW 4)]
def Tryz.zAb:List (SB×Bool):= [(.cmp .geq (jW 4) (ah 0),false)]
def Tryz.zwU:List Leaf:= [
 ⟨.aH [.int .u64 (.bin .add .u64 (.bin .add .u64 (af 3) (.lit 4)) (.bin .mul .u64 (.lit 8) (jW 4))),.int .i64 (.lit 8),.int .i64 (.lit 0)],[],[],0,[]⟩]
def Tryz.zDr:List (List (SB×Bool)×Nat):= [
 ([], 0)]
theorem Tryz.zAa:(ev prog (bG zoa) 100000 (.call 20 zob (bn 0 zsE) (cK zwU 0))).ways zAb=some zDr:=by kernel_rfl
theorem Tryz.zDs:(bJ zsE&&bI zoa&&AV.bQ zob&&dx zwU)=true:=by kernel_rfl
def Tryz.zn8:List aK:= [⟨62,[rg],0,0,0,.int .i64 (.lit 0),0⟩]
def Tryz.zsD:List Sh:= []
def Tryz.zn9:List AV:= [rg,.int .i64 (.lit 9),.int .i64 (.lit 0)]
def Tryz.zz8:List (SB×Bool):= []
def Tryz.zwT:List Leaf:= [
 ⟨.aH [.int .u64 (.bin .add .u64 (.bin .add .u64 (af 3) (.lit 4)) (.bin .mul .u64 (.lit 8) (ah 0))),.int .i64 (.lit 2),.int .i64 (.lit 0)],[],[],0,[]⟩]
def Tryz.zDp:List (List (SB×Bool)×Nat):= [
 ([], 0)]
theorem Tryz.zz7:(ev prog (bG zn8) 100000 (.call 20 zn9 (bn 0 zsD) (cK zwT 0))).ways zz8=some zDp:=by kernel_rfl
theorem Tryz.zDq:(bJ zsD&&bI zn8&&AV.bQ zn9&&dx zwT)=true:=by kernel_rfl
open Go.RowKit
theorem Tryz.zAy (r:Rg) (h:RgOk r) (w:World):Calls prog 95 #[.int .i64 r.n] w fun e w'=>e= .returned (.bool true)∧Below w.heap.size w w':=by
  have en:=jH (is:= []) (bs:= []) (vs:= []) h;refine yas (eD (ρ:=fu r [] [] []) (K:=fun _=>False) (g:=aU.none) (bl:= []) (vals:= [.int .i64 r.n]) mixed zAw zDF (fun _ h=>h.elim) trivial trivial eH trivial (ai (aA en) RL.nil) (fun _ h=>by cases h)) fun e w' hh=> ?_;obtain ⟨p,hp,hto,l,hl,j,he⟩:=hh;have hbel:=fG he (fun _ h=>h);unfold zw7 at hp;simp only [yac,yae,yav] at hp;have DV:p.2=0:=by
    obtain ⟨k,hk,hn⟩:=h.pow;have aaH:k=0∨k=1∨k=2∨k=3∨k=4∨k=5∨k=6∨k=7∨k=8∨k=9∨k=10∨k=11∨k=12∨k=13∨k=14∨k=15:=by omega
    rcases hp with rfl|rfl|rfl|rfl|rfl|rfl|rfl|rfl|rfl|rfl|rfl|rfl|rfl|rfl|rfl|rfl|rfl
    all_goals first
      | rfl
      | (exfalso;simp only [aZ,aT,qK,zag,en,ybD,ne_eq] at hto;rcases aaH with rfl|rfl|rfl|rfl|rfl|rfl|rfl|rfl|rfl|rfl|rfl|rfl|rfl|rfl|rfl|rfl<;>(simp only [Int.reducePow,Nat.reducePow,ycT,Int.pow_zero] at hn;omega))
  rw [DV] at hl;cases hl;exact ⟨he.ret,hbel⟩
theorem Tryz.vB (r:Rg) (h:RgOk r) (w:World):Calls prog 62 #[r.val] w fun e w'=>e= .returned (.int .i64 0)∧Below w.heap.size w w':=by
  have hb:=h.bnd;obtain ⟨H9,d0,v0,c0,d16,v2,c4,dE,vE,cE,dv,dc,vc⟩:=h;have hr:RgOk r:=⟨H9,d0,v0,c0,d16,v2,c4,dE,vE,cE,dv,dc,vc⟩;have en:=jH (is:= []) (bs:= []) (vs:= []) hr;have ed:=jR (is:= []) (bs:= []) (vs:= []) hr;have ev:=kg (is:= []) (bs:= []) (vs:= []) hr;have ec:=ko (is:= []) (bs:= []) (vs:= []) hr;have l1:=Ci (ρ:=fu r [] [] []) (i:=1) (n:=4) d0 (by show r.d<_;omega);have l2:=Ci (ρ:=fu r [] [] []) (i:=2) (n:=1) v0 (by show r.v<_;omega);have l3:=Ci (ρ:=fu r [] [] []) (i:=3) (n:=2) c0 (by show r.c<_;omega);have w1:IntKind.wrap .u64 (16*r.n)=16*r.n:=bE (by omega) (by omega);have w2:IntKind.wrap .u64 (2*r.n)=2*r.n:=bE (by omega) (by omega);have w3:IntKind.wrap .u64 (8*r.n)=8*r.n:=bE (by omega) (by omega);have w4:IntKind.wrap .u64 (6+2*r.n)=6+2*r.n:=bE (by omega) (by omega);have w5:IntKind.wrap .u64 (6+8*r.n)=6+8*r.n:=bE (by omega) (by omega);have w6:IntKind.wrap .u64 (16*r.n-1)=16*r.n-1:=bE (by omega) (by omega);have w7:IntKind.wrap .u64 (6+2*r.n-1)=6+2*r.n-1:=bE (by omega) (by omega);have w8:IntKind.wrap .u64 (6+8*r.n-1)=6+8*r.n-1:=bE (by omega) (by omega);have x1:IntKind.wrap .u64 (18446744073709551615-r.d)=18446744073709551615-r.d:=bE (by omega) (by omega);have x2:IntKind.wrap .u64 (18446744073709551615-r.v)=18446744073709551615-r.v:=bE (by omega) (by omega);have x3:IntKind.wrap .u64 (18446744073709551615-r.c)=18446744073709551615-r.c:=bE (by omega) (by omega);have ht:Dw.Told (fu r [] [] []) QS:=by
    unfold QS;have y1:IntKind.wrap .u64 (r.d+(16*r.n-1))=r.d+(16*r.n-1):=bE (by omega) (by omega);have y2:IntKind.wrap .u64 (r.v+(6+2*r.n-1))=r.v+(6+2*r.n-1):=bE (by omega) (by omega);have y3:IntKind.wrap .u64 (r.c+(6+8*r.n-1))=r.c+(6+8*r.n-1):=bE (by omega) (by omega);simp only [aZ,aT,lU,gT,gG,den_add,den_mul,zag,l1,l2,l3,en,ed,ev,ec,w1,w2,w3,w4,w5,w6,w7,w8,y1,y2,y3];refine ⟨?_,?_,?_,?_,?_,?_,trivial⟩
    · show ((r.d%2^4) !=0)=false;have:r.d%2^4=0:=d16;rw [this];rfl
    · show ((r.v%2^1) !=0)=false;have:r.v%2^1=0:=v2;rw [this];rfl
    · show ((r.c%2^2) !=0)=false;have:r.c%2^2=0:=c4;rw [this];rfl
    all_goals (simp;omega)
  refine yas (eD (K:=fun _=>False) (g:=aU.none) (bl:= []) (vals:= [r.val]) mixed zAQ zDS (fun _ h=>h.elim) trivial trivial eH ⟨iU (Dw.enters_of (by kernel_rfl)) rfl [.int .i64 r.n] (.bool true) (fun j=>ai (aA en) RL.nil) (fun j=>fA rfl) (fun w _ _ _=>zAy r hr w),trivial⟩ (ai (dY hr) RL.nil) ht) fun e w' hh=> ?_;obtain ⟨p,hp,hto,l,hl,j,he⟩:=hh;have hbel:=fG he (fun _ h=>h);unfold zxt at hp;simp only [yac,yae,yav] at hp;have DV:p.2=1:=by
    rcases hp with rfl|rfl|rfl|rfl|rfl|rfl|rfl|rfl|rfl|rfl|rfl|rfl|rfl|rfl|rfl|rfl|rfl|rfl|rfl|rfl|rfl|rfl
    all_goals first
      | rfl
      | (exfalso;simp only [aZ,aT,mV,gT,jY,nL,gG,den_add,den_mul,zag,en,ed,ev,ec,w1,w2,w3,w4,w5,Ca,yap,yat] at hto;omega)
  rw [DV] at hl;cases hl;exact ⟨he.ret,hbel⟩
theorem Tryz.zGp (r:Rg) (h:RgOk r) (i:Int) (hi:0≤i∧i<r.n) (w:World):Calls prog 120 #[r.val,.int .i64 1,.int .i64 i] w fun e w'=>e= .returned (.tuple #[.int .u64 (r.d+16*i),.int .i64 16,.int .i64 0])∧Below w.heap.size w w':=by
 have hb:=h.bnd;have e1:=jH (is:= [i]) (bs:= []) (vs:= []) h;have e2:=jR (is:= [i]) (bs:= []) (vs:= []) h;have e3:=kg (is:= [i]) (bs:= []) (vs:= []) h;have e4:=ko (is:= [i]) (bs:= []) (vs:= []) h;have q1:=h.dE;have q2:=h.vE;have q3:=h.cE;have q4:=h.d0;have q5:=h.v0;have q6:=h.c0;have e5:(jW 4).den (fu r [i] [] [])=i:=FW hi.1 (by show i<32768;omega);have w1:IntKind.wrap .u64 (16*i)=16*i:=bE (by omega) (by omega);have w2:IntKind.wrap .u64 (r.d+16*i)=r.d+16*i:=bE (by omega) (by omega);refine yas (eD (ρ:=(fu r [i] [] [])) (K:=fun _=>False) (g:=aU.none) (bl:= []) (vals:= [r.val,.int .i64 1,.int .i64 i]) mixed zDb zFw (fun _ h=>h.elim) trivial trivial eH ⟨iU (Dw.enters_of (by kernel_rfl)) rfl [r.val] (.int .i64 0) (fun j=>ai (dY h) RL.nil) (fun j=>aA rfl) (fun w _ _ _=>tZ r h w),trivial⟩ (ai (dY h) (ai (aA rfl) (ai (aA e5) RL.nil))) (aZ.2 ⟨by rw [nL,e5,e1];simp;omega,aT.2 trivial⟩)) fun e w' hh=> ?_;obtain ⟨_,j,he⟩:=iN hh;refine ⟨he.ret.trans ?_,fG he (fun _ h=>h)⟩;simp only [AV.val,AV.aP,den_add,den_mul,zag,e1,e2,e3,e4,e5,w1,w2]
theorem Tryz.zDa (r:Rg) (h:RgOk r) (w:World):Calls prog 120 #[r.val,.int .i64 2,.int .i64 0] w fun e w'=>e= .returned (.tuple #[.int .u64 (r.v),.int .i64 2,.int .i64 0])∧Below w.heap.size w w':=by
 have hb:=h.bnd;have e1:=jH (is:= []) (bs:= []) (vs:= []) h;have e2:=jR (is:= []) (bs:= []) (vs:= []) h;have e3:=kg (is:= []) (bs:= []) (vs:= []) h;have e4:=ko (is:= []) (bs:= []) (vs:= []) h;have q1:=h.dE;have q2:=h.vE;have q3:=h.cE;have q4:=h.d0;have q5:=h.v0;have q6:=h.c0;refine yas (eD (ρ:=(fu r [] [] [])) (K:=fun _=>False) (g:=aU.none) (bl:= []) (vals:= [r.val,.int .i64 2,.int .i64 0]) mixed zC8 zFu (fun _ h=>h.elim) trivial trivial eH ⟨iU (Dw.enters_of (by kernel_rfl)) rfl [r.val] (.int .i64 0) (fun j=>ai (dY h) RL.nil) (fun j=>aA rfl) (fun w _ _ _=>tZ r h w),trivial⟩ (ai (dY h) (ai (aA rfl) (ai (aA rfl) RL.nil))) (aT.2 trivial)) fun e w' hh=> ?_;obtain ⟨_,j,he⟩:=iN hh;refine ⟨he.ret.trans ?_,fG he (fun _ h=>h)⟩;simp only [AV.val,AV.aP,den_add,den_mul,zag,e1,e2,e3,e4]
theorem Tryz.zv6 (r:Rg) (h:RgOk r) (w:World):Calls prog 120 #[r.val,.int .i64 3,.int .i64 0] w fun e w'=>e= .returned (.tuple #[.int .u64 (r.v+2),.int .i64 2,.int .i64 0])∧Below w.heap.size w w':=by
 have hb:=h.bnd;have e1:=jH (is:= []) (bs:= []) (vs:= []) h;have e2:=jR (is:= []) (bs:= []) (vs:= []) h;have e3:=kg (is:= []) (bs:= []) (vs:= []) h;have e4:=ko (is:= []) (bs:= []) (vs:= []) h;have q1:=h.dE;have q2:=h.vE;have q3:=h.cE;have q4:=h.d0;have q5:=h.v0;have q6:=h.c0;have w2:IntKind.wrap .u64 (r.v+2)=r.v+2:=bE (by omega) (by omega);refine yas (eD (ρ:=(fu r [] [] [])) (K:=fun _=>False) (g:=aU.none) (bl:= []) (vals:= [r.val,.int .i64 3,.int .i64 0]) mixed zC6 zFs (fun _ h=>h.elim) trivial trivial eH ⟨iU (Dw.enters_of (by kernel_rfl)) rfl [r.val] (.int .i64 0) (fun j=>ai (dY h) RL.nil) (fun j=>aA rfl) (fun w _ _ _=>tZ r h w),trivial⟩ (ai (dY h) (ai (aA rfl) (ai (aA rfl) RL.nil))) (aT.2 trivial)) fun e w' hh=> ?_;obtain ⟨_,j,he⟩:=iN hh;refine ⟨he.ret.trans ?_,fG he (fun _ h=>h)⟩;simp only [AV.val,AV.aP,den_add,den_mul,zag,e1,e2,e3,e4,w2]
theorem Tryz.zC5 (r:Rg) (h:RgOk r) (i:Int) (hi:0≤i∧i<r.n) (w:World):Calls prog 120 #[r.val,.int .i64 4,.int .i64 i] w fun e w'=>e= .returned (.tuple #[.int .u64 (r.v+4+2*i),.int .i64 2,.int .i64 0])∧Below w.heap.size w w':=by
 have hb:=h.bnd;have e1:=jH (is:= [i]) (bs:= []) (vs:= []) h;have e2:=jR (is:= [i]) (bs:= []) (vs:= []) h;have e3:=kg (is:= [i]) (bs:= []) (vs:= []) h;have e4:=ko (is:= [i]) (bs:= []) (vs:= []) h;have q1:=h.dE;have q2:=h.vE;have q3:=h.cE;have q4:=h.d0;have q5:=h.v0;have q6:=h.c0;have e5:(jW 4).den (fu r [i] [] [])=i:=FW hi.1 (by show i<32768;omega);have w1:IntKind.wrap .u64 (2*i)=2*i:=bE (by omega) (by omega);have w3:IntKind.wrap .u64 (r.v+4)=r.v+4:=bE (by omega) (by omega);have w2:IntKind.wrap .u64 (r.v+4+2*i)=r.v+4+2*i:=bE (by omega) (by omega);refine yas (eD (ρ:=(fu r [i] [] [])) (K:=fun _=>False) (g:=aU.none) (bl:= []) (vals:= [r.val,.int .i64 4,.int .i64 i]) mixed zC3 zFq (fun _ h=>h.elim) trivial trivial eH ⟨iU (Dw.enters_of (by kernel_rfl)) rfl [r.val] (.int .i64 0) (fun j=>ai (dY h) RL.nil) (fun j=>aA rfl) (fun w _ _ _=>tZ r h w),trivial⟩ (ai (dY h) (ai (aA rfl) (ai (aA e5) RL.nil))) (aZ.2 ⟨by rw [nL,e5,e1];simp;omega,aT.2 trivial⟩)) fun e w' hh=> ?_;obtain ⟨_,j,he⟩:=iN hh;refine ⟨he.ret.trans ?_,fG he (fun _ h=>h)⟩;simp only [AV.val,AV.aP,den_add,den_mul,zag,e1,e2,e3,e4,e5,w1,w3,w2]
theorem Tryz.zC2 (r:Rg) (h:RgOk r) (w:World):Calls prog 120 #[r.val,.int .i64 5,.int .i64 0] w fun e w'=>e= .returned (.tuple #[.int .u64 (r.v+4+2*r.n),.int .i64 2,.int .i64 0])∧Below w.heap.size w w':=by
 have hb:=h.bnd;have e1:=jH (is:= []) (bs:= []) (vs:= []) h;have e2:=jR (is:= []) (bs:= []) (vs:= []) h;have e3:=kg (is:= []) (bs:= []) (vs:= []) h;have e4:=ko (is:= []) (bs:= []) (vs:= []) h;have q1:=h.dE;have q2:=h.vE;have q3:=h.cE;have q4:=h.d0;have q5:=h.v0;have q6:=h.c0;have w1:IntKind.wrap .u64 (2*r.n)=2*r.n:=bE (by omega) (by omega);have w3:IntKind.wrap .u64 (r.v+4)=r.v+4:=bE (by omega) (by omega);have w2:IntKind.wrap .u64 (r.v+4+2*r.n)=r.v+4+2*r.n:=bE (by omega) (by omega);refine yas (eD (ρ:=(fu r [] [] [])) (K:=fun _=>False) (g:=aU.none) (bl:= []) (vals:= [r.val,.int .i64 5,.int .i64 0]) mixed zC0 zFo (fun _ h=>h.elim) trivial trivial eH ⟨iU (Dw.enters_of (by kernel_rfl)) rfl [r.val] (.int .i64 0) (fun j=>ai (dY h) RL.nil) (fun j=>aA rfl) (fun w _ _ _=>tZ r h w),trivial⟩ (ai (dY h) (ai (aA rfl) (ai (aA rfl) RL.nil))) (aT.2 trivial)) fun e w' hh=> ?_;obtain ⟨_,j,he⟩:=iN hh;refine ⟨he.ret.trans ?_,fG he (fun _ h=>h)⟩;simp only [AV.val,AV.aP,den_add,den_mul,zag,e1,e2,e3,e4,w1,w3,w2]
theorem Tryz.zCZ (r:Rg) (h:RgOk r) (w:World):Calls prog 120 #[r.val,.int .i64 7,.int .i64 0] w fun e w'=>e= .returned (.tuple #[.int .u64 (r.c+2),.int .i64 2,.int .i64 0])∧Below w.heap.size w w':=by
 have hb:=h.bnd;have e1:=jH (is:= []) (bs:= []) (vs:= []) h;have e2:=jR (is:= []) (bs:= []) (vs:= []) h;have e3:=kg (is:= []) (bs:= []) (vs:= []) h;have e4:=ko (is:= []) (bs:= []) (vs:= []) h;have q1:=h.dE;have q2:=h.vE;have q3:=h.cE;have q4:=h.d0;have q5:=h.v0;have q6:=h.c0;have w2:IntKind.wrap .u64 (r.c+2)=r.c+2:=bE (by omega) (by omega);refine yas (eD (ρ:=(fu r [] [] [])) (K:=fun _=>False) (g:=aU.none) (bl:= []) (vals:= [r.val,.int .i64 7,.int .i64 0]) mixed zCX zFm (fun _ h=>h.elim) trivial trivial eH ⟨iU (Dw.enters_of (by kernel_rfl)) rfl [r.val] (.int .i64 0) (fun j=>ai (dY h) RL.nil) (fun j=>aA rfl) (fun w _ _ _=>tZ r h w),trivial⟩ (ai (dY h) (ai (aA rfl) (ai (aA rfl) RL.nil))) (aT.2 trivial)) fun e w' hh=> ?_;obtain ⟨_,j,he⟩:=iN hh;refine ⟨he.ret.trans ?_,fG he (fun _ h=>h)⟩;simp only [AV.val,AV.aP,den_add,den_mul,zag,e1,e2,e3,e4,w2]
theorem Tryz.zCW (r:Rg) (h:RgOk r) (i:Int) (hi:0≤i∧i<r.n) (w:World):Calls prog 120 #[r.val,.int .i64 8,.int .i64 i] w fun e w'=>e= .returned (.tuple #[.int .u64 (r.c+4+8*i),.int .i64 8,.int .i64 0])∧Below w.heap.size w w':=by
 have hb:=h.bnd;have e1:=jH (is:= [i]) (bs:= []) (vs:= []) h;have e2:=jR (is:= [i]) (bs:= []) (vs:= []) h;have e3:=kg (is:= [i]) (bs:= []) (vs:= []) h;have e4:=ko (is:= [i]) (bs:= []) (vs:= []) h;have q1:=h.dE;have q2:=h.vE;have q3:=h.cE;have q4:=h.d0;have q5:=h.v0;have q6:=h.c0;have e5:(jW 4).den (fu r [i] [] [])=i:=FW hi.1 (by show i<32768;omega);have w1:IntKind.wrap .u64 (8*i)=8*i:=bE (by omega) (by omega);have w3:IntKind.wrap .u64 (r.c+4)=r.c+4:=bE (by omega) (by omega);have w2:IntKind.wrap .u64 (r.c+4+8*i)=r.c+4+8*i:=bE (by omega) (by omega);refine yas (eD (ρ:=(fu r [i] [] [])) (K:=fun _=>False) (g:=aU.none) (bl:= []) (vals:= [r.val,.int .i64 8,.int .i64 i]) mixed zCU zFk (fun _ h=>h.elim) trivial trivial eH ⟨iU (Dw.enters_of (by kernel_rfl)) rfl [r.val] (.int .i64 0) (fun j=>ai (dY h) RL.nil) (fun j=>aA rfl) (fun w _ _ _=>tZ r h w),trivial⟩ (ai (dY h) (ai (aA rfl) (ai (aA e5) RL.nil))) (aZ.2 ⟨by rw [nL,e5,e1];simp;omega,aT.2 trivial⟩)) fun e w' hh=> ?_;obtain ⟨_,j,he⟩:=iN hh;refine ⟨he.ret.trans ?_,fG he (fun _ h=>h)⟩;simp only [AV.val,AV.aP,den_add,den_mul,zag,e1,e2,e3,e4,e5,w1,w3,w2]
theorem Tryz.zCT (r:Rg) (h:RgOk r) (w:World):Calls prog 120 #[r.val,.int .i64 9,.int .i64 0] w fun e w'=>e= .returned (.tuple #[.int .u64 (r.c+4+8*r.n),.int .i64 2,.int .i64 0])∧Below w.heap.size w w':=by
 have hb:=h.bnd;have e1:=jH (is:= []) (bs:= []) (vs:= []) h;have e2:=jR (is:= []) (bs:= []) (vs:= []) h;have e3:=kg (is:= []) (bs:= []) (vs:= []) h;have e4:=ko (is:= []) (bs:= []) (vs:= []) h;have q1:=h.dE;have q2:=h.vE;have q3:=h.cE;have q4:=h.d0;have q5:=h.v0;have q6:=h.c0;have w1:IntKind.wrap .u64 (8*r.n)=8*r.n:=bE (by omega) (by omega);have w3:IntKind.wrap .u64 (r.c+4)=r.c+4:=bE (by omega) (by omega);have w2:IntKind.wrap .u64 (r.c+4+8*r.n)=r.c+4+8*r.n:=bE (by omega) (by omega);refine yas (eD (ρ:=(fu r [] [] [])) (K:=fun _=>False) (g:=aU.none) (bl:= []) (vals:= [r.val,.int .i64 9,.int .i64 0]) mixed zCR zFi (fun _ h=>h.elim) trivial trivial eH ⟨iU (Dw.enters_of (by kernel_rfl)) rfl [r.val] (.int .i64 0) (fun j=>ai (dY h) RL.nil) (fun j=>aA rfl) (fun w _ _ _=>tZ r h w),trivial⟩ (ai (dY h) (ai (aA rfl) (ai (aA rfl) RL.nil))) (aT.2 trivial)) fun e w' hh=> ?_;obtain ⟨_,j,he⟩:=iN hh;refine ⟨he.ret.trans ?_,fG he (fun _ h=>h)⟩;simp only [AV.val,AV.aP,den_add,den_mul,zag,e1,e2,e3,e4,w1,w3,w2]
theorem Tryz.zAp (r:Rg) (h:RgOk r) (w:World):Calls prog 20 #[r.val,.int .i64 2,.int .i64 0] w fun e w'=>e= .returned (.tuple #[.int .u64 (r.v),.int .i64 2,.int .i64 0])∧Below w.heap.size w w':=by
 have hb:=h.bnd;have e1:=jH (is:= []) (bs:= []) (vs:= []) h;have e2:=jR (is:= []) (bs:= []) (vs:= []) h;have e3:=kg (is:= []) (bs:= []) (vs:= []) h;have e4:=ko (is:= []) (bs:= []) (vs:= []) h;have q1:=h.dE;have q2:=h.vE;have q3:=h.cE;have q4:=h.d0;have q5:=h.v0;have q6:=h.c0;refine yas (eD (ρ:=(fu r [] [] [])) (K:=fun _=>False) (g:=aU.none) (bl:= []) (vals:= [r.val,.int .i64 2,.int .i64 0]) mixed zAn zDC (fun _ h=>h.elim) trivial trivial eH ⟨iU (Dw.enters_of (by kernel_rfl)) rfl [r.val] (.int .i64 0) (fun j=>ai (dY h) RL.nil) (fun j=>aA rfl) (fun w _ _ _=>vB r h w),trivial⟩ (ai (dY h) (ai (aA rfl) (ai (aA rfl) RL.nil))) (aT.2 trivial)) fun e w' hh=> ?_;obtain ⟨_,j,he⟩:=iN hh;refine ⟨he.ret.trans ?_,fG he (fun _ h=>h)⟩;simp only [AV.val,AV.aP,den_add,den_mul,zag,e1,e2,e3,e4]
theorem Tryz.Fw (r:Rg) (h:RgOk r) (w:World):Calls prog 20 #[r.val,.int .i64 3,.int .i64 0] w fun e w'=>e= .returned (.tuple #[.int .u64 (r.v+2),.int .i64 2,.int .i64 0])∧Below w.heap.size w w':=by
 have hb:=h.bnd;have e1:=jH (is:= []) (bs:= []) (vs:= []) h;have e2:=jR (is:= []) (bs:= []) (vs:= []) h;have e3:=kg (is:= []) (bs:= []) (vs:= []) h;have e4:=ko (is:= []) (bs:= []) (vs:= []) h;have q1:=h.dE;have q2:=h.vE;have q3:=h.cE;have q4:=h.d0;have q5:=h.v0;have q6:=h.c0;have w2:IntKind.wrap .u64 (r.v+2)=r.v+2:=bE (by omega) (by omega);refine yas (eD (ρ:=(fu r [] [] [])) (K:=fun _=>False) (g:=aU.none) (bl:= []) (vals:= [r.val,.int .i64 3,.int .i64 0]) mixed zAl zDA (fun _ h=>h.elim) trivial trivial eH ⟨iU (Dw.enters_of (by kernel_rfl)) rfl [r.val] (.int .i64 0) (fun j=>ai (dY h) RL.nil) (fun j=>aA rfl) (fun w _ _ _=>vB r h w),trivial⟩ (ai (dY h) (ai (aA rfl) (ai (aA rfl) RL.nil))) (aT.2 trivial)) fun e w' hh=> ?_;obtain ⟨_,j,he⟩:=iN hh;refine ⟨he.ret.trans ?_,fG he (fun _ h=>h)⟩;simp only [AV.val,AV.aP,den_add,den_mul,zag,e1,e2,e3,e4,w2]
theorem Tryz.zsI (r:Rg) (h:RgOk r) (i:Int) (hi:0≤i∧i<r.n) (w:World):Calls prog 20 #[r.val,.int .i64 4,.int .i64 i] w fun e w'=>e= .returned (.tuple #[.int .u64 (r.v+4+2*i),.int .i64 2,.int .i64 0])∧Below w.heap.size w w':=by
 have hb:=h.bnd;have e1:=jH (is:= [i]) (bs:= []) (vs:= []) h;have e2:=jR (is:= [i]) (bs:= []) (vs:= []) h;have e3:=kg (is:= [i]) (bs:= []) (vs:= []) h;have e4:=ko (is:= [i]) (bs:= []) (vs:= []) h;have q1:=h.dE;have q2:=h.vE;have q3:=h.cE;have q4:=h.d0;have q5:=h.v0;have q6:=h.c0;have e5:(jW 4).den (fu r [i] [] [])=i:=FW hi.1 (by show i<32768;omega);have w1:IntKind.wrap .u64 (2*i)=2*i:=bE (by omega) (by omega);have w3:IntKind.wrap .u64 (r.v+4)=r.v+4:=bE (by omega) (by omega);have w2:IntKind.wrap .u64 (r.v+4+2*i)=r.v+4+2*i:=bE (by omega) (by omega);refine yas (eD (ρ:=(fu r [i] [] [])) (K:=fun _=>False) (g:=aU.none) (bl:= []) (vals:= [r.val,.int .i64 4,.int .i64 i]) mixed zAj zDy (fun _ h=>h.elim) trivial trivial eH ⟨iU (Dw.enters_of (by kernel_rfl)) rfl [r.val] (.int .i64 0) (fun j=>ai (dY h) RL.nil) (fun j=>aA rfl) (fun w _ _ _=>vB r h w),trivial⟩ (ai (dY h) (ai (aA rfl) (ai (aA e5) RL.nil))) (aZ.2 ⟨by rw [nL,e5,e1];simp;omega,aT.2 trivial⟩)) fun e w' hh=> ?_;obtain ⟨_,j,he⟩:=iN hh;refine ⟨he.ret.trans ?_,fG he (fun _ h=>h)⟩;simp only [AV.val,AV.aP,den_add,den_mul,zag,e1,e2,e3,e4,e5,w1,w3,w2]
theorem Tryz.zAi (r:Rg) (h:RgOk r) (w:World):Calls prog 20 #[r.val,.int .i64 5,.int .i64 0] w fun e w'=>e= .returned (.tuple #[.int .u64 (r.v+4+2*r.n),.int .i64 2,.int .i64 0])∧Below w.heap.size w w':=by
 have hb:=h.bnd;have e1:=jH (is:= []) (bs:= []) (vs:= []) h;have e2:=jR (is:= []) (bs:= []) (vs:= []) h;have e3:=kg (is:= []) (bs:= []) (vs:= []) h;have e4:=ko (is:= []) (bs:= []) (vs:= []) h;have q1:=h.dE;have q2:=h.vE;have q3:=h.cE;have q4:=h.d0;have q5:=h.v0;have q6:=h.c0;have w1:IntKind.wrap .u64 (2*r.n)=2*r.n:=bE (by omega) (by omega);have w3:IntKind.wrap .u64 (r.v+4)=r.v+4:=bE (by omega) (by omega);have w2:IntKind.wrap .u64 (r.v+4+2*r.n)=r.v+4+2*r.n:=bE (by omega) (by omega);refine yas (eD (ρ:=(fu r [] [] [])) (K:=fun _=>False) (g:=aU.none) (bl:= []) (vals:= [r.val,.int .i64 5,.int .i64 0]) mixed zAg zDw (fun _ h=>h.elim) trivial trivial eH ⟨iU (Dw.enters_of (by kernel_rfl)) rfl [r.val] (.int .i64 0) (fun j=>ai (dY h) RL.nil) (fun j=>aA rfl) (fun w _ _ _=>vB r h w),trivial⟩ (ai (dY h) (ai (aA rfl) (ai (aA rfl) RL.nil))) (aT.2 trivial)) fun e w' hh=> ?_;obtain ⟨_,j,he⟩:=iN hh;refine ⟨he.ret.trans ?_,fG he (fun _ h=>h)⟩;simp only [AV.val,AV.aP,den_add,den_mul,zag,e1,e2,e3,e4,w1,w3,w2]
theorem Tryz.zAf (r:Rg) (h:RgOk r) (w:World):Calls prog 20 #[r.val,.int .i64 7,.int .i64 0] w fun e w'=>e= .returned (.tuple #[.int .u64 (r.c+2),.int .i64 2,.int .i64 0])∧Below w.heap.size w w':=by
 have hb:=h.bnd;have e1:=jH (is:= []) (bs:= []) (vs:= []) h;have e2:=jR (is:= []) (bs:= []) (vs:= []) h;have e3:=kg (is:= []) (bs:= []) (vs:= []) h;have e4:=ko (is:= []) (bs:= []) (vs:= []) h;have q1:=h.dE;have q2:=h.vE;have q3:=h.cE;have q4:=h.d0;have q5:=h.v0;have q6:=h.c0;have w2:IntKind.wrap .u64 (r.c+2)=r.c+2:=bE (by omega) (by omega);refine yas (eD (ρ:=(fu r [] [] [])) (K:=fun _=>False) (g:=aU.none) (bl:= []) (vals:= [r.val,.int .i64 7,.int .i64 0]) mixed zAd zDu (fun _ h=>h.elim) trivial trivial eH ⟨iU (Dw.enters_of (by kernel_rfl)) rfl [r.val] (.int .i64 0) (fun j=>ai (dY h) RL.nil) (fun j=>aA rfl) (fun w _ _ _=>vB r h w),trivial⟩ (ai (dY h) (ai (aA rfl) (ai (aA rfl) RL.nil))) (aT.2 trivial)) fun e w' hh=> ?_;obtain ⟨_,j,he⟩:=iN hh;refine ⟨he.ret.trans ?_,fG he (fun _ h=>h)⟩;simp only [AV.val,AV.aP,den_add,den_mul,zag,e1,e2,e3,e4,w2]
theorem Tryz.zAc (r:Rg) (h:RgOk r) (i:Int) (hi:0≤i∧i<r.n) (w:World):Calls prog 20 #[r.val,.int .i64 8,.int .i64 i] w fun e w'=>e= .returned (.tuple #[.int .u64 (r.c+4+8*i),.int .i64 8,.int .i64 0])∧Below w.heap.size w w':=by
 have hb:=h.bnd;have e1:=jH (is:= [i]) (bs:= []) (vs:= []) h;have e2:=jR (is:= [i]) (bs:= []) (vs:= []) h;have e3:=kg (is:= [i]) (bs:= []) (vs:= []) h;have e4:=ko (is:= [i]) (bs:= []) (vs:= []) h;have q1:=h.dE;have q2:=h.vE;have q3:=h.cE;have q4:=h.d0;have q5:=h.v0;have q6:=h.c0;have e5:(jW 4).den (fu r [i] [] [])=i:=FW hi.1 (by show i<32768;omega);have w1:IntKind.wrap .u64 (8*i)=8*i:=bE (by omega) (by omega);have w3:IntKind.wrap .u64 (r.c+4)=r.c+4:=bE (by omega) (by omega);have w2:IntKind.wrap .u64 (r.c+4+8*i)=r.c+4+8*i:=bE (by omega) (by omega);refine yas (eD (ρ:=(fu r [i] [] [])) (K:=fun _=>False) (g:=aU.none) (bl:= []) (vals:= [r.val,.int .i64 8,.int .i64 i]) mixed zAa zDs (fun _ h=>h.elim) trivial trivial eH ⟨iU (Dw.enters_of (by kernel_rfl)) rfl [r.val] (.int .i64 0) (fun j=>ai (dY h) RL.nil) (fun j=>aA rfl) (fun w _ _ _=>vB r h w),trivial⟩ (ai (dY h) (ai (aA rfl) (ai (aA e5) RL.nil))) (aZ.2 ⟨by rw [nL,e5,e1];simp;omega,aT.2 trivial⟩)) fun e w' hh=> ?_;obtain ⟨_,j,he⟩:=iN hh;refine ⟨he.ret.trans ?_,fG he (fun _ h=>h)⟩;simp only [AV.val,AV.aP,den_add,den_mul,zag,e1,e2,e3,e4,e5,w1,w3,w2]
theorem Tryz.zz9 (r:Rg) (h:RgOk r) (w:World):Calls prog 20 #[r.val,.int .i64 9,.int .i64 0] w fun e w'=>e= .returned (.tuple #[.int .u64 (r.c+4+8*r.n),.int .i64 2,.int .i64 0])∧Below w.heap.size w w':=by
 have hb:=h.bnd;have e1:=jH (is:= []) (bs:= []) (vs:= []) h;have e2:=jR (is:= []) (bs:= []) (vs:= []) h;have e3:=kg (is:= []) (bs:= []) (vs:= []) h;have e4:=ko (is:= []) (bs:= []) (vs:= []) h;have q1:=h.dE;have q2:=h.vE;have q3:=h.cE;have q4:=h.d0;have q5:=h.v0;have q6:=h.c0;have w1:IntKind.wrap .u64 (8*r.n)=8*r.n:=bE (by omega) (by omega);have w3:IntKind.wrap .u64 (r.c+4)=r.c+4:=bE (by omega) (by omega);have w2:IntKind.wrap .u64 (r.c+4+8*r.n)=r.c+4+8*r.n:=bE (by omega) (by omega);refine yas (eD (ρ:=(fu r [] [] [])) (K:=fun _=>False) (g:=aU.none) (bl:= []) (vals:= [r.val,.int .i64 9,.int .i64 0]) mixed zz7 zDq (fun _ h=>h.elim) trivial trivial eH ⟨iU (Dw.enters_of (by kernel_rfl)) rfl [r.val] (.int .i64 0) (fun j=>ai (dY h) RL.nil) (fun j=>aA rfl) (fun w _ _ _=>vB r h w),trivial⟩ (ai (dY h) (ai (aA rfl) (ai (aA rfl) RL.nil))) (aT.2 trivial)) fun e w' hh=> ?_;obtain ⟨_,j,he⟩:=iN hh;refine ⟨he.ret.trans ?_,fG he (fun _ h=>h)⟩;simp only [AV.val,AV.aP,den_add,den_mul,zag,e1,e2,e3,e4,w1,w3,w2]
structure Tryz.Sg where
 di:Int
 len:Int
 wr:Bool
deriving DecidableEq
def Tryz.Sg.cells (x:Sg):List Value:= [.int .u64 x.di,.int .u32 x.len,.bool x.wr]
def Tryz.dX (l:List Sg):List Value:=l.flatMap Sg.cells
def Tryz.Sg.ok (x:Sg):Prop:=0≤x.di∧x.di<18446744073709551616∧0≤x.len∧x.len<4294967296
theorem Tryz.O8 (x:Sg) (r:List Sg):dX (x::r)= .int .u64 x.di:: .int .u32 x.len:: .bool x.wr::dX r:=rfl
theorem Tryz.EA (l:List Sg):(dX l).length=3*l.length:=by
 induction l with
 | nil=>rfl
 | cons x r ih=>
  rw [O8];simp only [yaW,ih];omega
theorem Tryz.EI (l:List Sg) (i:Nat) (hi:i<l.length):(dX l)[3*i]? =some (.int .u64 l[i].di)∧(dX l)[3*i+1]? =some (.int .u32 l[i].len)∧(dX l)[3*i+2]? =some (.bool l[i].wr):=by
 induction l generalizing i with
 | nil=>simp at hi
 | cons x r ih=>
  cases i with
  | zero=>exact ⟨rfl,rfl,rfl⟩
  | succ i=>
   have h:=ih i (by simpa using hi);rw [O8,show 3*(i+1)=3*i+1+1+1 by omega,show 3*i+1+1+1+1=(3*i+1)+1+1+1 by omega,show 3*i+1+1+1+2=(3*i+2)+1+1+1 by omega];simp only [yaN,yb6];exact h
theorem Tryz.PI (l:List Sg): ∀v∈dX l,v.oneCell'=true:=fun v hv=>by
 simp only [dX,List.mem_flatMap,Sg.cells,yac,yae,yav] at hv;obtain ⟨x,_,rfl|rfl|rfl⟩:=hv<;>rfl
theorem Tryz.Fg {w:World} {R o:Nat} {l:List Sg} (h:w.rangeAt R o (dX l)) (k:Nat) (hk:k<l.length):w.rangeAt R (o+3*k) l[k].cells:=fun j v hv=>by
 obtain ⟨h0,h1,h2⟩:=EI l k hk
 match j,hv with
 | 0,hv=>cases hv;exact h _ _ h0
 | 1,hv=>cases hv;have:=h _ _ h1;rwa [←ybh] at this
 | 2,hv=>cases hv;have:=h _ _ h2;rwa [←ybh] at this
 | j+3,hv=>cases hv
def Tryz.aL (A:Nat→Prop) (w:World) (v:Value) (l:List Sg):Prop:=
 ∃ (sa:Option Addr) (c:Nat),v= .slice sa l.length c∧(∀x∈l,x.ok)∧(l= []∨ ∃R o,sa=some ⟨R,o,none⟩∧ ¬A R∧w.rangeAt R o (dX l))
theorem Tryz.uz {w:World} {R o:Nat} {l:List Sg} (h:w.rangeAt R o (dX l)) (h0:l≠ []):R<w.heap.size:=by
 have h1:0<(dX l).length:=by
  rw [EA];have:=ybt.2 h0;omega
 exact yan w ⟨R,o+0,none⟩ (h 0 _ (yam h1))
theorem Tryz.aL.kept {A:Nat→Prop} {w w':World} {v:Value} {l:List Sg} (h:aL A w v l) (hk: ∀k,k<w.heap.size→ ¬A k→w'.heap[k]? =w.heap[k]?):aL A w' v l:=by
 obtain ⟨sa,c,rfl,hl,hr⟩:=h;refine ⟨sa,c,rfl,hl,?_⟩;rcases hr with h0|⟨R,o,rfl,hn,hr⟩
 ·exact Or.inl h0
 ·by_cases h0:l= []
  ·exact Or.inl h0
  ·exact Or.inr ⟨R,o,rfl,hn,gL hr (hk R (uz hr h0) hn)⟩
theorem Tryz.aL.below {A:Nat→Prop} {w w':World} {v:Value} {l:List Sg} (h:aL A w v l) (hb:Below w.heap.size w w'):aL A w' v l:=h.kept (fun k hk _=>hb.block k hk)
theorem Tryz.aL.one {A:Nat→Prop} {w:World} {v:Value} {l:List Sg} (h:aL A w v l):v.oneCell'=true:=by
 obtain ⟨sa,c,rfl,_⟩:=h;rfl
def Tryz.dP (k:Int):List (Int×List Sg)→Option (List Sg)
 | [] => none
 | e::r=>if k=e.1 then some e.2 else dP k r
def Tryz.mE (k:Int):List (Int×List Sg)→List (Int×List Sg)
 | [] => []
 | e::r=>if k=e.1 then r else e::mE k r
structure Tryz.kK (A:Nat→Prop) (w:World) (M:Nat) (tk:List (Int×List Sg)):Prop where
 map: ∃arr clock,w.heap[M]? =some (.map arr clock)∧(jE arr∧kI arr clock)∧ ∀k:Int,(dP k tk=none→dB arr k=none)∧ ∀l,dP k tk=some l→ ∃v,dB arr k=some v∧aL A w v l
 keys:(tk.map (·.1)).Nodup
 u16: ∀e∈tk,0≤e.1∧e.1<65536
theorem Tryz.kK.kept {A:Nat→Prop} {w w':World} {M:Nat} {tk:List (Int×List Sg)} (h:kK A w M tk) (hM:w'.heap[M]? =w.heap[M]?) (hk: ∀k,k<w.heap.size→ ¬A k→w'.heap[k]? =w.heap[k]?):kK A w' M tk:=by
 obtain ⟨arr,clock,h1,h2,h3⟩:=h.map;refine ⟨⟨arr,clock,hM.trans h1,h2,fun k=>⟨(h3 k).1,fun l hl=> ?_⟩⟩,h.keys,h.u16⟩;obtain ⟨v,h4,h5⟩:=(h3 k).2 l hl;exact ⟨v,h4,h5.kept hk⟩
theorem Tryz.Fe {k:Int} {l:List Sg}: ∀ {tk:List (Int×List Sg)},dP k tk=some l→(k,l)∈tk
 | [], h=>by cases h
 | e::r,h=>by
  unfold dP at h;split at h
  ·rename_i he;cases h;exact yac.2 (.inl (by rw [he]))
  ·exact yaB _ (Fe h)
theorem Tryz.Za {k h:Int} {l:List Sg}: ∀ {tk:List (Int×List Sg)},dP h tk=none→dP k (tk++ [(h,l)])=if k=h then some l else dP k tk
 | [], _=>by simp only [ycd,dP]
 | e::r,hn=>by
  unfold dP at hn;split at hn
  ·cases hn
  ·rename_i hne;simp only [yb3,dP];rw [Za hn];by_cases hk:k=e.1
   ·rw [yak hk,yai (fun hh=>hne (by rw [←hh,hk])),yak hk]
   ·rw [yai hk,yai hk]
theorem Tryz.Jk {k:Int}: ∀ {tk:List (Int×List Sg)},dP k tk=none↔k∉tk.map (·.1)
 | [] => by simp [dP]
 | e::r=>by
  unfold dP;by_cases h:k=e.1
  ·simp [h]
  ·rw [yai h,Jk (tk:=r)];simp [h]
theorem Tryz.BL (k:Int): ∀(tk:List (Int×List Sg)),(mE k tk).Sublist tk
 | [] => List.Sublist.refl _
 | e::r=>by
  unfold mE;split
  ·exact List.sublist_cons_self ..
  ·exact (BL k r).cons_cons _
theorem Tryz.znu {k h:Int}: ∀ {tk:List (Int×List Sg)},(tk.map (·.1)).Nodup→dP k (mE h tk)=if k=h then none else dP k tk
 | [], _=>by simp [mE,dP]
 | e::r,hn=>by
  rw [yaK,ycc] at hn;unfold mE;by_cases hh:h=e.1
  ·rw [yak hh];by_cases hk:k=h
   ·rw [yak hk];exact Jk.2 (by rw [hk,hh];exact hn.1)
   ·rw [yai hk];unfold dP;rw [yai (fun e'=>hk (e'.trans hh.symm))];cases r<;>simp only [dP]
  ·rw [yai hh];unfold dP;rw [znu hn.2];by_cases hk:k=e.1
   ·rw [yak hk,yak hk,yai (fun e'=>hh (e'.symm.trans hk))]
   ·rw [yai hk,yai hk]
structure Tryz.SS where
 ev:Bool
 tb:Bool
 pk:Bool
 nx:Int
 us:Int
 tk:List (Int×List Sg)
 ph:Nat
 op:Int
 nn:Bool
 hd:Int
 sg:List Sg
 wr:Int
 it:Bool
 dn:Bool
 br:Bool
def Tryz.SS.row (s:SS) (r:Rg) (P M:Nat) (nv sv:Value):List Value:=
 [.pointer (some ⟨P,0,.none⟩),.bool false,.int .i64 r.n,.int .u64 r.d,.int .u64 r.v,.int .u64 r.c,.bool s.ev,.bool s.tb,.bool s.pk,.int .u16 s.nx,.int .u16 s.us,.map (some M),nv,
  .int .i64 s.op,.bool s.nn,.int .i64 s.hd,sv,.int .u32 s.wr,.bool s.it,.bool s.dn,.bool s.br]
def Tryz.qO (S fn:Nat):Value:= .func (.func fn) #[.pointer (some ⟨S,0,none⟩)] #[]
def Tryz.UU (ph:Nat):Option Nat:=
 match ph with
 | 1=>some 55|2=>some 84|4=>some 114|6=>some 83|7=>some 113
 | 11=>some 61|13=>some 89|15=>some 119
 | _=>none
def Tryz.RH (ph:Nat):Option Nat:=
 match ph with
 | 3=>some 114|5=>some 83|12=>some 89|14=>some 119
 | _=>none
inductive Tryz.mI (A:Nat→Prop) (w:World) (S:Nat) (ph:Nat) (v:Value):Prop where
 | idle (h:ph=0) (hv:v= .nilFunc)
 | gZ (f:Nat) (h:UU ph=some f) (hv:v=qO S f)
 | fence (f X Y:Nat) (h:RH ph=some f) (hv:v= .func (.func 112) #[] #[.pointer (some ⟨X,0,none⟩),.pointer (some ⟨Y,0,none⟩)])
   (hX:Row w ⟨X,0,0,none⟩ [qO S f]) (hY:Row w ⟨Y,0,0,none⟩ [.pointer (some ⟨S,0,none⟩)]) (aX: ¬A X) (aY: ¬A Y)
theorem Tryz.yj {w:World} {L:Dw.Loc} {vals:List Value} (h:Row w L vals):L.blk<w.heap.size:=by
 obtain ⟨arr,e,fr,h1,_⟩:=h;exact (yar.1 h1).1
theorem Tryz.mI.kept {A:Nat→Prop} {w w':World} {S ph:Nat} {v:Value} (h:mI A w S ph v) (hk: ∀k,k<w.heap.size→ ¬A k→w'.heap[k]? =w.heap[k]?):mI A w' S ph v:=by
 cases h with
 | idle h hv=>exact .idle h hv
 | gZ f h hv=>exact .gZ f h hv
 | fence f X Y h hv hX hY aX aY=>exact .fence f X Y h hv (hX.kept (hk X (yj hX) aX)) (hY.kept (hk Y (yj hY) aY)) aX aY
structure Tryz.iq (A:Nat→Prop) (w:World) (S P M:Nat) (r:Rg) (s:SS):Prop where
 obj: ∃nv sv,Own w S (s.row r P M nv sv)∧mI A w S s.ph nv∧aL A w sv s.sg
 tk:kK A w M s.tk
 ne:S≠M
 aS:A S
 aM:A M
 rg:RgOk r
 nx:0≤s.nx∧s.nx<65536
 us:0≤s.us∧s.us<65536
 hd:0≤s.hd∧s.hd<65536
 wr:0≤s.wr∧s.wr<4294967296
theorem Tryz.iq.kept {A:Nat→Prop} {w w':World} {S P M:Nat} {r:Rg} {s:SS} (h:iq A w S P M r s) (hS:w'.heap[S]? =w.heap[S]?) (hM:w'.heap[M]? =w.heap[M]?) (hk: ∀k,k<w.heap.size→ ¬A k→w'.heap[k]? =w.heap[k]?):iq A w' S P M r s:=by
 obtain ⟨nv,sv,h1,h2,h3⟩:=h.obj;exact ⟨⟨nv,sv,h1.kept hS,h2.kept hk,h3.kept hk⟩,h.tk.kept hM hk,h.ne,h.aS,h.aM,h.rg,h.nx,h.us,h.hd,h.wr⟩
theorem Tryz.iq.rO {A:Nat→Prop} {w:World} {S P M:Nat} {r:Rg} {s:SS} (h:iq A w S P M r s):S<w.heap.size:=by
 obtain ⟨nv,sv,h1,_⟩:=h.obj;exact qH h1
theorem Tryz.iq.tO {A:Nat→Prop} {w:World} {S P M:Nat} {r:Rg} {s:SS} (h:iq A w S P M r s):M<w.heap.size:=by
 obtain ⟨arr,clock,h1,_⟩:=h.tk.map;exact (yar.1 h1).1
theorem Tryz.iq.below {A:Nat→Prop} {w w':World} {S P M:Nat} {r:Rg} {s:SS} (h:iq A w S P M r s) (hb:Below w.heap.size w w'):iq A w' S P M r s:=
 h.kept (hb.block S h.rO) (hb.block M h.tO) fun k hk _=>hb.block k hk
def Tryz.qy (next:AV) (dn br:SB):List AV:=
  [.cst 0 none,.bool (.lit false),.int .i64 (ah 0),.int .u64 (af 1),.int .u64 (af 2),.int .u64 (af 3),.bool (.var 0),.bool (.var 1),.bool (.var 2),.int .u16 (aF 4),.int .u16 (aF 5),.map 2,next,
   .int .i64 (.var 6),.bool (.var 3),.int .i64 (aF 7),.cst 1 none,.int .u32 (bM 8),.bool (.var 4),.bool dn,.bool br]
def Tryz.vS (what:Int) (i:SE) (wide:Int):aK:=⟨120,[rg,.int .i64 (.lit what),.int .i64 i],0,0,0,.aH [.int .u64 (af 10),.int .i64 (.lit wide),.int .i64 (.lit 0)],0⟩
def Tryz.CY:aK:=⟨21,[.cst 0 none,.int .u64 (af 10),.int .i64 (.lit 2)],0,0,0,.aH [.int .u64 (aF 11),.int .i64 (.lit 0)],0⟩
def Tryz.Ld (wide:Int) (v:SE):aK:=⟨26,[.cst 0 none,.int .u64 (af 10),.int .i64 (.lit wide),.int .u64 v],0,0,0,.int .i64 (.lit 0),1⟩
def Tryz.nM (f:Nat):AV:= .func f [.ptr 1 0] []
def Tryz.fF (next:AV):List Sh:= [.own (qy next (.var 5) (.lit false)),.dm []]
def Tryz.II (f:Nat):List Sh:= [.own (qy (.func 112 [] [.ptr 3 0,.ptr 4 0]) (.var 5) (.lit false)),.dm [],.ro [nM f],.ro [.ptr 1 0]]
def Tryz.OC (next:AV) (k:AV) (v:Option AV):List Sh:= [.own (qy next (.var 5) (.lit false)),.dm [(k,v)]]
def Tryz.Le (e:SE):aK:=⟨128,[.cst 0 none,rg,.int .i64 (aF 7),.bool (.var 1)],0,6,1,.aH [.opq 6 none,.int .i64 e],1⟩
def Tryz.zzb:aK:=⟨57,[.opq 6 none],1,7,1,.opq 7 none,2⟩
end Go.Proofs
namespace Go.Proofs
open Go.Dw
def Tryz.Y3:List aK:= [vS 3 (.lit 0) 2,CY]
def Tryz.znM:List Sh:=fF (nM 55)
def Tryz.Y4:List AV:= [.ptr 1 0]
def Tryz.zwC:List (SB×Bool):= []
def Tryz.zsA:List Leaf:= [
 ⟨.aH [.agg [.int .i64 (.lit 2),.int .i64 (.lit 3),.int .i64 (.lit 0)],.int .i64 (.lit 4)],[(1,[.cst 0 none,.bool (.lit false),.int .i64 (ah 0),.int .u64 (af 1),.int .u64 (af 2),.int .u64 (af 3),.bool (.var 0),.bool (.var 1),.bool (.var 2),.int .u16 (aF 4),.int .u16 (aF 5),.map 2,.fT,.int .i64 (.lit 0),.bool (.lit false),.int .i64 (.lit 0),.bZ,.int .u32 (.lit 0),.bool (.lit false),.bool (.var 5),.bool (.lit true)])],[(2,[])],0,[1]⟩,
 ⟨.aH [.agg [.int .i64 (.lit 2),.int .i64 (.lit 3),.int .i64 (.lit 0)],.int .i64 (.lit 0)],[(1,[.cst 0 none,.bool (.lit false),.int .i64 (ah 0),.int .u64 (af 1),.int .u64 (af 2),.int .u64 (af 3),.bool (.var 0),.bool (.var 1),.bool (.var 2),.int .u16 (aF 4),.int .u16 (aF 5),.map 2,.func 112 [] [.ptr 10 0,.ptr 9 0],.int .i64 (.var 6),.bool (.var 3),.int .i64 (aF 7),.cst 1 none,.int .u32 (bM 8),.bool (.var 4),.bool (.lit false),.bool (.lit false)]),(9,[.ptr 1 0]),(10,[.func 83 [.ptr 1 0] []])],[(2,[])],0,[1,9,10]⟩,
 ⟨.aH [.agg [.int .i64 (.lit 2),.int .i64 (.lit 3),.int .i64 (.lit 0)],.int .i64 (.lit 0)],[(1,[.cst 0 none,.bool (.lit false),.int .i64 (ah 0),.int .u64 (af 1),.int .u64 (af 2),.int .u64 (af 3),.bool (.var 0),.bool (.var 1),.bool (.var 2),.int .u16 (aF 4),.int .u16 (aF 5),.map 2,.func 84 [.ptr 1 0] [],.int .i64 (.var 6),.bool (.var 3),.int .i64 (aF 7),.cst 1 none,.int .u32 (bM 8),.bool (.var 4),.bool (.lit false),.bool (.lit false)])],[(2,[])],0,[1]⟩,
 ⟨.aH [.agg [.int .i64 (.lit 2),.int .i64 (.lit 3),.int .i64 (.lit 0)],.int .i64 (.lit 0)],[(1,[.cst 0 none,.bool (.lit false),.int .i64 (ah 0),.int .u64 (af 1),.int .u64 (af 2),.int .u64 (af 3),.bool (.var 0),.bool (.var 1),.bool (.var 2),.int .u16 (aF 4),.int .u16 (aF 5),.map 2,.fT,.int .i64 (.var 6),.bool (.lit true),.int .i64 (aF 7),.cst 1 none,.int .u32 (bM 8),.bool (.var 4),.bool (.lit true),.bool (.lit false)])],[(2,[])],0,[1]⟩]
def Tryz.zsz:List (List (SB×Bool)×Nat):= [
 ([((.cmp .gtr (.bin .sub .u16 (aF 11) (aF 4)) (.lit 0)),true),((.cmp .leq (.bin .sub .u16 (aF 11) (aF 4)) (ah 0)),false)],0),
 ([((.cmp .gtr (.bin .sub .u16 (aF 11) (aF 4)) (.lit 0)),true),((.cmp .leq (.bin .sub .u16 (aF 11) (aF 4)) (ah 0)),true)],1),
 ([((.cmp .gtr (.bin .sub .u16 (aF 11) (aF 4)) (.lit 0)),false),(.var 0,true),((.cmp .leq (.bin .sub .u16 (aF 11) (aF 4)) (ah 0)),false)],0),
 ([((.cmp .gtr (.bin .sub .u16 (aF 11) (aF 4)) (.lit 0)),false),(.var 0,true),((.cmp .leq (.bin .sub .u16 (aF 11) (aF 4)) (ah 0)),true)],2),
 ([((.cmp .gtr (.bin .sub .u16 (aF 11) (aF 4)) (.lit 0)),false),(.var 0,false),((.cmp .leq (.bin .sub .u16 (aF 11) (aF 4)) (ah 0)),false)],0),
 ([((.cmp .gtr (.bin .sub .u16 (aF 11) (aF 4)) (.lit 0)),false),(.var 0,false),((.cmp .leq (.bin .sub .u16 (aF 11) (aF 4)) (ah 0)),true)],3)]
theorem Tryz.zwB:(ev prog (bG Y3) 100000 (.call 28 Y4 (bn 0 znM) (cK zsA 0))).ways zwC=some zsz:=by kernel_rfl
theorem Tryz.zzX:(bJ znM&&bI Y3&&AV.bQ Y4&&dx zsA)=true:=by kernel_rfl
def Tryz.XQ:List aK:= [vS 9 (.lit 0) 2,Ld 2 (aF 4)]
def Tryz.Z7:List Sh:=fF (nM 84)
def Tryz.XR:List AV:= [.ptr 1 0]
def Tryz.zuR:List (SB×Bool):= []
def Tryz.znY:List Leaf:= [
 ⟨.aH [.agg [.int .i64 (.lit 3),.int .i64 (.lit 9),.int .i64 (.lit 0)],.int .i64 (.lit 0)],[(1,[.cst 0 none,.bool (.lit false),.int .i64 (ah 0),.int .u64 (af 1),.int .u64 (af 2),.int .u64 (af 3),.bool (.var 0),.bool (.var 1),.bool (.var 2),.int .u16 (aF 4),.int .u16 (aF 5),.map 2,.func 112 [] [.ptr 6 0,.ptr 5 0],.int .i64 (.var 6),.bool (.var 3),.int .i64 (aF 7),.cst 1 none,.int .u32 (bM 8),.bool (.var 4),.bool (.lit false),.bool (.lit false)]),(5,[.ptr 1 0]),(6,[.func 114 [.ptr 1 0] []])],[(2,[])],1,[1,5,6]⟩]
def Tryz.znX:List (List (SB×Bool)×Nat):= [
 ([], 0)]
theorem Tryz.zuQ:(ev prog (bG XQ) 100000 (.call 28 XR (bn 0 Z7) (cK znY 0))).ways zuR=some znX:=by kernel_rfl
theorem Tryz.zwG:(bJ Z7&&bI XQ&&AV.bQ XR&&dx znY)=true:=by kernel_rfl
def Tryz.XE:List aK:= []
def Tryz.XK:List Sh:=II 114
def Tryz.XF:List AV:= [.ptr 1 0]
def Tryz.zqO:List (SB×Bool):= []
def Tryz.Z6:List Leaf:= [
 ⟨.aH [.agg [.int .i64 (.lit 4),.int .i64 (.lit 0),.int .i64 (.lit 0)],.int .i64 (.lit 0)],[(1,[.cst 0 none,.bool (.lit false),.int .i64 (ah 0),.int .u64 (af 1),.int .u64 (af 2),.int .u64 (af 3),.bool (.var 0),.bool (.var 1),.bool (.var 2),.int .u16 (aF 4),.int .u16 (aF 5),.map 2,.func 114 [.ptr 1 0] [],.int .i64 (.var 6),.bool (.var 3),.int .i64 (aF 7),.cst 1 none,.int .u32 (bM 8),.bool (.var 4),.bool (.lit false),.bool (.lit false)])],[(2,[])],0,[1]⟩]
def Tryz.Z5:List (List (SB×Bool)×Nat):= [
 ([], 0)]
theorem Tryz.zqN:(ev prog (bG XE) 100000 (.call 28 XF (bn 0 XK) (cK Z6 0))).ways zqO=some Z5:=by kernel_rfl
theorem Tryz.zuP:(bJ XK&&bI XE&&AV.bQ XF&&dx Z6)=true:=by kernel_rfl
def Tryz.YG:List aK:= [vS 3 (.lit 0) 2,CY]
def Tryz.zlk:List Sh:=fF (nM 114)
def Tryz.YH:List AV:= [.ptr 1 0]
def Tryz.zu0:List (SB×Bool):= []
def Tryz.zn7:List Leaf:= [
 ⟨.aH [.agg [.int .i64 (.lit 2),.int .i64 (.lit 3),.int .i64 (.lit 0)],.int .i64 (.lit 4)],[(1,[.cst 0 none,.bool (.lit false),.int .i64 (ah 0),.int .u64 (af 1),.int .u64 (af 2),.int .u64 (af 3),.bool (.var 0),.bool (.var 1),.bool (.var 2),.int .u16 (aF 4),.int .u16 (aF 5),.map 2,.fT,.int .i64 (.lit 0),.bool (.lit false),.int .i64 (.lit 0),.bZ,.int .u32 (.lit 0),.bool (.lit false),.bool (.var 5),.bool (.lit true)])],[(2,[])],0,[1]⟩,
 ⟨.aH [.agg [.int .i64 (.lit 2),.int .i64 (.lit 3),.int .i64 (.lit 0)],.int .i64 (.lit 0)],[(1,[.cst 0 none,.bool (.lit false),.int .i64 (ah 0),.int .u64 (af 1),.int .u64 (af 2),.int .u64 (af 3),.bool (.var 0),.bool (.var 1),.bool (.var 2),.int .u16 (aF 4),.int .u16 (aF 5),.map 2,.func 112 [] [.ptr 10 0,.ptr 9 0],.int .i64 (.var 6),.bool (.var 3),.int .i64 (aF 7),.cst 1 none,.int .u32 (bM 8),.bool (.var 4),.bool (.lit false),.bool (.lit false)]),(9,[.ptr 1 0]),(10,[.func 83 [.ptr 1 0] []])],[(2,[])],0,[1,9,10]⟩,
 ⟨.aH [.agg [.int .i64 (.lit 2),.int .i64 (.lit 3),.int .i64 (.lit 0)],.int .i64 (.lit 0)],[(1,[.cst 0 none,.bool (.lit false),.int .i64 (ah 0),.int .u64 (af 1),.int .u64 (af 2),.int .u64 (af 3),.bool (.var 0),.bool (.var 1),.bool (.var 2),.int .u16 (aF 4),.int .u16 (aF 5),.map 2,.fT,.int .i64 (.var 6),.bool (.lit true),.int .i64 (aF 7),.cst 1 none,.int .u32 (bM 8),.bool (.var 4),.bool (.lit true),.bool (.lit false)])],[(2,[])],0,[1]⟩]
def Tryz.zn6:List (List (SB×Bool)×Nat):= [
 ([((.cmp .gtr (.bin .sub .u16 (aF 11) (aF 4)) (.lit 0)),true),((.cmp .leq (.bin .sub .u16 (aF 11) (aF 4)) (ah 0)),false)],0),
 ([((.cmp .gtr (.bin .sub .u16 (aF 11) (aF 4)) (.lit 0)),true),((.cmp .leq (.bin .sub .u16 (aF 11) (aF 4)) (ah 0)),true)],1),
 ([((.cmp .gtr (.bin .sub .u16 (aF 11) (aF 4)) (.lit 0)),false),((.cmp .leq (.bin .sub .u16 (aF 11) (aF 4)) (ah 0)),false)],0),
 ([((.cmp .gtr (.bin .sub .u16 (aF 11) (aF 4)) (.lit 0)),false),((.cmp .leq (.bin .sub .u16 (aF 11) (aF 4)) (ah 0)),true)],2)]
theorem Tryz.zuZ:(ev prog (bG YG) 100000 (.call 28 YH (bn 0 zlk) (cK zn7 0))).ways zu0=some zn6:=by kernel_rfl
theorem Tryz.zwN:(bJ zlk&&bI YG&&AV.bQ YH&&dx zn7)=true:=by kernel_rfl
def Tryz.XC:List aK:= []
def Tryz.Yf:List Sh:=II 83
def Tryz.XD:List AV:= [.ptr 1 0]
def Tryz.zqM:List (SB×Bool):= []
def Tryz.Z4:List Leaf:= [
 ⟨.aH [.agg [.int .i64 (.lit 4),.int .i64 (.lit 0),.int .i64 (.lit 0)],.int .i64 (.lit 0)],[(1,[.cst 0 none,.bool (.lit false),.int .i64 (ah 0),.int .u64 (af 1),.int .u64 (af 2),.int .u64 (af 3),.bool (.var 0),.bool (.var 1),.bool (.var 2),.int .u16 (aF 4),.int .u16 (aF 5),.map 2,.func 83 [.ptr 1 0] [],.int .i64 (.var 6),.bool (.var 3),.int .i64 (aF 7),.cst 1 none,.int .u32 (bM 8),.bool (.var 4),.bool (.lit false),.bool (.lit false)])],[(2,[])],0,[1]⟩]
def Tryz.Z0:List (List (SB×Bool)×Nat):= [
 ([], 0)]
theorem Tryz.zqL:(ev prog (bG XC) 100000 (.call 28 XD (bn 0 Yf) (cK Z4 0))).ways zqM=some Z0:=by kernel_rfl
theorem Tryz.zuO:(bJ Yf&&bI XC&&AV.bQ XD&&dx Z4)=true:=by kernel_rfl
def Tryz.Zf:List aK:= [vS 4 (.bin .rem .i64 (aF 4) (ah 0)) 2,CY]
def Tryz.znG:List Sh:=fF (nM 83)
def Tryz.Zg:List AV:= [.ptr 1 0]
def Tryz.zwq:List (SB×Bool):= []
def Tryz.zss:List Leaf:= [
 ⟨.aH [.agg [.int .i64 (.lit 2),.int .i64 (.lit 4),.int .i64 (.bin .rem .i64 (aF 4) (ah 0))],.int .i64 (.lit 0)],[(1,[.cst 0 none,.bool (.lit false),.int .i64 (ah 0),.int .u64 (af 1),.int .u64 (af 2),.int .u64 (af 3),.bool (.var 0),.bool (.var 1),.bool (.var 2),.int .u16 (aF 4),.int .u16 (aF 5),.map 2,.func 113 [.ptr 1 0] [],.int .i64 (.var 6),.bool (.var 3),.int .i64 (aF 11),.cst 1 none,.int .u32 (bM 8),.bool (.var 4),.bool (.lit false),.bool (.lit false)])],[(2,[])],0,[1]⟩]
def Tryz.zsr:List (List (SB×Bool)×Nat):= [
 ([], 0)]
theorem Tryz.zwp:(ev prog (bG Zf) 100000 (.call 28 Zg (bn 0 znG) (cK zss 0))).ways zwq=some zsr:=by kernel_rfl
theorem Tryz.zzR:(bJ znG&&bI Zf&&AV.bQ Zg&&dx zss)=true:=by kernel_rfl
def Tryz.YC:List aK:= [Le (.lit 0),zzb]
def Tryz.Z9:List Sh:=OC (nM 113) (.int .i64 (aF 7)) none
def Tryz.YD:List AV:= [.ptr 1 0]
def Tryz.zuV:List (SB×Bool):= []
def Tryz.zn4:List Leaf:= [
 ⟨.aH [.agg [.int .i64 (.lit 1),.int .i64 (.lit 0),.int .i64 (.lit 0)],.int .i64 (.lit 0)],[(1,[.cst 0 none,.bool (.lit false),.int .i64 (ah 0),.int .u64 (af 1),.int .u64 (af 2),.int .u64 (af 3),.bool (.var 0),.bool (.var 1),.bool (.var 2),.int .u16 (.bin .add .u16 (aF 4) (.lit 1)),.int .u16 (aF 5),.map 2,.fT,.int .i64 (.var 6),.bool (.var 3),.int .i64 (aF 7),.opq 7 none,.int .u32 (bM 8),.bool (.var 4),.bool (.lit true),.bool (.lit false)])],[(2,[(.int .i64 (aF 7),some (.opq 6 none)),(.int .i64 (aF 7),some (.bZ))])],2,[1]⟩]
def Tryz.zwK:List (List (SB×Bool)×Nat):= [
 ([], 0)]
theorem Tryz.zuU:(ev prog (bG YC) 100000 (.call 28 YD (bn 0 Z9) (cK zn4 0))).ways zuV=some zwK:=by kernel_rfl
theorem Tryz.zwL:(bJ Z9&&bI YC&&AV.bQ YD&&dx zn4)=true:=by kernel_rfl
def Tryz.Xb:List aK:= [Le (.var 11)]
def Tryz.YF:List Sh:=OC (nM 113) (.int .i64 (aF 7)) none
def Tryz.Xc:List AV:= [.ptr 1 0]
def Tryz.zqV:List (SB×Bool):= [(.cmp .neq (.var 11) (.lit 0),true)]
def Tryz.zlj:List Leaf:= [
 ⟨.aH [.agg [.int .i64 (.lit 1),.int .i64 (.lit 0),.int .i64 (.lit 0)],.int .i64 (.lit 4)],[(1,[.cst 0 none,.bool (.lit false),.int .i64 (ah 0),.int .u64 (af 1),.int .u64 (af 2),.int .u64 (af 3),.bool (.var 0),.bool (.var 1),.bool (.var 2),.int .u16 (aF 4),.int .u16 (aF 5),.map 2,.fT,.int .i64 (.lit 0),.bool (.lit false),.int .i64 (.lit 0),.bZ,.int .u32 (.lit 0),.bool (.lit false),.bool (.var 5),.bool (.lit true)])],[(2,[])],1,[1]⟩]
def Tryz.zuX:List (List (SB×Bool)×Nat):= [
 ([], 0)]
theorem Tryz.zqU:(ev prog (bG Xb) 100000 (.call 28 Xc (bn 0 YF) (cK zlj 0))).ways zqV=some zuX:=by kernel_rfl
theorem Tryz.zuY:(bJ YF&&bI Xb&&AV.bQ Xc&&dx zlj)=true:=by kernel_rfl
def Tryz.W9:List aK:= [Le (.var 11)]
def Tryz.YE:List Sh:=OC (nM 113) (.int .i64 (aF 7)) (some (.cst 2 none))
def Tryz.Xa:List AV:= [.ptr 1 0]
def Tryz.zqT:List (SB×Bool):= []
def Tryz.zli:List Leaf:= [
 ⟨.aH [.agg [.int .i64 (.lit 1),.int .i64 (.lit 0),.int .i64 (.lit 0)],.int .i64 (.lit 4)],[(1,[.cst 0 none,.bool (.lit false),.int .i64 (ah 0),.int .u64 (af 1),.int .u64 (af 2),.int .u64 (af 3),.bool (.var 0),.bool (.var 1),.bool (.var 2),.int .u16 (aF 4),.int .u16 (aF 5),.map 2,.fT,.int .i64 (.lit 0),.bool (.lit false),.int .i64 (.lit 0),.bZ,.int .u32 (.lit 0),.bool (.lit false),.bool (.var 5),.bool (.lit true)])],[(2,[])],1,[1]⟩]
def Tryz.zlh:List (List (SB×Bool)×Nat):= [
 ([((.cmp .neq (.var 11) (.lit 0)),true)],0),
 ([((.cmp .neq (.var 11) (.lit 0)),false)],0)]
theorem Tryz.zqS:(ev prog (bG W9) 100000 (.call 28 Xa (bn 0 YE) (cK zli 0))).ways zqT=some zlh:=by kernel_rfl
theorem Tryz.zuW:(bJ YE&&bI W9&&AV.bQ Xa&&dx zli)=true:=by kernel_rfl
def Tryz.WG:List aK:= [vS 8 (.bin .rem .i64 (aF 5) (ah 0)) 8,Ld 8 (.dG [⟨7,0,65535,0,16,0⟩,⟨8,0,4294967295,0,32,32⟩] 0)]
def Tryz.XJ:List Sh:=fF (nM 61)
def Tryz.WQ:List AV:= [.ptr 1 0]
def Tryz.zn1:List (SB×Bool):= []
def Tryz.XU:List Leaf:= [
 ⟨.aH [.agg [.int .i64 (.lit 3),.int .i64 (.lit 8),.int .i64 (.bin .rem .i64 (aF 5) (ah 0))],.int .i64 (.lit 0)],[(1,[.cst 0 none,.bool (.lit false),.int .i64 (ah 0),.int .u64 (af 1),.int .u64 (af 2),.int .u64 (af 3),.bool (.var 0),.bool (.var 1),.bool (.var 2),.int .u16 (aF 4),.int .u16 (aF 5),.map 2,.func 112 [] [.ptr 6 0,.ptr 5 0],.int .i64 (.var 6),.bool (.var 3),.int .i64 (aF 7),.cst 1 none,.int .u32 (bM 8),.bool (.var 4),.bool (.lit false),.bool (.lit false)]),(5,[.ptr 1 0]),(6,[.func 89 [.ptr 1 0] []])],[(2,[])],1,[1,5,6]⟩]
def Tryz.XT:List (List (SB×Bool)×Nat):= [
 ([], 0)]
theorem Tryz.zn0:(ev prog (bG WG) 100000 (.call 28 WQ (bn 0 XJ) (cK XU 0))).ways zn1=some XT:=by kernel_rfl
theorem Tryz.zqR:(bJ XJ&&bI WG&&AV.bQ WQ&&dx XU)=true:=by kernel_rfl
def Tryz.WB:List aK:= []
def Tryz.XH:List Sh:=II 89
def Tryz.WC:List AV:= [.ptr 1 0]
def Tryz.znW:List (SB×Bool):= []
def Tryz.XP:List Leaf:= [
 ⟨.aH [.agg [.int .i64 (.lit 4),.int .i64 (.lit 0),.int .i64 (.lit 0)],.int .i64 (.lit 0)],[(1,[.cst 0 none,.bool (.lit false),.int .i64 (ah 0),.int .u64 (af 1),.int .u64 (af 2),.int .u64 (af 3),.bool (.var 0),.bool (.var 1),.bool (.var 2),.int .u16 (aF 4),.int .u16 (aF 5),.map 2,.func 89 [.ptr 1 0] [],.int .i64 (.var 6),.bool (.var 3),.int .i64 (aF 7),.cst 1 none,.int .u32 (bM 8),.bool (.var 4),.bool (.lit false),.bool (.lit false)])],[(2,[])],0,[1]⟩]
def Tryz.XO:List (List (SB×Bool)×Nat):= [
 ([], 0)]
theorem Tryz.znV:(ev prog (bG WB) 100000 (.call 28 WC (bn 0 XH) (cK XP 0))).ways znW=some XO:=by kernel_rfl
theorem Tryz.zqQ:(bJ XH&&bI WB&&AV.bQ WC&&dx XP)=true:=by kernel_rfl
def Tryz.Yd:List aK:= [vS 7 (.lit 0) 2,Ld 2 (.bin .add .u16 (aF 5) (.lit 1))]
def Tryz.Y5:List Sh:=fF (nM 89)
def Tryz.Ye:List AV:= [.ptr 1 0]
def Tryz.zuN:List (SB×Bool):= []
def Tryz.znQ:List Leaf:= [
 ⟨.aH [.agg [.int .i64 (.lit 3),.int .i64 (.lit 7),.int .i64 (.lit 0)],.int .i64 (.lit 0)],[(1,[.cst 0 none,.bool (.lit false),.int .i64 (ah 0),.int .u64 (af 1),.int .u64 (af 2),.int .u64 (af 3),.bool (.var 0),.bool (.var 1),.bool (.var 2),.int .u16 (aF 4),.int .u16 (.bin .add .u16 (aF 5) (.lit 1)),.map 2,.func 112 [] [.ptr 6 0,.ptr 5 0],.int .i64 (.var 6),.bool (.var 3),.int .i64 (aF 7),.cst 1 none,.int .u32 (bM 8),.bool (.var 4),.bool (.lit false),.bool (.lit false)]),(5,[.ptr 1 0]),(6,[.func 119 [.ptr 1 0] []])],[(2,[])],1,[1,5,6]⟩]
def Tryz.znP:List (List (SB×Bool)×Nat):= [
 ([], 0)]
theorem Tryz.zuM:(ev prog (bG Yd) 100000 (.call 28 Ye (bn 0 Y5) (cK znQ 0))).ways zuN=some znP:=by kernel_rfl
theorem Tryz.zwE:(bJ Y5&&bI Yd&&AV.bQ Ye&&dx znQ)=true:=by kernel_rfl
def Tryz.Wz:List aK:= []
def Tryz.XG:List Sh:=II 119
def Tryz.WA:List AV:= [.ptr 1 0]
def Tryz.znU:List (SB×Bool):= []
def Tryz.XM:List Leaf:= [
 ⟨.aH [.agg [.int .i64 (.lit 4),.int .i64 (.lit 0),.int .i64 (.lit 0)],.int .i64 (.lit 0)],[(1,[.cst 0 none,.bool (.lit false),.int .i64 (ah 0),.int .u64 (af 1),.int .u64 (af 2),.int .u64 (af 3),.bool (.var 0),.bool (.var 1),.bool (.var 2),.int .u16 (aF 4),.int .u16 (aF 5),.map 2,.func 119 [.ptr 1 0] [],.int .i64 (.var 6),.bool (.var 3),.int .i64 (aF 7),.cst 1 none,.int .u32 (bM 8),.bool (.var 4),.bool (.lit false),.bool (.lit false)])],[(2,[])],0,[1]⟩]
def Tryz.XL:List (List (SB×Bool)×Nat):= [
 ([], 0)]
theorem Tryz.znT:(ev prog (bG Wz) 100000 (.call 28 WA (bn 0 XG) (cK XM 0))).ways znU=some XL:=by kernel_rfl
theorem Tryz.zqP:(bJ XG&&bI Wz&&AV.bQ WA&&dx XM)=true:=by kernel_rfl
def Tryz.XZ:List aK:= [vS 2 (.lit 0) 2,CY]
def Tryz.Zb:List Sh:=fF (nM 119)
def Tryz.X0:List AV:= [.ptr 1 0]
def Tryz.zuD:List (SB×Bool):= [(.var 0,false)]
def Tryz.znB:List Leaf:= [
 ⟨.aH [.agg [.int .i64 (.lit 2),.int .i64 (.lit 2),.int .i64 (.lit 0)],.int .i64 (.lit 0)],[(1,[.cst 0 none,.bool (.lit false),.int .i64 (ah 0),.int .u64 (af 1),.int .u64 (af 2),.int .u64 (af 3),.bool (.var 0),.bool (.var 1),.bool (.var 2),.int .u16 (aF 4),.int .u16 (aF 5),.map 2,.fT,.int .i64 (.var 6),.bool (.var 3),.int .i64 (aF 7),.cst 1 none,.int .u32 (bM 8),.bool (.cmp .eql (.dG [⟨11,0,65535,0,1,0⟩] 0) (.lit 0)),.bool (.lit true),.bool (.lit false)])],[(2,[(.int .i64 (aF 7),none)])],0,[1]⟩]
def Tryz.znA:List (List (SB×Bool)×Nat):= [
 ([], 0)]
theorem Tryz.zuC:(ev prog (bG XZ) 100000 (.call 28 X0 (bn 0 Zb) (cK znB 0))).ways zuD=some znA:=by kernel_rfl
theorem Tryz.zwj:(bJ Zb&&bI XZ&&AV.bQ X0&&dx znB)=true:=by kernel_rfl
def Tryz.X3:List aK:= [vS 5 (.lit 0) 2,CY]
def Tryz.Zc:List Sh:=fF (nM 119)
def Tryz.X4:List AV:= [.ptr 1 0]
def Tryz.zuF:List (SB×Bool):= [(.var 0,true)]
def Tryz.znD:List Leaf:= [
 ⟨.aH [.agg [.int .i64 (.lit 2),.int .i64 (.lit 5),.int .i64 (.lit 0)],.int .i64 (.lit 0)],[(1,[.cst 0 none,.bool (.lit false),.int .i64 (ah 0),.int .u64 (af 1),.int .u64 (af 2),.int .u64 (af 3),.bool (.var 0),.bool (.var 1),.bool (.var 2),.int .u16 (aF 4),.int .u16 (aF 5),.map 2,.fT,.int .i64 (.var 6),.bool (.var 3),.int .i64 (aF 7),.cst 1 none,.int .u32 (bM 8),.bool (.cmp .lss (.bin .sub .u16 (.bin .sub .u16 (aF 5) (aF 11)) (.lit 1)) (.bin .sub .u16 (aF 5) (.bin .sub .u16 (aF 5) (.lit 1)))),.bool (.lit true),.bool (.lit false)])],[(2,[(.int .i64 (aF 7),none)])],0,[1]⟩]
def Tryz.znC:List (List (SB×Bool)×Nat):= [
 ([], 0)]
theorem Tryz.zuE:(ev prog (bG X3) 100000 (.call 28 X4 (bn 0 Zc) (cK znD 0))).ways zuF=some znC:=by kernel_rfl
theorem Tryz.zwk:(bJ Zc&&bI X3&&AV.bQ X4&&dx znD)=true:=by kernel_rfl
def Tryz.YZ:List aK:= []
def Tryz.znJ:List Sh:= [.own (qy .fT (.var 5) (.lit false)),.dm []]
def Tryz.Y0:List AV:= [.ptr 1 0]
def Tryz.zww:List (SB×Bool):= []
def Tryz.zsw:List Leaf:= [
 ⟨.int .i64 (.lit 0),[(1,[.cst 0 none,.bool (.lit false),.int .i64 (ah 0),.int .u64 (af 1),.int .u64 (af 2),.int .u64 (af 3),.bool (.var 0),.bool (.var 1),.bool (.var 2),.int .u16 (aF 4),.int .u16 (aF 5),.map 2,.func 55 [.ptr 1 0] [],.int .i64 (.lit 3),.bool (.lit false),.int .i64 (.lit 0),.bZ,.int .u32 (.lit 0),.bool (.lit false),.bool (.lit false),.bool (.lit false)])],[(2,[])],0,[1]⟩]
def Tryz.zzV:List (List (SB×Bool)×Nat):= [
 ([], 0)]
theorem Tryz.zwv:(ev prog (bG YZ) 100000 (.call 13 Y0 (bn 0 znJ) (cK zsw 0))).ways zww=some zzV:=by kernel_rfl
theorem Tryz.zzW:(bJ znJ&&bI YZ&&AV.bQ Y0&&dx zsw)=true:=by kernel_rfl
end Go.Proofs
end
