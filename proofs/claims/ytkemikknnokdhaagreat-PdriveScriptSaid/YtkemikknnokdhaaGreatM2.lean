/-
  Proved: laws on the way to 'PdriveScriptProof' (texts DwPlan2 DwLit DwPlan3 DwEnd DwOpen DwEnt DwWay DwDen SoA DwLoop WkA QaE0 QaA QaB QaC QaD WkB SoB SoC SoD SoF SoG SoH SoI SoJ SoK SoL SoM SoN WkC WkD WkE WkF0 WkG DwTurn WkH0 WkH WkI0 WkI WkJ ClA WkK WkL WkM WkN WkO QaE XaA WkP WkQ WkR WkS0 WkS1 WkS WkT DwOrc); no condition.
-/
import Derived.Test.YtkemikknnokdhaaGreatM1
import Derived.RowKit3
import Derived.ChangeSame
import Derived.KernelRfl
import Derived.Laws.IdiomCopy
import Derived.Maps.AppendAt
import Derived.Defers
import Derived.BigFrame
import Derived.Recover
import Derived.Shelf.SlIterI.Nil
import Derived.Shelf.SlIterI.Sorted
import Derived.Lib.SlKeysI
set_option linter.unusedSimpArgs false
set_option linter.unusedVariables false
set_option maxHeartbeats 4000000
noncomputable section
namespace Go.Dw
def bE (ops:Array Oper) (i:Nat):Nat:=(kC ops.toList).getD i 0
def dB (ops:Array Oper):List Nat:=ql ops.toList 0
def jl (ops:Array Oper) (i:Nat):Nat:=kZ (bE ops i) (dB ops) 0 0
def jH (ops:Array Oper):List PO:=posOf (dB ops) ops.toList (kC ops.toList) 0
def gY (ops:Array Oper):List PO:=(jH ops).filter fun p=>iy p.o
structure PF (ops:Array Oper):Prop where
 xX:tK ops
 chain: ∀u h h',(dB ops)[u]? =some h→(dB ops)[u+1]? =some h'→(bE ops h').testBit h=true
 reads: ∀(p q:Nat) (o oq:Oper) (t:Tmp),ops[p]? =some o→ops[q]? =some oq→oq.dst=some t→t∈looks ops o→(bE ops p).testBit q=true∨(bE ops q).testBit p=true
 Cw: ∀(p q:Nat) (o oq:Oper) (t:Tmp),p≠q→ops[p]? =some o→ops[q]? =some oq→o.dst=some t→oq.dst≠some t
 abg: ∀(p:Nat) (o:Oper),ops[p]? =some o→Fe o=false
 rer: ∀(u h p q:Nat) (o oq:Oper) (t:Tmp),(dB ops)[u]? =some h→ops[p]? =some o→Fa o=true→jl ops p≤u→(bE ops h).testBit p=false→
  ops[q]? =some oq→oq.dst=some t→t∈looks ops o→(bE ops p).testBit q=true∨u<jl ops q
theorem Ii: ∀(l:List Oper) (n i:Nat),i∈ql l n↔ ∃k o,i=n+k∧l[k]? =some o∧iy o=true
 | [], n,i=>by simp [ql]
 | o::l,n,i=>by
  unfold ql;split
  ·rename_i h;rw [yaj,Ii l (Nat.succ n) i];constructor
   ·rintro (rfl|⟨k,o',h1,h2,h3⟩)
    ·exact ⟨0,o,rfl,rfl,h⟩
    ·exact ⟨k+1,o',by omega,by simpa using h2,h3⟩
   ·rintro ⟨k,o',h1,h2,h3⟩;cases k with
    | zero=>left;simpa using h1
    | succ k=>exact .inr ⟨k,o',by omega,by simpa using h2,h3⟩
  ·rename_i h;rw [Ii l (Nat.succ n) i];constructor
   ·rintro ⟨k,o',h1,h2,h3⟩;exact ⟨k+1,o',by omega,by simpa using h2,h3⟩
   ·rintro ⟨k,o',h1,h2,h3⟩;cases k with
    | zero=>
     simp only [yau,ybH] at h2;subst h2;rw [h] at h3;cases h3
    | succ k=>exact ⟨k,o',by omega,by simpa using h2,h3⟩
theorem EH: ∀(l:List Oper) (n:Nat),(ql l n).Pairwise (· < ·)
 | [], n=>List.Pairwise.nil
 | o::l,n=>by
  unfold ql;split
  ·refine List.Pairwise.cons (fun i hi=> ?_) (EH l _);obtain ⟨k,_,h,_⟩:=(Ii l _ i).1 hi;omega
  ·exact EH l _
theorem EM {ops:Array Oper} {i:Nat}:(∃u:Nat,(dB ops)[u]? =some i)↔ ∃o,ops[i]? =some o∧iy o=true:=by
 rw [←yc8];unfold dB;rw [Ii];constructor
 ·rintro ⟨k,o,h1,h2,h3⟩;have e:i=k:=by omega
  subst e;exact ⟨o,by simpa using h2,h3⟩
 ·rintro ⟨o,h2,h3⟩;exact ⟨i,o,by omega,by simpa using h2,h3⟩
theorem PX {ops:Array Oper} {u v x y:Nat} (h1:(dB ops)[u]? =some x) (h2:(dB ops)[v]? =some y) (h:x<y):u<v:=by
 apply yby;intro hn;obtain ⟨hu,e1⟩:=yat.1 h1;obtain ⟨hv,e2⟩:=yat.1 h2;rcases Nat.lt_or_eq_of_le (yc2 hn) with hlt|heq
 ·have:=(ycQ.1 (EH ops.toList 0)) v u hv hu hlt;change (dB ops)[v]<(dB ops)[u] at this;omega
 ·subst heq;rw [h1] at h2;cases h2;exact ybe _ h
theorem YZ {ops:Array Oper} {u v x:Nat} (h1:(dB ops)[u]? =some x) (h2:(dB ops)[v]? =some x):u=v:=by
 obtain ⟨hu,e1⟩:=yat.1 h1;obtain ⟨hv,e2⟩:=yat.1 h2;rcases Nat.lt_trichotomy u v with h|h|h
 ·have:=(ycQ.1 (EH ops.toList 0)) u v hu hv h;change (dB ops)[u]<(dB ops)[v] at this;omega
 ·exact h
 ·have:=(ycQ.1 (EH ops.toList 0)) v u hv hu h;change (dB ops)[v]<(dB ops)[u] at this;omega
theorem Jd {ops:Array Oper} {i x:Nat} (h:ops[i]? =none):(bE ops i).testBit x=false:=by
 unfold bE;rw [yaw,yaT (by rw [Er];simpa using h)];simp
theorem E5 {ops:Array Oper} (he:tK ops): ∀(i x:Nat),(bE ops i).testBit x=true→x<i:=by
 intro i
 induction i using Nat.strongRecOn with
 | _ i ih=>
  intro x hx;cases ho:ops[i]? with
  | none=>rw [Jd ho] at hx;cases hx
  | some o=>
   obtain ⟨e,h1,h2,h3⟩:=zdt ops.toList [] i x o (by simpa using ho) (by simpa [bE,kC] using hx);have hlt:=he i o ho e (by simpa using h1) h2;rcases h3 with rfl|⟨h3,h4⟩
   ·exact hlt
   ·have:=ih e.on hlt x (by simpa [bE,kC] using h4);omega
theorem UX {ms:List Nat}: ∀ {l:List Edge} {x:Nat} {e:Edge},e∈l→Region.binds .any e=true→(x=e.on∨(ms.getD e.on 0).testBit x=true)→(nQ ms l).testBit x=true
 | [], x,e,h,_,_=>by cases h
 | e'::l,x,e,h,hb,hx=>by
  unfold nQ;rcases yaj.1 h with rfl|h
  ·rw [hb];show (((2^e.on)|||(ms.getD e.on 0))|||nQ ms l).testBit x=true;rw [yaO,yaO,ycj];rcases hx with rfl|hx
   ·simp
   ·rw [hx];simp
  ·have ih:=UX h hb hx;split
   ·show (((2^e'.on)|||(ms.getD e'.on 0))|||nQ ms l).testBit x=true;rw [yaO,ih];simp
   ·exact ih
theorem UU: ∀(l:List Oper) (ms:List Nat) (i x:Nat) (o:Oper),l[i]? =some o→ ∀e∈o.after.toList,Region.binds .any e=true→e.on<ms.length+i→
  (x=e.on∨((nN l ms).getD e.on 0).testBit x=true)→((nN l ms).getD (ms.length+i) 0).testBit x=true
 | [], ms,i,x,o,h,_,_,_,_,_=>by simp at h
 | o'::l,ms,0,x,o,h,e,he,hb,hlt,hx=>by
  simp at h;subst h;unfold nN at hx ⊢;rw [yaw,Eu l _ _ (by simp),yaV (by simp)];simp only [yaF,yc4,yau,ycg];refine UX he hb (hx.imp id fun hx=> ?_);rw [yaw,Eu l _ _ (by simp;omega),yaP (by omega),←yaw] at hx;exact hx
 | o'::l,ms,i+1,x,o,h,e,he,hb,hlt,hx=>by
  unfold nN at hx ⊢;have:=UU l (ms++ [nQ ms o'.after.toList]) i x o (by simpa using h) e he hb (by simp;omega) hx;simpa [ybn,yc5 1 i] using this
theorem zrG {ops:Array Oper} (he:tK ops) {i x:Nat} {o:Oper} (ho:ops[i]? =some o) {e:Edge} (h1:e∈o.after) (h2:Region.binds .any e=true) (hx:x=e.on∨(bE ops e.on).testBit x=true):
  (bE ops i).testBit x=true:=by
 have:=UU ops.toList [] i x o (by simpa using ho) e (by simpa using h1) h2 (by simpa using he i o ho e h1 h2) (by simpa [bE,kC] using hx);simpa [bE,kC] using this
theorem zpG {ops:Array Oper} (he:tK ops): ∀(i x y:Nat),(bE ops i).testBit x=true→(bE ops x).testBit y=true→(bE ops i).testBit y=true:=by
 intro i
 induction i using Nat.strongRecOn with
 | _ i ih=>
  intro x y hx hy;cases ho:ops[i]? with
  | none=>rw [Jd ho] at hx;cases hx
  | some o=>
   obtain ⟨e,h1,h2,h3⟩:=zdt ops.toList [] i x o (by simpa using ho) (by simpa [bE,kC] using hx);have hlt:=he i o ho e (by simpa using h1) h2;refine zrG he ho (by simpa using h1) h2 (.inr ?_);rcases h3 with rfl|⟨h3,h4⟩
   ·exact hy
   ·exact ih e.on hlt x y (by simpa [bE,kC] using h4) hy
theorem Ph {ops:Array Oper} {i u x:Nat} (hu:(dB ops)[u]? =some x) (hx:(bE ops i).testBit x=true):u+1≤jl ops i:=by
 have:=Ot (m:=bE ops i) (dB ops) 0 0 u x (yaa _) hu hx;unfold jl;omega
theorem JI {ops:Array Oper} (i:Nat):jl ops i=0∨ ∃u x,(dB ops)[u]? =some x∧(bE ops i).testBit x=true∧jl ops i=u+1:=by
 rcases N7 (m:=bE ops i) (dB ops) 0 0 (yaa _) with h|⟨u,x,h1,h2,h3⟩
 ·exact .inl h
 ·exact .inr ⟨u,x,h1,h2,by unfold jl;omega⟩
theorem PL {ops:Array Oper} (he:tK ops) {i x:Nat} (hx:(bE ops i).testBit x=true):jl ops x≤jl ops i:=by
 rcases JI (ops:=ops) x with h|⟨u,y,h1,h2,h3⟩
 ·omega
 ·have:=Ph (i:=i) h1 (zpG he i x y hx h2);omega
def DD (ops:Array Oper) (s n i:Nat):Prop:=
 ∃ o,ops[i]? =some o∧((iy o=false∧(jl ops i<s∨jl ops i=s∧i<n))∨(iy o=true∧ ∃u,u<s∧(dB ops)[u]? =some i))
theorem XU {ops:Array Oper} (he:tK ops) {i x:Nat} (hx:(bE ops i).testBit x=true): ∃o,ops[x]? =some o:=by
 have hlt:=E5 he i x hx;cases ho:ops[i]? with
 | none=>rw [Jd ho] at hx;cases hx
 | some o=>
  have:=(yax.1 ho).1;exact ⟨ops[x],yaQ (by omega)⟩
theorem zsU {ops:Array Oper} (he:tK ops) {s n i x:Nat} (h:DD ops s n i) (hx:(bE ops i).testBit x=true):DD ops s n x:=by
 obtain ⟨o,ho,h⟩:=h;obtain ⟨ox,hox⟩:=XU he hx;have hlt:=E5 he i x hx;refine ⟨ox,hox,?_⟩;cases hh:iy ox with
 | true=>
  obtain ⟨u,hu⟩:=EM.2 ⟨ox,hox,hh⟩;refine .inr ⟨rfl,u,?_,hu⟩;rcases h with ⟨_,h⟩|⟨_,v,hv,h⟩
  ·have:=Ph (i:=i) hu hx;omega
  ·have:=PX hu h hlt;omega
 | false=>
  refine .inl ⟨rfl,?_⟩;rcases h with ⟨_,h⟩|⟨_,v,hv,h⟩
  ·have:=PL he hx;omega
  ·rcases JI (ops:=ops) x with h0|⟨u,y,h1,h2,h3⟩
   ·omega
   ·have:=E5 he x y h2;have:=PX h1 h (by omega);omega
theorem zxu {ops:Array Oper} (he:tK ops) {s i x:Nat} (hs:jl ops i=s) (hx:(bE ops i).testBit x=true):DD ops s i x:=by
 obtain ⟨ox,hox⟩:=XU he hx;have hlt:=E5 he i x hx;refine ⟨ox,hox,?_⟩;cases hh:iy ox with
 | true=>
  obtain ⟨u,hu⟩:=EM.2 ⟨ox,hox,hh⟩;have:=Ph (i:=i) hu hx;exact .inr ⟨rfl,u,by omega,hu⟩
 | false=>
  have:=PL he hx;exact .inl ⟨rfl,by omega⟩
theorem zxr {ops:Array Oper} {s n:Nat} {o:Oper} (ho:ops[n]? =some o) (hv:iy o=false) (hs:jl ops n=s) (i:Nat):(DD ops s n i∨i=n)↔DD ops s (n+1) i:=by
 constructor
 ·rintro (⟨o',h1,h2⟩|rfl)
  ·refine ⟨o',h1,h2.imp (fun h=>⟨h.1,?_⟩) id⟩;have:=h.2;omega
  ·exact ⟨o,ho,.inl ⟨hv,by omega⟩⟩
 ·rintro ⟨o',h1,h2|h2⟩
  ·by_cases hi:i=n
   ·exact .inr hi
   ·exact .inl ⟨o',h1,.inl ⟨h2.1,by have:=h2.2;omega⟩⟩
  ·exact .inl ⟨o',h1,.inr h2⟩
theorem zxs {ops:Array Oper} {s n:Nat} {o:Oper} (ho:ops[n]? =some o) (h:iy o=true∨jl ops n≠s) (i:Nat):DD ops s n i↔DD ops s (n+1) i:=by
 constructor
 ·rintro ⟨o',h1,h2⟩;refine ⟨o',h1,h2.imp (fun h=>⟨h.1,?_⟩) id⟩;have:=h.2;omega
 ·rintro ⟨o',h1,h2|h2⟩
  ·refine ⟨o',h1,.inl ⟨h2.1,?_⟩⟩;by_cases hi:i=n
   ·subst hi;rw [ho] at h1;cases h1;rcases h with h|h
    ·rw [h] at h2;cases h2.1
    ·have:=h2.2;omega
   ·have:=h2.2;omega
  ·exact ⟨o',h1,.inr h2⟩
theorem zxt {ops:Array Oper} {s n:Nat} (hn:ops.size≤n) (i:Nat):DD ops s n i↔DD ops s ops.size i:=by
 constructor<;>rintro ⟨o',h1,h2⟩<;>have hlt:=(yax.1 h1).1<;>
  exact ⟨o',h1,h2.imp (fun h=>⟨h.1,by have:=h.2;omega⟩) id⟩
theorem zuZ {ops:Array Oper} {s h:Nat} {o:Oper} (hu:(dB ops)[s]? =some h) (ho:ops[h]? =some o) (hv:iy o=true) (i:Nat):(DD ops s ops.size i∨i=h)↔DD ops (s+1) 0 i:=by
 constructor
 ·rintro (⟨o',h1,h2⟩|rfl)
  ·refine ⟨o',h1,h2.imp (fun h=>⟨h.1,by have:=h.2;omega⟩) fun ⟨a,u,b,c⟩=>⟨a,u,by omega,c⟩⟩
  ·exact ⟨o,ho,.inr ⟨hv,s,by omega,hu⟩⟩
 ·rintro ⟨o',h1,h2|⟨h2,u,h3,h4⟩⟩
  ·have hlt:=(yax.1 h1).1;exact .inl ⟨o',h1,.inl ⟨h2.1,by have:=h2.2;omega⟩⟩
  ·by_cases fH:u=s
   ·subst fH;rw [hu] at h4;cases h4;exact .inr rfl
   ·exact .inl ⟨o',h1,.inr ⟨h2,u,by omega,h4⟩⟩
theorem zrF {ops:Array Oper} {p:PO}:p∈jH ops↔ops[p.i]? =some p.o∧p.m=bE ops p.i∧p.s=jl ops p.i:=by
 unfold jH;rw [XT (by rw [Er])];constructor
 ·rintro ⟨i,h1,h2,h3,h4⟩;have e:p.i=i:=by omega
  have hm:p.m=bE ops i:=by unfold bE;rw [yaw,h3];rfl
  rw [e];exact ⟨by simpa using h1,hm,by rw [h4,hm];rfl⟩
 ·rintro ⟨h1,h2,h3⟩;have hlt:=(yax.1 h1).1;have hm:(kC ops.toList)[p.i]? =some p.m:=by
   rw [h2];unfold bE;rw [yaw,yai (by rw [Er];simpa using hlt)];rfl
  exact ⟨p.i,by simpa using h1,by omega,hm,by rw [h3,h2];rfl⟩
theorem xB {ops:Array Oper} {i:Nat} {o:Oper} (h:ops[i]? =some o):(⟨o,i,bE ops i,jl ops i⟩:PO)∈jH ops:=zrF.2 ⟨h,rfl,rfl⟩
theorem Ww {ms:List Nat}: ∀ {l:List Nat} {u h h':Nat},chained ms l=true→l[u]? =some h→l[u+1]? =some h'→(ms.getD h' 0).testBit h=true
 | [], u,h,h',_,h1,_=>by simp at h1
 | x::l,u,h,h',hc,h1,h2=>by
  unfold chained at hc;cases l with
  | nil=>simp at h2
  | cons y l=>
   simp only at hc;split at hc
   ·rename_i hb;cases u with
    | zero=>simp at h1 h2;subst h1 h2;exact hb
    | succ u=>exact Ww hc (by simpa using h1) (by simpa using h2)
   ·cases hc
theorem Wl: ∀ {l:List PO},EW l=true→ ∀p∈l,∀e∈p.o.after,Region.binds .any e=true→e.on<p.i
 | [], _,p,hp,_,_,_=>by cases hp
 | q::l,h,p,hp,e,he,hb=>by
  unfold EW at h;split at h
  case h_2=>cases h
  rename_i hq;rcases yaj.1 hp with rfl|hp
  ·have:=ybo.1 hq e (by simpa using he);rw [hb] at this;rw [yaD] at this;exact this
  ·exact Wl h p hp e he hb
theorem Qi {hs:List Nat}: ∀ {l:List Oper} {ms:List Nat} {n:Nat},l.length=ms.length→((posOf hs l ms n).filter fun p=>iy p.o).map (·.i)=ql l n
 | [], ms,n,_=>by simp [posOf,ql]
 | o::l,[],n,h=>by simp at h
 | o::l,m::ms,n,h=>by
  unfold posOf ql;rw [List.filter_cons];cases hv:iy o with
  | true=>simp [hv,Qi (hs:=hs) (l:=l) (ms:=ms) (n:=n+1) (by simpa using h)]
  | false=>simp [hv,Qi (hs:=hs) (l:=l) (ms:=ms) (n:=n+1) (by simpa using h)]
theorem Y0 (ops:Array Oper):(gY ops).map (·.i)=dB ops:=Qi (by rw [Er])
theorem Z8 {ops:Array Oper} {u:Nat} {p:PO} (h:(gY ops)[u]? =some p):(dB ops)[u]? =some p.i∧ops[p.i]? =some p.o∧p.m=bE ops p.i∧iy p.o=true:=by
 have hm:=ya8 h;unfold gY at hm;rw [List.mem_filter,zrF] at hm;refine ⟨?_,hm.1.1,hm.1.2.1,hm.2⟩;rw [←Y0,ybf,h];rfl
theorem NV (ops:Array Oper):(gY ops).length=(dB ops).length:=by rw [←Y0];simp
theorem H6 {s hm:Nat} {p:PO}: ∀ {l:List PO},p∈wW s hm l↔p∈l∧Fa p.o=true∧p.s≤s∧hm.testBit p.i=false
 | [] => by simp [wW]
 | q::l=>by
  unfold wW;split
  ·rename_i h1 h2 h3;rw [yaj,yaj,H6];constructor
   ·rintro (rfl|h)
    ·exact ⟨.inl rfl,h1,yam h2,h3⟩
    ·exact ⟨.inr h.1,h.2⟩
   ·rintro ⟨rfl|h,h'⟩
    ·exact .inl rfl
    ·exact .inr ⟨h,h'⟩
  ·rename_i hne;rw [yaj,H6];constructor
   ·rintro ⟨h,h'⟩;exact ⟨.inr h,h'⟩
   ·rintro ⟨rfl|h,h1,h2,h3⟩
    ·exact absurd h3 (hne h1 (by rw [Nat.ble_eq];exact h2))
    ·exact ⟨h,h1,h2,h3⟩
theorem U0 {o:Oper}: ∀ {l:List PO},o∈EZ l↔ ∃p∈l,p.o=o
 | [] => by simp [EZ]
 | q::l=>by
  unfold EZ;rw [yaj,U0];constructor
  ·rintro (rfl|⟨p,h,rfl⟩)
   ·exact ⟨q,ya0 ..,rfl⟩
   ·exact ⟨p,ya3 _ h,rfl⟩
  ·rintro ⟨p,h,rfl⟩;rcases yaj.1 h with rfl|h
   ·exact .inl rfl
   ·exact .inr ⟨p,h,rfl⟩
theorem UR {ops:Array Oper} {all:List PO}: ∀ {l:List PO} {s u:Nat} {p:PO},EA ops all s l=true→l[u]? =some p→(wW (s+u) p.m all).all (O1 ops all (s+u))=true
 | [], s,u,p,_,h=>by simp at h
 | q::l,s,u,p,h,hp=>by
  unfold EA at h;split at h
  case h_2=>cases h
  rename_i hq;cases u with
  | zero=>simp at hp;subst hp;exact hq
  | succ u=>
   have:=UR (s:=s+1) (u:=u) (p:=p) h (by simpa using hp);rw [show s+(u+1)=s+1+u by omega];exact this
theorem Wy {l:List Nat} {t:Nat} (h:t∈l):l.any (Nat.beq t)=true:=ybF.2 ⟨t,h,yb7 t⟩
theorem zld {ops:Array Oper} {l:List rV} (h:Qu ops=some l):PF ops∧l=wX (jH ops) 0 (gY ops):=by
 unfold Qu at h;simp only at h;split at h
 case h_2=>cases h
 rename_i hc;change (chained (kC ops.toList) (dB ops)&&EW (jH ops)&&(jH ops).all (ZV ops (jH ops))&& !(ops.toList.any Fe)&&EA ops (jH ops) 0 (gY ops))=true at hc;rw [ybd,ybd,ybd,ybd] at hc;obtain ⟨⟨⟨⟨c1,c2⟩,c3⟩,c4⟩,c5⟩:=hc;refine ⟨⟨fun i o ho e he hb=>Wl c2 _ (xB ho) e he hb,fun u h h' h1 h2=>Ww c1 h1 h2,fun p q o oq t hp hq hd ht=> ?_,fun p q o oq t hne hp hq hd hdq=> ?_,fun p o hp=> ?_,fun u h p q o oq t hu hp hl hs hb hq hd ht=> ?_⟩,(yaE h).symm⟩
 ·have:=ybo.1 (ybo.1 c3 _ (xB hp)) _ (xB hq);simp only [hd,Wy ht] at this;cases hb:(bE ops p).testBit q with
  | true=>exact .inl rfl
  | false=>
   cases hb':(bE ops q).testBit p with
   | true=>exact .inr rfl
   | false=>simp [hb,hb'] at this
 ·have:=ybo.1 (ybo.1 c3 _ (xB hp)) _ (xB hq);simp only [hdq,hd] at this;have e1:Nat.beq p q=false:=by cases e:Nat.beq p q with
   | false=>rfl
   | true=>exact absurd (yc7 e) hne
  split at this
  ·cases this
  ·simp [e1] at this
 ·have:=c4;simp only [Bool.not_eq_true',List.any_eq_false] at this;have:=this o (by have:=Array.mem_of_getElem? hp;simpa using this);simpa using this
 ·obtain ⟨hlt,_⟩:=yat.1 hu;rw [←NV] at hlt;have hpo:(gY ops)[u]? =some (gY ops)[u]:=yai hlt;obtain ⟨g1,g2,g3,g4⟩:=Z8 hpo;rw [hu] at g1;have e:h=(gY ops)[u].i:=yaE g1;have hall:=UR c5 hpo;rw [yaf,g3,←e] at hall;have:=ybo.1 hall ⟨o,p,bE ops p,jl ops p⟩ (H6.2 ⟨xB hp,hl,hs,hb⟩);unfold O1 at this;have:=ybo.1 this _ (xB hq);simp only [hd,Wy ht] at this;cases hb:(bE ops p).testBit q with
  | true=>exact .inl rfl
  | false=>
   cases hb':Nat.blt u (jl ops q) with
   | true=>rw [yaD] at hb';exact .inr hb'
   | false=>simp [hb,hb'] at this
theorem U9 {ops:Array Oper} (he:tK ops) {v x:Nat} (hv:(dB ops)[v]? =some x):jl ops x≤v:=by
 rcases JI (ops:=ops) x with h|⟨u,y,h1,h2,h3⟩
 ·omega
 ·have:=PX h1 hv (E5 he x y h2);omega
section
variable {P:Program} {ρ:Val} {w0:Cx} {j:J} {H:Heap} {w:World} {N:Nat} {env:T AV} {a:Act} {o:Oper} {ops:Array Oper} {Q:Exit→Act→World→Prop}
theorem count_set {listed:Array Bool} {i:Nat} (h:listed.getD i true=false):(listed.setIfInBounds i true).count false+1=listed.count false:=by
 have hlt:i<listed.size:=by
  apply yby;intro hn;rw [yav,ybl (by omega)] at h;cases h
 have hf:listed[i]=false:=by
  rw [yav,yaQ hlt] at h;exact h
 have hpos:0<listed.count false:=Array.count_pos_iff.2 (by rw [←hf];exact Array.getElem_mem hlt);rw [Array.setIfInBounds_def,ydC hlt,Array.count_set];simp [hf];omega
end
end Go.Dw
namespace Go.Dw
def GV (ρ:Val):G→Bool→Prop
 | .yes,g=>g=true
 | .no,g=>g=false
 | .test _ b want,g=>(b.den ρ==want)=g
 | .none,_=>False
def zM (N:Nat) (env:T AV) (o:Oper) (v:AV):Prop:= ∀d,o.dst=some d→d<N∧env.get d=some v
section
variable {P:Program} {ρ:Val} {w0:Cx} {ops:Array Oper} {N:Nat} {fT:T AV} {H0:Heap} {j0:J}
variable {D listed:Nat→Prop} {bP env env':T AV} {j j':J} {H H':Heap} {w w':World} {a:Act} {nm pR:Nat→Option Nat} {rec:Task→Ob} {n:Nat} {Q:Exit→Act→World→Prop}
theorem zwB {x:Operand} (h: ∀t,x= .tmp t→env.get t=env'.get t):aR env x=aR env' x:=by
 cases x with
 | tmp t=>simp only [aR];rw [h t rfl]
 | _=>rfl
theorem Om {o:Oper} (h: ∀t∈looks ops o,env.get t=env'.get t): ∀x∈o.op.operands,aR env x=aR env' x:=fun x hx=>zwB fun t e=>h t (by
 subst e;unfold looks;exact yce _ (List.mem_filterMap.2 ⟨.tmp t,by simpa using hx,rfl⟩))
theorem Nv {o:Oper} (h: ∀t∈looks ops o,env.get t=env'.get t):lV ops env o=lV ops env' o:=by
 unfold lV;cases hg:o.guard with
 | none=>rfl
 | some gw=>
  obtain ⟨i,want⟩:=gw;simp only;cases hi:ops[i]? with
  | none=>rfl
  | some oj=>
   simp only;cases hd:oj.dst with
   | none=>rfl
   | some t=>
    simp only;rw [h t (by unfold looks;refine yca _ ?_;simp [hg,hi,hd])]
theorem Xz (he:ER ρ j N env a) {o:Oper} {g:Bool} (h:GV ρ (lV ops env o) g):Region.wanted o (yielded ops a.tmps)=g:=by
 have hs:=U8 he ops o;cases hG:lV ops env o with
 | yes=>rw [hG] at h hs;have h:g=true:=h;rw [h];exact hs
 | no=>rw [hG] at h hs;have h:g=false:=h;rw [h];exact hs
 | none=>rw [hG] at h;exact h.elim
 | test t b want=>
  rw [hG] at h hs;have hb:=(OT he hs).2;have h:(b.den ρ==want)=g:=h;unfold lV at hG;split at hG
  ·cases hG
  rename_i i want' hg;split at hG
  ·cases hG
  rename_i oj hi;split at hG
  ·cases hG
  rename_i t' hd;split at hG
  ·cases hG
  ·split at hG<;>cases hG
  ·split at hG<;>cases hG
  ·cases hG;unfold Region.wanted;rw [hg];simp only [yielded,hi,ycA,hd,hb];rw [←h];cases b.den ρ<;>cases want<;>rfl
  ·cases hG
  ·cases hG
  ·cases hG
def Told (ρ:Val) (l:List (SB×Bool)):Prop:= ∀c∈l,c.1.den ρ=c.2
theorem tF {ρ:Val} {c:SB}: ∀ {l:List (SB×Bool)} {b:Bool},Told ρ l→vB c l=some b→c.den ρ=b
 | [], _,_,h=>by cases h
 | p::l,b,ht,h=>by
  unfold vB at h;split at h
  ·rename_i he;cases h;rw [SB.uf he];exact ht p (by simp)
  ·exact tF (fun c hc=>ht c (by simp [hc])) h
theorem OP {ρ:Val} {l:List (SB×Bool)} {c:SB} {b:Bool} (h:Told ρ l) (hc:c.den ρ=b):Told ρ ((c,b)::l):=fun x hx=>by
 rcases yaj.1 hx with rfl|hx
 ·exact hc
 ·exact h x hx
def QZ (ρ:Val) (z:AV):Prop:= ∀j,R ρ j z undef
theorem zyo {ρ:Val} {G:G} {a b:Bool} (h:GV ρ G a) (k:GV ρ G b):a=b:=by
 cases G with
 | yes=>exact ydf (show a=true from h) (show b=true from k).symm
 | no=>exact ydf (show a=false from h) (show b=false from k).symm
 | test t c want=>exact ydf (show (c.den ρ==want)=a from h).symm k
 | none=>exact h.elim
theorem XA {fs:List (SB×Bool)} (hf:Told ρ fs) {o:Oper}:(vz fs ops env o= .yes→GV ρ (lV ops env o) true)∧(vz fs ops env o= .no→GV ρ (lV ops env o) false∧QZ ρ (QL ops env o))∧
  (∀ t b want,vz fs ops env o= .test t b want→lV ops env o= .test t b want):=by
 unfold vz QL;cases hG:lV ops env o with
 | yes=>exact ⟨fun _=>rfl,fun h=>by (simp at h),fun _ _ _ h=>by (simp at h)⟩
 | no=>exact ⟨fun h=>by (simp at h),fun _=>⟨rfl,fun j=>rJ⟩,fun _ _ _ h=>by (simp at h)⟩
 | none=>exact ⟨fun h=>by (simp at h),fun h=>by (simp at h),fun _ _ _ h=>by (simp at h)⟩
 | test t b want=>
  simp only;split
  ·rename_i ht;have hb:=tF hf ht;cases want with
   | true=>exact ⟨fun _=>by (show (b.den ρ==true)=true;rw [hb];rfl),fun h=>by (simp at h),fun _ _ _ h=>by (simp at h)⟩
   | false=>exact ⟨fun h=>by (simp at h),fun _=>⟨by (show (b.den ρ==false)=false;rw [hb];rfl),fun j=>(show undef=undef∧b.den ρ= !_ from ⟨rfl,hb⟩)⟩,fun _ _ _ h=>by (simp at h)⟩
  ·rename_i ht;have hb:=tF hf ht;cases want with
   | true=>exact ⟨fun h=>by (simp at h),fun _=>⟨by (show (b.den ρ==true)=false;rw [hb];rfl),fun j=>(show undef=undef∧b.den ρ= !_ from ⟨rfl,hb⟩)⟩,fun _ _ _ h=>by (simp at h)⟩
   | false=>exact ⟨fun _=>by (show (b.den ρ==false)=true;rw [hb];rfl),fun h=>by (simp at h),fun _ _ _ h=>by (simp at h)⟩
  ·exact ⟨fun h=>by (simp at h),fun h=>by (simp at h),fun _ _ _ h=>h⟩
theorem Vo {o:Oper} {k:T AV→Heap→Ob} {rest:List rV} {fs:List (SB×Bool)} (hf:Told ρ fs) (h:Ob.den ρ (fK P rec ops N k (.run o::rest) fs env H)):
  ∃ g z fs',GV ρ (lV ops env o) g∧(g=false→QZ ρ z)∧Told ρ fs'∧Ob.den ρ (Fz P rec o N (fK P rec ops N k rest fs') env H g z):=by
 obtain ⟨e1,e2,e3⟩:=XA (ops:=ops) (env:=env) hf (o:=o);unfold fK at h;cases hG:vz fs ops env o with
 | yes=>rw [hG] at h;exact ⟨true,_,fs,e1 hG,(fun hh=>by cases hh),hf,h⟩
 | no=>rw [hG] at h;exact ⟨false,_,fs,(e2 hG).1,fun _=>(e2 hG).2,hf,h⟩
 | none=>rw [hG] at h;exact h.elim
 | test t b want=>
  rw [hG] at h;rw [e3 _ _ _ hG];obtain ⟨h1,h2⟩:=h;cases hb:b.den ρ with
  | true=>exact ⟨want,.gH b want,_,by show (b.den ρ==want)=want;rw [hb];cases want<;>rfl,fun hw j=>(show undef=undef∧b.den ρ= !want from ⟨rfl,by rw [hb,hw];rfl⟩),OP hf hb,h1 hb⟩
  | false=>
   cases want with
   | true=>exact ⟨false,.gH b true,_,by show (b.den ρ==true)=false;rw [hb];rfl,fun _ j=>(show undef=undef∧b.den ρ= !true from ⟨rfl,by rw [hb];rfl⟩),OP hf hb,h2 hb⟩
   | false=>exact ⟨true,_,_,by show (b.den ρ==false)=true;rw [hb];rfl,(fun hh=>by cases hh),OP hf hb,h2 hb⟩
theorem zmL {os:List Oper} {k:T AV→Heap→Ob} {rest:List rV} {fs:List (SB×Bool)} (h:Ob.den ρ (fK P rec ops N k (.tV os::rest) fs env H)):
  vN P fs ops env H os=true∧Ob.den ρ (fK P rec ops N k rest fs env H):=by
 unfold fK at h;split at h
 ·rename_i hc;exact ⟨hc,h⟩
 ·exact h.elim
theorem Jt {dst:Option Tmp} {v:AV} {kk:T AV→Ob} (h:Ob.den ρ (nG dst N env v kk)):
  ∃ env',Ob.den ρ (kk env')∧(∀d,dst=some d→d<N∧env'.get d=some v)∧(∀t,dst≠some t→env'.get t=env.get t):=by
 unfold nG at h;split at h
 ·exact ⟨env,h,⟨fun d e=>(by cases e),fun _ _=>rfl⟩⟩
 ·rename_i d;split at h
  ·rename_i hb;rw [yaD] at hb;refine ⟨_,h,fun d' e=> ?_,fun t ht=> ?_⟩
   ·cases e;exact ⟨hb,by rw [T.lC,yak rfl]⟩
   ·rw [T.lC,yah (fun e=>ht (by rw [e]))]
  ·exact h.elim
theorem zsy {fs:List (SB×Bool)}: ∀ {os:List Oper},vN P fs ops env H os=true→ ∀o∈os,vz fs ops env o= .no∨(vz fs ops env o= .yes∧ ∃v,light P o.op env H=some v∧ ∀d,o.dst=some d→env.get d=some v)
 | [], _,o,ho=>by cases ho
 | q::os,h,o,ho=>by
  unfold vN at h;have hrest:vN P fs ops env H os=true:=by
   split at h
   ·exact h
   ·split at h
    ·split at h
     ·split at h
      ·exact h
      ·cases h
     ·cases h
    ·exact h
    ·cases h
   ·cases h
  rcases yaj.1 ho with rfl|ho
  ·split at h
   ·rename_i hg;exact .inl hg
   ·rename_i hg;refine .inr ⟨hg,?_⟩;split at h
    ·rename_i v d hl hd;split at h
     ·rename_i u hu;split at h
      ·rename_i hb;refine ⟨v,hl,fun d' e=> ?_⟩;rw [hd] at e;cases e;rw [hu,AV.beq_eq hb]
      ·cases h
     ·cases h
    ·rename_i v hl hd;exact ⟨v,hl,fun d' e=>by rw [hd] at e;cases e⟩
    ·cases h
   ·cases h
  ·exact zsy hrest o ho
theorem ER.He (he:ER ρ j N bP a) {o:Oper} {v:AV} {u:Value} (hR:R ρ j v u) (hd: ∀d,o.dst=some d→d<N):
  ∃ gL,ER ρ j N gL (a.put o.dst u)∧(∀d,o.dst=some d→gL.get d=some v)∧(∀t,o.dst≠some t→gL.get t=bP.get t):=by
 cases hdst:o.dst with
 | none=>exact ⟨bP,he,⟨fun d e=>(by cases e),fun _ _=>rfl⟩⟩
 | some d=>
  refine ⟨bP.set d v,he.put (hd d hdst) hR,fun d' e=> ?_,fun t ht=> ?_⟩
  ·cases e;rw [T.lC,yak rfl]
  ·rw [T.lC,yah (fun e=>ht (by rw [e]))]
def Done (P:Program) (ρ:Val) (N:Nat) (H0:Heap) (env jM:T AV) (H:Heap) (j:J) (nm:Option Nat) (o:Oper) (g:Bool):Prop:=
 (g=true∧oZ o.op= .light∧ ∃v,light P o.op jM H=some v∧zM N env o v)∨
 (g=true∧oZ o.op= .alloc∧ ∃v ob nx,nm=some nx∧mW P o.op jM nx=some (v,ob)∧H.m.get nx=some ob∧j nx=none∧H0.nx≤nx∧zM N env o v)∨
 (g=false∧ ∃z,QZ ρ z∧zM N env o z)
def zsT (ops:Array Oper) (fT env jM:T AV) (i:Nat) (o:Oper):Prop:=
 ∀ t∈looks ops o,(∀q oq,(bE ops i).testBit q=true→ops[q]? =some oq→oq.dst=some t→jM.get t=env.get t)∧
  ((∀ q oq,(bE ops i).testBit q=true→ops[q]? =some oq→oq.dst≠some t)→jM.get t=fT.get t)
def zyj (P:Program) (ρ:Val) (ops:Array Oper) (N:Nat) (fT:T AV) (H0:Heap) (env:T AV) (H:Heap) (j:J) (nm:Option Nat) (i:Nat) (o:Oper):Prop:=
 ∃ jM g,GV ρ (lV ops jM o) g∧zsT ops fT env jM i o∧Done P ρ N H0 env jM H j nm o g
theorem zmc (op:Op) (env:T AV) (nx:Nat) (v:AV) (k:Nat):mW P op env nx≠some (v,.gs k):=fun h=>by
 cases op<;>simp only [mW,KL] at h<;>try cases h
 case alloc=>unfold FE sW at h;split at h<;>cases h
 case box=>unfold zS sW at h;split at h<;>cases h
 case buildSlice=>unfold Bo sW at h;(repeat' split at h)<;>cases h
 case makeMap=>unfold BF at h;(repeat' split at h)<;>cases h
 case makeSlice=>unfold Bv at h;(repeat' split at h)<;>cases h
structure CI (P:Program) (ρ:Val) (w0:Cx) (ops:Array Oper) (N:Nat) (fT:T AV) (H0:Heap) (j0:J) (D listed:Nat→Prop) (bP env:T AV) (j:J) (H:Heap) (w:World) (nm:Nat→Option Nat):Prop where
 inv:Inv ρ w0 j H w
 st:St j0 H0 j H
 sub: ∀i,listed i→D i
 e0: ∀t,(∀i o,D i→ops[i]? =some o→o.dst≠some t)→env.get t=fT.get t
 s0: ∀t,(∀i o,listed i→ops[i]? =some o→o.dst≠some t)→bP.get t=fT.get t
 s1: ∀t i o,listed i→ops[i]? =some o→o.dst=some t→bP.get t=env.get t
 Hl: ∀i o,D i→ ¬listed i→ops[i]? =some o→zyj P ρ ops N fT H0 env H j (nm i) i o
 bnd: ∀i nx,nm i=some nx→nx<H.nx
 inj: ∀i i' nx,nm i=some nx→nm i'=some nx→i=i'
theorem CI.congr {D':Nat→Prop} (h: ∀i,D i↔D' i) (ci:CI P ρ w0 ops N fT H0 j0 D listed bP env j H w nm):CI P ρ w0 ops N fT H0 j0 D' listed bP env j H w nm:=by
 have e:D=D':=funext fun i=>propext (h i);rw [←e];exact ci
theorem CI.put (pf:PF ops) (ci:CI P ρ w0 ops N fT H0 j0 D listed bP env j H w nm) {p:Nat} {o:Oper} (ho:ops[p]? =some o) (hp: ¬D p)
  (hcl: ∀i x,D i→(bE ops i).testBit x=true→D x) (hinv:Inv ρ w0 j H' w) (hst:St j0 H0 j H') (hext:Ext H H') (hnx:H.nx≤H'.nx)
  (R6: ∀t,o.dst≠some t→env'.get t=env.get t) (hnm: ∀i,i≠p→pR i=nm i) (aaA: ∀i nx,pR i=some nx→nx<H'.nx) (hinj: ∀i i' nx,pR i=some nx→pR i'=some nx→i=i')
  (hrec:zsT ops fT env' env p o→zyj P ρ ops N fT H0 env' H' j (pR p) p o) (hm: ∀x,(bE ops p).testBit x=true→D x):
  CI P ρ w0 ops N fT H0 j0 (fun x=>D x∨x=p) listed bP env' j H' w pR:=by
 have hne: ∀i,D i→i≠p:=fun i hi e=>hp (e▸hi);have hkeep: ∀i oi t,D i→ops[i]? =some oi→oi.dst=some t→env'.get t=env.get t:=fun i oi t hi hoi hd=>
  R6 t (pf.Cw i p oi o t (hne i hi) hoi ho hd)
 refine ⟨hinv,hst,fun i hi=> .inl (ci.sub i hi),fun t ht=> ?_,ci.s0,fun t i oi hi hoi hd=> ?_,fun i oi hi hl hoi=> ?_,aaA,hinj⟩
 ·rw [R6 t (ht p o (.inr rfl) ho)];exact ci.e0 t fun i oi hi hoi=>ht i oi (.inl hi) hoi
 ·rw [ci.s1 t i oi hi hoi hd,hkeep i oi t (ci.sub i hi) hoi hd]
 ·by_cases gF:i=p
  ·subst gF;rw [ho] at hoi;cases hoi;refine hrec fun t ht=>⟨fun q oq hq hoq hd=>(hkeep q oq t (hm q hq) hoq hd).symm,fun hno=>ci.e0 t fun q oq hq hoq hd=> ?_⟩;rcases pf.reads i q o oq t ho hoq hd ht with h|h
   ·exact hno q oq h hoq hd
   ·exact hp (hcl q i hq h)
  ·have vT:D i:=hi.resolve_right gF;obtain ⟨jM,g,h1,h2,h3⟩:=ci.Hl i oi vT hl hoi;have hdst: ∀v,zM N env oi v→zM N env' oi v:=fun v hv d hd=>⟨(hv d hd).1,by rw [hkeep i oi d vT hoi hd];exact (hv d hd).2⟩;refine ⟨jM,g,h1,fun t ht=>⟨fun q oq hq hoq hd=> ?_,(h2 t ht).2⟩,?_⟩
   ·rw [(h2 t ht).1 q oq hq hoq hd,hkeep q oq t (hcl i q vT hq) hoq hd]
   ·rw [hnm i gF];rcases h3 with ⟨g1,g2,v,g3,g4⟩|⟨g1,g2,v,ob,nx,g3,g4,g5,g6,g7,g8⟩|⟨g1,g2⟩
    ·exact .inl ⟨g1,g2,v,zpM hext g3,hdst v g4⟩
    ·exact .inr (.inl ⟨g1,g2,v,ob,nx,g3,g4,hext.m _ _ g5,g6,g7,hdst v g8⟩)
    ·exact (.inr (.inr ⟨g1,g2.elim fun z hz=>⟨z,hz.1,hdst _ hz.2⟩⟩))
theorem zse {o:Obj} (hi:Inv ρ w0 j H w):Ext H (H.alloc o):=by
 rw [Heap.alloc_eq];refine ⟨fun n o' h=> ?_,rfl⟩;have:=hi.used n o' h;show (H.m.set H.nx o).get n=_;rw [T.lC,yah (by omega)];exact h
theorem zrM {o:Oper} (h:oZ o.op= .light):Fa o=true:=by unfold Fa;rw [h]
theorem zsp {o:Oper} (h:iy o=true) (hd:Fe o=false):oZ o.op= .heavy:=by
 unfold iy at h;unfold Fe at hd;cases hc:oZ o.op<;>rw [hc] at h hd<;>first|rfl|exact absurd hd Bool.noConfusion|exact absurd h Bool.noConfusion
theorem zso {o:Oper} (h:iy o=false):oZ o.op= .light∨oZ o.op= .alloc:=by
 unfold iy at h;cases hc:oZ o.op<;>rw [hc] at h<;>first|exact .inl rfl|exact .inr rfl|exact absurd h (by simp)
theorem zmb {op:Op} {nx:Nat} {v:AV} {ob:Obj} (h:mW P op env nx=some (v,ob)): ∀v' e g t sh ow,ob≠ .cells v' e g (some t) sh ow:=by
 intro v' e g t sh ow oD;subst oD;cases op<;>simp only [mW,KL] at h<;>try (cases h;done)
 case alloc t'=>unfold FE sW at h;split at h<;>cases h
 case box t' x=>unfold zS sW at h;split at h<;>cases h
 case buildSlice t' len parts=>
  unfold Bo sW at h;split at h
  ·split at h
   ·split at h
    ·split at h<;>cases h
    ·cases h
   ·cases h
  ·cases h
 case makeMap t' r=>
  unfold BF at h;split at h
  ·cases h
  ·split at h<;>cases h
 case makeSlice t' l c=>
  unfold Bv at h;split at h
  ·split at h
   ·split at h
    ·split at h<;>cases h
    ·cases h
   ·cases h
  ·cases h
theorem CI.aag (pf:PF ops) (ci:CI P ρ w0 ops N fT H0 j0 D listed bP env j H w nm) {p:Nat} {o:Oper} (ho:ops[p]? =some o) (hv:iy o=false) (hp: ¬D p)
  (hcl: ∀i x,D i→(bE ops i).testBit x=true→D x) (hm: ∀x,(bE ops p).testBit x=true→D x) {k:T AV→Heap→Ob} {rest:List rV}
  {fs:List (SB×Bool)} (hf:Told ρ fs) (h:Ob.den ρ (fK P rec ops N k (.run o::rest) fs env H)):
  ∃ env' H' pR fs',CI P ρ w0 ops N fT H0 j0 (fun x=>D x∨x=p) listed bP env' j H' w pR∧Told ρ fs'∧Ob.den ρ (fK P rec ops N k rest fs' env' H'):=by
 obtain ⟨g,z,fs',hg,hz,hf',hd⟩:=Vo hf h;cases g with
 | false=>
  obtain ⟨env',h1,h2,h3⟩:=Jt (kk:=fun env'=>fK P rec ops N k rest fs' env' H) hd;exact ⟨env',H,nm,fs',ci.put pf ho hp hcl ci.inv ci.st (Ext.refl H) (yaa _) h3 (fun _ _=>rfl) ci.bnd ci.inj (fun hl=>⟨env,false,hg,hl,.inr (.inr ⟨rfl,z,hz rfl,h2⟩)⟩) hm,hf',h1⟩
 | true=>
  have hd:Ob.den ρ (vS P rec o env H fun env v H=>nG o.dst N env v fun env'=>fK P rec ops N k rest fs' env' H):=hd;unfold vS at hd;rcases zso hv with hc|hc
  ·rw [hc] at hd;have hd:Ob.den ρ (ML o H (fun v H=>nG o.dst N env v fun env'=>fK P rec ops N k rest fs' env' H) (light P o.op env H)):=hd;cases hl:light P o.op env H with
   | none=>rw [hl] at hd;exact hd.elim
   | some v=>
    rw [hl] at hd;obtain ⟨env',h1,h2,h3⟩:=Jt (kk:=fun env'=>fK P rec ops N k rest fs' env' H) hd;exact ⟨env',H,nm,fs',ci.put pf ho hp hcl ci.inv ci.st (Ext.refl H) (yaa _) h3 (fun _ _=>rfl) ci.bnd ci.inj (fun hlk=>⟨env,true,hg,hlk,.inl ⟨rfl,hc,v,hl,h2⟩⟩) hm,hf',h1⟩
  ·rw [hc] at hd;have hd:Ob.den ρ (MK o H (fun v H=>nG o.dst N env v fun env'=>fK P rec ops N k rest fs' env' H) (mW P o.op env H.nx)):=hd;cases hl:mW P o.op env H.nx with
   | none=>rw [hl] at hd;exact hd.elim
   | some q=>
    obtain ⟨v,ob⟩:=q;rw [hl] at hd;obtain ⟨env',h1,h2,h3⟩:=Jt (kk:=fun env'=>fK P rec ops N k rest fs' env' (H.alloc ob)) hd;have hnx:(H.alloc ob).nx=H.nx+1:=by rw [Heap.alloc_eq]
    have hinv:Inv ρ w0 j (H.alloc ob) w:=ci.inv.extend ob (fun v' e g t sh ow oD=>absurd oD (zmb hl v' e g t sh ow));refine ⟨env',H.alloc ob,fun i=>if i=p then some H.nx else nm i,fs',ci.put pf ho hp hcl hinv (ci.st.trans (St.extend ci.inv ob)) (zse ci.inv) (by omega) h3 (fun i hi=>yah hi) (fun i nx hi=> ?_) (fun i i' nx h1 h2=> ?_) (fun hlk=>⟨env,true,hg,hlk,.inr (.inl ⟨rfl,hc,v,ob,H.nx,yak rfl,hl,?_,ci.inv.fresh,ci.st.nx,h2⟩)⟩) hm,hf',h1⟩
    ·by_cases gF:i=p
     ·rw [yak gF] at hi;cases hi;omega
     ·rw [yah gF] at hi;have:=ci.bnd i nx hi;omega
    ·by_cases gF:i=p<;>by_cases Gs:i'=p
     ·rw [gF,Gs]
     ·rw [yak gF] at h1;rw [yah Gs] at h2;cases h1;exact absurd (ci.bnd i' _ h2) (ybe _)
     ·rw [yah gF] at h1;rw [yak Gs] at h2;cases h2;exact absurd (ci.bnd i _ h1) (ybe _)
     ·rw [yah gF] at h1;rw [yah Gs] at h2;exact ci.inj i i' nx h1 h2
    ·rw [Heap.alloc_eq];show (H.m.set H.nx ob).get H.nx=_;rw [T.lC,yak rfl]
theorem I4 (pf:PF ops) {k:T AV→Heap→Ob} {rest:List rV} {s:Nat}: ∀(l:List Oper) (ms:List Nat) (n:Nat) (fs:List (SB×Bool)) (env:T AV) (H:Heap) (nm:Nat→Option Nat),Told ρ fs→l=ops.toList.drop n→ms=(kC ops.toList).drop n→
  CI P ρ w0 ops N fT H0 j0 (DD ops s n) listed bP env j H w nm→Ob.den ρ (fK P rec ops N k (zB s (posOf (dB ops) l ms n)++rest) fs env H)→
  ∃ env' H' pR fs',CI P ρ w0 ops N fT H0 j0 (DD ops s ops.size) listed bP env' j H' w pR∧Told ρ fs'∧Ob.den ρ (fK P rec ops N k rest fs' env' H')
 | [], ms,n,fs,env,H,nm,hf,hl,hms,ci,h=>by
  have hn:ops.size≤n:=by have:=hl.symm;rw [yda] at this;simpa using this
  have e:posOf (dB ops) [] ms n= []:=by simp [posOf]
  rw [e] at h;exact ⟨env,H,nm,fs,ci.congr (zxt hn),hf,h⟩
 | o::l,ms,n,fs,env,H,nm,hf,hl,hms,ci,h=>by
  have ho:ops[n]? =some o:=by
   have:=yaB (·[0]?) hl;simp only [yau,ybN,yaF] at this;simpa using this.symm
  have hlt:=(yax.1 ho).1;have hl':l=ops.toList.drop (n+1):=by
   have:=yaB List.tail hl;simpa using this
  cases SN:ms with
  | nil=>
   rw [SN] at hms;have:=hms.symm;rw [yda,Er] at this;simp at this;omega
  | cons m ms'=>
   rw [SN] at hms h;have hm:m=bE ops n:=by
    have:=yaB (·[0]?) hms;simp only [yau,ybN,yaF] at this;unfold bE;rw [yaw,←this];rfl
   have SL:ms'=(kC ops.toList).drop (n+1):=by
    have:=yaB List.tail hms;simpa using this
   unfold posOf at h;unfold zB at h;have hst:kZ m (dB ops) 0 0=jl ops n:=by rw [hm];rfl
   simp only [hst] at h;split at h
   ·rename_i hv hs;have hs:=yc7 hs;have hnD: ¬DD ops s n n:=by
     rintro ⟨o',h1,h2⟩;rw [ho] at h1;cases h1;rcases h2 with ⟨_,h2⟩|⟨h2,_⟩
     ·omega
     ·rw [hv] at h2;cases h2
    obtain ⟨env',H',pR,fs',h1,hf',h2⟩:=ci.aag pf ho hv hnD (fun i x hi hx=>zsU pf.xX hi hx) (fun x hx=>zxu pf.xX hs hx) hf h;exact I4 pf l ms' (n+1) fs' env' H' pR hf' hl' SL (h1.congr (zxr ho hv hs)) h2
   ·rename_i hne;refine I4 pf l ms' (n+1) fs env H nm hf hl' SL (ci.congr (zxs ho ?_)) h;cases hv:iy o with
    | true=>exact .inl rfl
    | false=>exact .inr fun e=>hne hv (by rw [e];exact yb7 s)
theorem CI.list (pf:PF ops) (ci:CI P ρ w0 ops N fT H0 j0 D listed bP env j H w nm) {i:Nat} {o:Oper} {gL:T AV} (ho:ops[i]? =some o) (hD:D i)
  (hinv:Inv ρ w0 j' H w') (hst:St j0 H0 j' H) (hd: ∀d,o.dst=some d→gL.get d=env.get d) (hn: ∀t,o.dst≠some t→gL.get t=bP.get t)
  (hj: ∀i' nx,i'≠i→nm i'=some nx→j nx=none→j' nx=none):
  CI P ρ w0 ops N fT H0 j0 D (fun x=>listed x∨x=i) gL env j' H w' nm:=by
 refine ⟨hinv,hst,fun x hx=>hx.elim (ci.sub x) fun e=>e▸hD,ci.e0,fun t ht=> ?_,fun t x ox hx hox LF=> ?_,fun x ox hx hl hox=> ?_,ci.bnd,ci.inj⟩
 ·rw [hn t (ht i o (.inr rfl) ho)];exact ci.s0 t fun x ox hx hox=>ht x ox (.inl hx) hox
 ·by_cases hxi:x=i
  ·subst hxi;rw [ho] at hox;cases hox;exact hd t LF
  ·rw [hn t (pf.Cw x i ox o t hxi hox ho LF)];exact ci.s1 t x ox (hx.resolve_right hxi) hox LF
 ·have hxi:x≠i:=fun e=>hl (.inr e);obtain ⟨jM,g,h1,h2,h3⟩:=ci.Hl x ox hx (fun h=>hl (.inl h)) hox;refine ⟨jM,g,h1,h2,?_⟩;rcases h3 with h3|⟨g1,g2,v,ob,nx,g3,g4,g5,g6,g7,g8⟩|h3
  ·exact .inl h3
  ·exact .inr (.inl ⟨g1,g2,v,ob,nx,g3,g4,g5,hj x nx hxi g3 g6,g7,g8⟩)
  ·exact .inr (.inr h3)
theorem CI.late (pf:PF ops) (ci:CI P ρ w0 ops N fT H0 j0 D listed bP env j H w nm) (he:ER ρ j N bP a) {i:Nat} {o:Oper} (ho:ops[i]? =some o) (hD:D i) (hl: ¬listed i)
  (hm: ∀x,(bE ops i).testBit x=true→listed x) (hlc: ∀q x,listed q→(bE ops q).testBit x=true→listed x) {K:Act→World→Prop}
  (hK: ∀gL j' a' w',CI P ρ w0 ops N fT H0 j0 D (fun x=>listed x∨x=i) gL env j' H w' nm→ER ρ j' N gL a'→K a' w'):wpOp P ops Q i K a w:=by
 obtain ⟨jM,g,hg,SA,hdone⟩:=ci.Hl i o hD hl ho;have hag: ∀t∈looks ops o,bP.get t=jM.get t:=fun t ht=>by
  by_cases hw: ∃q oq,(bE ops i).testBit q=true∧ops[q]? =some oq∧oq.dst=some t
  ·obtain ⟨q,oq,h1,h2,h3⟩:=hw;rw [ci.s1 t q oq (hm q h1) h2 h3,(SA t ht).1 q oq h1 h2 h3]
  ·rw [(SA t ht).2 (fun q oq h1 h2 h3=>hw ⟨q,oq,h1,h2,h3⟩)];refine ci.s0 t fun q oq h1 h2 h3=> ?_;rcases pf.reads i q o oq t ho h2 h3 ht with h4|h4
   ·exact hw ⟨q,oq,h4,h2,h3⟩
   ·exact hl (hlc q i h1 h4)
 rw [←Nv hag] at hg;have hwant:=Xz he hg;have hops:=Om hag;unfold wpOp;simp only [ho];rw [hwant];rcases hdone with ⟨rfl,hc,v,hv,hd⟩|⟨rfl,hc,v,ob,nx,hnm,hv,hH,hj,hnx,hd⟩|⟨rfl,hd⟩
 ·rw [yak rfl];left;rw [←U4 hops] at hv;obtain ⟨u,h1,h2⟩:=Oh ci.inv he hv;unfold Oper.wp;rw [h1,Oper.upon_value];obtain ⟨gL,e1,e2,e3⟩:=he.He h2 (fun d hh=>(hd d hh).1);exact hK gL j _ _ (ci.list pf ho hD ci.inv ci.st (fun d hh=>by rw [e2 d hh,(hd d hh).2]) e3 (fun _ _ _ _ h=>h)) e1
 ·rw [yak rfl];left;rw [←zmd hops] at hv;obtain ⟨⟨u,obj,h1,h2,h3⟩,h4⟩:=UL (P:=P) (w:=w) he hv;unfold Oper.wp;rw [h1,Oper.upon_value];have hinv:=ci.inv.KM hH hj h2 (fun v e g cl sh oD=>by subst oD;exact .inl h4);have hst:St j0 H0 (jV j nx ⟨w.heap.size,0,0,none⟩) H:=by
   refine ⟨ci.st.sub.trans (uY hj),fun m L e e0=> ?_,ci.st.keep,ci.st.nx⟩;by_cases hm:m=nx
   ·omega
   ·rw [nO _ _ hm] at e;exact ci.st.fresh m L e e0
  obtain ⟨gL,e1,e2,e3⟩:=(he.mono (uY hj)).He h3 (fun d hh=>(hd d hh).1);refine hK gL _ _ _ (ci.list pf ho hD hinv hst (fun d hh=>by rw [e2 d hh,(hd d hh).2]) e3 (fun i' nx' hne hnm' hj'=> ?_)) e1;rw [nO _ _ (fun e=>hne (ci.inj i' i nx' hnm' (by rw [e];exact hnm)))];exact hj'
 ·rw [yah (by simp)];obtain ⟨z,hz,hd⟩:=hd;obtain ⟨gL,e1,e2,e3⟩:=he.He (o:=o) (hz j) (fun d hh=>(hd d hh).1);exact hK gL j _ _ (ci.list pf ho hD ci.inv ci.st (fun d hh=>by rw [e2 d hh,(hd d hh).2]) e3 (fun _ _ _ _ h=>h)) e1
theorem CI.heavy (hgood:Good P ρ w0 n rec) (pf:PF ops) (ci:CI P ρ w0 ops N fT H0 j0 D listed bP env j H w nm) (he:ER ρ j N bP a) {h u:Nat} {o:Oper} (ho:ops[h]? =some o) (hv:iy o=true) (hD: ¬D h)
  (hcl: ∀i x,D i→(bE ops i).testBit x=true→D x) (hm: ∀x,(bE ops h).testBit x=true→listed x) (hu:(dB ops)[u]? =some h)
  (hDs: ∀i oi,D i→ops[i]? =some oi→jl ops i≤u) {k:T AV→Heap→Ob} {rest:List rV}
  {fs:List (SB×Bool)} (hf:Told ρ fs) (hden:Ob.den ρ (fK P rec ops N k (.run o:: .tV (xA u (bE ops h) (jH ops))::rest) fs env H)) {K:Act→World→Prop}
  (hK: ∀gL env' j' H' a' w' fs',CI P ρ w0 ops N fT H0 j0 (fun x=>D x∨x=h) (fun x=>listed x∨x=h) gL env' j' H' w' nm→ER ρ j' N gL a'→Told ρ fs'→Ob.den ρ (fK P rec ops N k rest fs' env' H')→K a' w'):
  wpOp P ops Q h K a w:=by
 have hag: ∀t∈looks ops o,bP.get t=env.get t:=fun t ht=>by
  by_cases hw: ∃q oq,listed q∧ops[q]? =some oq∧oq.dst=some t
  ·obtain ⟨q,oq,h1,h2,h3⟩:=hw;exact ci.s1 t q oq h1 h2 h3
  ·rw [ci.s0 t fun q oq h1 h2 h3=>hw ⟨q,oq,h1,h2,h3⟩,ci.e0 t fun q oq h1 h2 h3=> ?_];rcases pf.reads h q o oq t ho h2 h3 ht with h4|h4
   ·exact hw ⟨q,oq,hm q h4,h2,h3⟩
   ·exact hD (hcl q h h1 h4)
 obtain ⟨g,z,fs',hgv,hz,hf',hd⟩:=Vo hf hden;have hwant:=Xz he (by rw [Nv hag];exact hgv);have main: ∀(v:AV) (x:Value) (H':Heap) (j':J) (w':World),R ρ j' v x→Inv ρ w0 j' H' w'→St j H j' H'→
   Ob.den ρ (nG o.dst N env v fun env'=>fK P rec ops N k (.tV (xA u (bE ops h) (jH ops))::rest) fs' env' H')→K (a.put o.dst x) w':=by
  intro v x H' j' w' hR hinv hst hput;obtain ⟨env',h5,h6,h7⟩:=Jt hput;obtain ⟨aaC,h8⟩:=zmL h5;obtain ⟨gL,e1,e2,e3⟩:=(he.mono hst.sub).He hR (fun d hh=>(h6 d hh).1);have hne: ∀i,D i→i≠h:=fun i hi e=>hD (e▸hi);have hkeep: ∀i oi t,D i→ops[i]? =some oi→oi.dst=some t→env'.get t=env.get t:=fun i oi t hi hoi hdd=>h7 t (pf.Cw i h oi o t (hne i hi) hoi ho hdd);have he0: ∀t,(∀i oi,(D i∨i=h)→ops[i]? =some oi→oi.dst≠some t)→env'.get t=fT.get t:=fun t ht=>by
   rw [h7 t (ht h o (.inr rfl) ho)];exact ci.e0 t fun i oi hi hoi=>ht i oi (.inl hi) hoi
  refine hK gL env' j' H' _ w' fs' ⟨hinv,ci.st.trans hst,fun i hi=>hi.imp (ci.sub i) id,he0,fun t ht=> ?_,fun t i oi hi hoi hdd=> ?_,fun i oi hi hl hoi=> ?_,fun i nx hi=>yae (ci.bnd i nx hi) hst.nx,ci.inj⟩ e1 hf' h8
  ·rw [e3 t (ht h o (.inr rfl) ho)];exact ci.s0 t fun i oi hi hoi=>ht i oi (.inl hi) hoi
  ·by_cases hih:i=h
   ·subst hih;rw [ho] at hoi;cases hoi;rw [e2 t hdd,(h6 t hdd).2]
   ·have Dh:=hi.resolve_right hih;rw [e3 t (pf.Cw i h oi o t hih hoi ho hdd),hkeep i oi t (ci.sub i Dh) hoi hdd];exact ci.s1 t i oi Dh hoi hdd
  ·have hih:i≠h:=fun e=>hl (.inr e);have vT:D i:=hi.resolve_right hih;have Dh: ¬listed i:=fun e=>hl (.inl e);obtain ⟨jM,g',q1,q2,q3⟩:=ci.Hl i oi vT Dh hoi;have hdst: ∀v,zM N env oi v→zM N env' oi v:=fun v hv d hd=>⟨(hv d hd).1,by rw [hkeep i oi d vT hoi hd];exact (hv d hd).2⟩;have q2':zsT ops fT env' jM i oi:=fun t ht=>⟨fun q oq hq hoq hdd=>by rw [(q2 t ht).1 q oq hq hoq hdd,hkeep q oq t (hcl i q vT hq) hoq hdd],(q2 t ht).2⟩;refine ⟨jM,g',q1,q2',?_⟩;rcases q3 with ⟨rfl,g2,v',g3,g4⟩|⟨g1,g2,v',ob,nx,g3,g4,g5,g6,g7,g8⟩|⟨g1,g2⟩
   ·have Sy:=zrM g2;have hbit:(bE ops h).testBit i=false:=by
     cases hb:(bE ops h).testBit i with
     | false=>rfl
     | true=>exact absurd (hm i hb) Dh
    have hst':=hDs i oi vT hoi;have hag': ∀t∈looks ops oi,env'.get t=jM.get t:=fun t ht=>by
     by_cases hw: ∃(q:Nat) (oq:Oper),ops[q]? =some oq∧oq.dst=some t
     ·obtain ⟨q,oq,w1,w2⟩:=hw;rcases pf.rer u h i q oi oq t hu hoi Sy hst' hbit w1 w2 ht with hq|hq
      ·exact ((q2' t ht).1 q oq hq w1 w2).symm
      ·have uniq: ∀q' uM,ops[q']? =some uM→uM.dst=some t→q'=q:=fun q' uM x1 x2=>yby fun hn=>pf.Cw q' q uM oq t hn x1 w1 x2 w2;rw [(q2' t ht).2 fun q' uM x0 x1 x2=> ?_]
       ·refine he0 t fun q' uM x0 x1 x2=> ?_;have:=uniq q' uM x1 x2;subst this;rcases x0 with x0|rfl
        ·have:=hDs q' uM x0 x1;omega
        ·have:=U9 pf.xX hu;omega
       ·have:=uniq q' uM x1 x2;subst this;have:=PL pf.xX x0;omega
     ·rw [(q2' t ht).2 fun q oq _ w1 w2=>hw ⟨q,oq,w1,w2⟩];exact he0 t fun q oq _ w1 w2=>hw ⟨q,oq,w1,w2⟩
    have hmem:oi∈xA u (bE ops h) (jH ops):=U0.2 ⟨_,H6.2 ⟨xB hoi,Sy,hst',hbit⟩,rfl⟩;rw [←Nv hag'] at q1;rcases zsy aaC oi hmem with hno|⟨aF,v1,c1,c2⟩
    ·have:=((XA (ops:=ops) (env:=env') hf' (o:=oi)).2.1 hno).1;exact absurd (zyo this q1) (by simp)
    ·exact .inl ⟨rfl,g2,v1,by rw [←U4 (Om hag')];exact c1,fun d hh=>⟨(g4 d hh).1,c2 d hh⟩⟩
   ·have hlt:=ci.inv.used nx ob g5;have aaT:0<nx:=by
     rcases ybB nx with h0|h0
     ·subst h0;obtain ⟨kk,rfl⟩:=ci.inv.z0 _ g5;exact absurd g4 (zmc _ _ _ _ _)
     ·exact h0
    refine .inr (.inl ⟨g1,g2,v',ob,nx,g3,g4,by rw [(hst.keep nx aaT g6 hlt).1];exact g5,?_,g7,hdst v' g8⟩);cases hj':j' nx with
    | none=>rfl
    | some L=>have:=hst.fresh nx L hj' g6;omega
   ·exact (.inr (.inr ⟨g1,g2.elim fun z hz=>⟨z,hz.1,hdst _ hz.2⟩⟩))
 unfold wpOp;simp only [ho];rw [hwant];cases g with
 | true=>
  rw [yak rfl];have hd:Ob.den ρ (vS P rec o env H fun env v H=>nG o.dst N env v fun env'=>fK P rec ops N k (.tV (xA u (bE ops h) (jH ops))::rest) fs' env' H):=hd;unfold vS at hd;rw [zsp hv (pf.abg h o ho)] at hd;have hd:Ob.den ρ (Dw.heavy P rec o.op env H fun v H=>nG o.dst N env v fun env'=>fK P rec ops N k (.tV (xA u (bE ops h) (jH ops))::rest) fs' env' H):=hd;rw [←znc (Om hag)] at hd;refine .inl (Oper.wp_mono (fun a' w' hp=> ?_) (Y1 (Q:=Q) hgood ci.inv he hd));obtain ⟨x,rfl,v,H',j',h1,h2,h3,h4⟩:=hp;exact main v x H' j' w' h1 h2 h3 h4
 | false=>
  rw [yah (by simp)];exact main z undef H j w (hz rfl j) ci.inv (St.refl j H) hd
def Fv (ops:Array Oper) (s:Nat):List PO→List rV
 | [] => []
 | h::rest=> .run h.o:: .tV (xA s h.m (jH ops))::wX (jH ops) (Nat.succ s) rest
theorem Vp (ops:Array Oper) (s:Nat) (l:List PO):wX (jH ops) s l=zB s (jH ops)++Fv ops s l:=by
 cases l with
 | nil=>simp [wX,Fv]
 | cons h l=>simp [wX,Fv]
theorem ztW (hgood:Good P ρ w0 n rec) (pf:PF ops) {k:T AV→Heap→Ob} (hQ: ∀a' w',zP ρ w0 j0 H0 N k a' w'→Q Exit.normal a' w'):
  ∀ (fuel:Nat) (listed:Array Bool) (s:Nat) (fs:List (SB×Bool)) (bP env:T AV) (j:J) (H:Heap) (a:Act) (w:World) (nm:Nat→Option Nat),listed.size=ops.size→FH ops listed→listed.count false≤fuel→
   (∀ u h,(dB ops)[u]? =some h→(listed.getD h false=true↔u<s))→CI P ρ w0 ops N fT H0 j0 (DD ops s ops.size) (fun i=>listed.getD i false=true) bP env j H w nm→ER ρ j N bP a→
   Ob.den ρ (fK P rec ops N k (Fv ops s ((gY ops).drop s)) fs env H)→Told ρ fs→wpAny P .any ops Q fuel listed a w:=by
 have fin: ∀(listed:Array Bool) (s:Nat) (fs:List (SB×Bool)) (bP env:T AV) (j:J) (H:Heap) (a:Act) (w:World) (nm:Nat→Option Nat),listed.size=ops.size→FH ops listed→
   (∀ u h,(dB ops)[u]? =some h→(listed.getD h false=true↔u<s))→CI P ρ w0 ops N fT H0 j0 (DD ops s ops.size) (fun i=>listed.getD i false=true) bP env j H w nm→ER ρ j N bP a→
   Ob.den ρ (fK P rec ops N k (Fv ops s ((gY ops).drop s)) fs env H)→Region.ready .any ops listed= []→Q .normal a w:=by
  intro listed s fs bP env j H a w nm hsz hcl hh ci he hden hr;have hall:=zp9 pf.xX hsz hr;have hdrop:(gY ops).drop s= []:=by
   rw [yda,NV];apply yby;intro hn;have hx:(dB ops)[s]? =some (dB ops)[s]:=yai (by omega);obtain ⟨o,ho,_⟩:=EM.1 ⟨s,hx⟩;have:=(hh s _ hx).1 (hall _ (yax.1 ho).1);omega
  rw [hdrop] at hden;refine hQ a w ⟨env,H,j,⟨he.size,he.le,fun t ht=> ?_,?_⟩,ci.inv,ci.st,hden⟩
  all_goals
   have heq: ∀t,bP.get t=env.get t:=fun t=>by
    by_cases hw: ∃(q:Nat) (oq:Oper),ops[q]? =some oq∧oq.dst=some t
    ·obtain ⟨q,oq,h1,h2⟩:=hw;exact ci.s1 t q oq (hall q (yax.1 h1).1) h1 h2
    ·rw [ci.s0 t fun q oq _ h1 h2=>hw ⟨q,oq,h1,h2⟩,ci.e0 t fun q oq _ h1 h2=>hw ⟨q,oq,h1,h2⟩]
  ·have:=he.get t ht;unfold bT at this ⊢;rw [heq t] at this;exact this
  ·have:=he.dH;unfold bT at this ⊢;rw [heq bN] at this;exact this
 intro fuel
 induction fuel with
 | zero=>
  intro listed s fs bP env j H a w nm hsz hcl hc hh ci he hden hf;have hr:Region.ready .any ops listed= []:=by
   rw [List.eq_nil_iff_forall_not_mem];intro i hi;have:=count_set (mem_ready.1 hi).1;omega
  exact ⟨hr,fin listed s fs bP env j H a w nm hsz hcl hh ci he hden hr⟩
 | succ fuel ih=>
  intro listed s fs bP env j H a w nm hsz hcl hc hh ci he hden hf;refine ⟨fin listed s fs bP env j H a w nm hsz hcl hh ci he hden,fun i hi=> ?_⟩;obtain ⟨hun,o,ho,aaG⟩:=mem_ready.1 hi;have hlt:=(yax.1 ho).1;have hun': ¬listed.getD i false=true:=by
   rw [yav,yaQ (by omega)] at hun ⊢;simp only [ycg] at hun ⊢;rw [hun];simp
  have GH: ∀x,(bE ops i).testBit x=true→listed.getD x false=true:=fun x hx=>U1 hcl i o ho aaG x hx;have hlc: ∀q x,listed.getD q false=true→(bE ops q).testBit x=true→listed.getD x false=true:=fun q x hq hx=>by
   cases hoq:ops[q]? with
   | none=>rw [Jd hoq] at hx;cases hx
   | some oq=>exact U1 hcl q oq hoq (fun e h1 h2=>hcl q oq hoq hq e h1 h2) x hx
  have hnew:(fun x=>listed.getD x false=true∨x=i)=fun x=>(listed.setIfInBounds i true).getD x false=true:=funext fun x=>propext (by
   by_cases hx:x=i
   ·subst hx;constructor
    ·intro _;rw [yav,ycn,yak (by omega)];rfl
    ·intro _;exact .inr rfl
   ·rw [ydV false (ycW hx)];exact ⟨fun h=>h.resolve_right hx,.inl⟩)
  have hsz':(listed.setIfInBounds i true).size=ops.size:=by simp [hsz]
  have hcl':=zpZ hcl hi;have hc':(listed.setIfInBounds i true).count false≤fuel:=by have:=count_set hun;omega
  cases hv:iy o with
  | false=>
   have hD:DD ops s ops.size i:=by
    refine ⟨o,ho,.inl ⟨hv,?_⟩⟩;rcases JI (ops:=ops) i with h0|⟨u,x,h1,h2,h3⟩
    ·omega
    ·have:=(hh u x h1).1 (GH x h2);omega
   refine ci.late pf he ho hD hun' GH hlc fun gL j' a' w' Cu he'=> ?_;rw [hnew] at Cu;refine ih _ s fs gL env j' H a' w' nm hsz' hcl' hc' (fun u h hu=> ?_) Cu he' hden hf;have hne:i≠h:=fun e=>by
    subst e;obtain ⟨o',h1,h2⟩:=EM.1 ⟨u,hu⟩;rw [ho] at h1;cases h1;rw [hv] at h2;cases h2
   rw [ydV false hne];exact hh u h hu
  | true=>
   obtain ⟨u,hu⟩:=EM.2 ⟨o,ho,hv⟩;have fH:u=s:=by
    have h1: ¬u<s:=fun h=>hun' ((hh u i hu).2 h);apply yby;intro hne;obtain ⟨v,rfl⟩: ∃v,u=v+1:=⟨u-1,by omega⟩;have uH:v<(dB ops).length:=by have:=(yat.1 hu).1;omega
    have hx:(dB ops)[v]? =some (dB ops)[v]:=yai uH;have:=(hh v _ hx).1 (GH _ (pf.chain v _ i hx hu));omega
   subst fH;have Tg:u<(gY ops).length:=by rw [NV];exact (yat.1 hu).1
   have hp:(gY ops)[u]? =some (gY ops)[u]:=yai Tg;obtain ⟨p1,p2,p3,p4⟩:=Z8 hp;have hpi:(gY ops)[u].i=i:=by rw [hu] at p1;exact (yaE p1).symm
   have hpo:(gY ops)[u].o=o:=by rw [hpi,ho] at p2;exact (yaE p2).symm
   have hpm:(gY ops)[u].m=bE ops i:=by rw [p3,hpi]
   have hdrop:(gY ops).drop u=(gY ops)[u]::(gY ops).drop (u+1):=ybx Tg;rw [hdrop] at hden;have hden:Ob.den ρ (fK P rec ops N k (.run (gY ops)[u].o:: .tV (xA u (gY ops)[u].m (jH ops))::wX (jH ops) (u+1) ((gY ops).drop (u+1))) fs env H):=hden;rw [hpo,hpm] at hden;have hD: ¬DD ops u ops.size i:=by
    rintro ⟨o',h1,h2⟩;rw [ho] at h1;cases h1;rcases h2 with ⟨h2,_⟩|⟨_,v,h3,h4⟩
    ·rw [hv] at h2;cases h2
    ·have:=YZ hu h4;omega
   refine ci.heavy hgood pf he ho hv hD (fun x y hx hy=>zsU pf.xX hx hy) GH hu (fun x ox hx hox=> ?_) hf hden fun gL env' j' H' a' w' fs' Cu he' hf' RZ=> ?_
   ·obtain ⟨o',h1,h2⟩:=hx;rcases h2 with ⟨_,h2⟩|⟨_,v,h2,h3⟩
    ·omega
    ·have:=U9 pf.xX h3;omega
   ·rw [hnew] at Cu;rw [Vp] at RZ;obtain ⟨Cy,H2,MG,KZ,KP,hf2,LB⟩:=I4 pf ops.toList (kC ops.toList) 0 fs' env' H' nm hf' (by simp) (by simp) (Cu.congr (zuZ hu ho hv)) RZ;refine ih _ (u+1) KZ gL Cy j' H2 a' w' MG hsz' hcl' hc' (fun v x hx=> ?_) KP he' LB hf2;by_cases hxi:x=i
    ·subst hxi;have:=YZ hu hx;subst this;constructor
     ·intro _;omega
     ·intro _;rw [yav,ycn,yak (by omega)];rfl
    ·rw [ydV false (ycW hxi),hh v x hx];have:v≠u:=fun e=>by subst e;rw [hu] at hx;exact hxi (yaE hx).symm
     omega
theorem FB (hmo:P.follows .mixedOrders=true) (hgood:Good P ρ w0 n rec):Ki P ρ w0 rec:=by
 intro id ops N env H k j a w h hi he;unfold PU at h;simp only at h;split at h
 case h_2=>exact h.elim
 rename_i l hl;obtain ⟨pf,rfl⟩:=zld hl;rw [Vp] at h;refine wp_region_any hmo ?_;have hfalse: ∀i,((Array.replicate ops.size false).getD i false=true)↔False:=fun i=>by
  rw [yav,ydY];split<;>simp
 have ci0:CI P ρ w0 ops N env H j (DD ops 0 0) (fun i=>(Array.replicate ops.size false).getD i false=true) env env j H w.drew (fun _=>none):=by
  refine ⟨hi.drew,St.refl j H,fun i h=>((hfalse i).1 h).elim,fun _ _=>rfl,fun _ _=>rfl,fun t i o h=>((hfalse i).1 h).elim,fun i o hD=> ?_,fun i nx h=>(by cases h),fun i i' nx h=>(by cases h)⟩;obtain ⟨o',_,h2⟩:=hD;rcases h2 with ⟨_,h2⟩|⟨_,u,h2,_⟩<;>omega
 obtain ⟨Cy,H2,MG,KZ,KP,hf2,LB⟩:=I4 pf ops.toList (kC ops.toList) 0 [] env H (fun _=>none) (fun _ h=>by cases h) (by simp) (by simp) ci0 h;refine ztW (k:=k .normal) (j0:=j) (H0:=H) hgood pf (fun a' w' hh=> ?_) ops.size _ 0 KZ env Cy j H2 a w.drew MG (by simp) ?_ ?_ (fun u h hu=> ?_) KP he (by simpa using LB) hf2
 ·obtain ⟨env',H',j',h1,h2,h3,h4⟩:=hh;exact ⟨.normal,env',H',j',rfl,h1,h2,h3,h4⟩
 ·intro i o ho hl;exact ((hfalse i).1 hl).elim
 ·exact yas (Array.count_le_size) (by simp)
 ·constructor
  ·intro h;exact ((hfalse _).1 h).elim
  ·intro h;omega
end
end Go.Dw
namespace Go.Dw
mutual
theorem Ob.zW {ρ:Val}: ∀ {o:Ob},o.good=true→o.den ρ
 | .ok,_=>trivial
 | .bad _ _,h=>by cases h
 | .all l,h=>Ob.Ri (l:=l) h
 | .ite c t e,h=>by
  unfold Ob.good at h;split at h
  ·rename_i ht;exact ⟨fun _=>Ob.zW ht,fun _=>Ob.zW h⟩
  ·cases h
theorem Ob.Ri {ρ:Val}: ∀ {l:List Ob},Ob.F7 l=true→Ob.FZ ρ l
 | [], _=>trivial
 | o::l,h=>by
  unfold Ob.F7 at h;split at h
  ·rename_i ho;exact ⟨Ob.zW ho,Ob.Ri h⟩
  ·cases h
end
theorem inv0 {ρ:Val} (w:World):Inv ρ (Cx.plain w) (fun _=>none) og w:=
 ⟨Fr.refl (Cx.plain w),(fun _ _ h=>by cases h),(fun _ _ h=>by cases h),(fun n o h=>by rw [show og.m.get n=none from rfl] at h;cases h),(fun _ _ h=>by cases h),(fun _ _ _ _ _ h=>by cases h),
  (fun n v e g t sh ow h=>by rw [show og.m.get n=none from rfl] at h;cases h),(fun g x h=>by rw [show og.gw.get g=none from rfl] at h;cases h),(fun _ _ _ _ _ _ _ h=>by cases h),(fun _ _ h=>by cases h),(fun _ _ _ _ _ _ h=>by cases h),rfl,Nat.zero_lt_one,(fun o h=>by rw [show og.m.get 0=none from rfl] at h;cases h),trivial⟩
theorem Zr {P:Program} {ρ:Val} {w0:Cx}:xP P ρ w0 zH:=fun f args H l h=>by cases h
theorem zlH {ρ:Val} {j:J} {v:AV} {u:Value} {H:Heap} (hR:R ρ j v u) (h:Ob.den ρ (isTrue v H)):u= .bool true:=by
 unfold isTrue at h;split at h
 ·exact hR
 ·exact h.elim
 ·rename_i b _ _;have hR:u= .bool (b.den ρ):=hR;cases hb:b.den ρ with
  | true=>rw [hR,hb]
  | false=>exact (h.2 hb).elim
 ·exact h.elim
theorem zp3 {P:Program} (hmo:P.follows .mixedOrders=true) {fP:FuncId→List AV→Heap→Option (List (AV×Heap))} {ρ:Val} {w:World} (hor:xP P ρ (Cx.plain w) fP) {n:Nat} {f:FuncId} {args:List AV} {vals:List Value} {H:Heap} {j:J}
  (hi:Inv ρ (Cx.plain w) j H w) (ha:RL ρ j args vals) (h:Ob.den ρ (ev P fP n (.call f args H isTrue))):Calls P f vals.toArray w fun e w'=>e= .returned (.bool true)∧RowKit.Below w.heap.size w w':=by
 have hg:=JC (w0:=Cx.plain w) hor (fun n rec hg=>FB hmo hg) n;refine ya7 ((hg.call f args H isTrue h).2 j w vals hi ha) fun e w' he=> ?_;obtain ⟨u,rfl,v,H',j',h1,h2,h3,h4⟩:=he;rw [zlH h1 h4];exact ⟨rfl,h2.fr.below⟩
open Go.RowKit Go.WideShapes Go.ChangeShapes in
theorem abo {H:Type} {enc:TypeId×Value→H} {P:Program} {f:Func} {s:ChangeSpec} {apart fresh handsOn again:Bool} {W W':World} {args:Array Value} {v:Value} {ds gs:List (DataW H)} {before pa pv:List MemPlace}
  (hW:DataW.Whole enc P f.params.toList s.vars apart W args.toList ds gs before)
  (hres: ∀(b:Nat) (sp:Nat→Bool) (hd:Bool),DataW.TrodAll enc P W' b sp hd f.resultTypes.toList (v.resultList f.resultTypes.size) (s.fn H (ds++gs)).results [])
  (hargs: ∀sp:Nat→Bool,(∀p∈before,sp p.block=true)→DataW.TrodAll enc P W' 0 sp true f.params.toList args.toList (s.fn H (ds++gs)).args pa)
  (hvars: ∀sp:Nat→Bool,(∀p∈before,sp p.block=true)→DataW.TrodVars enc P W' sp s.vars (s.fn H (ds++gs)).vars pv)
  (hps:before=pa++pv) (hb:Below W.heap.size W W')
  (hok: ∀(j:Nat) (t:TypeId) (r:Value),f.resultTypes[j]? =some t→(v.resultList f.resultTypes.size)[j]? =some r→Value.okWide P W' .any 0 t r):
  s.post enc P f apart fresh handsOn again W args v W':=by
 have hlt: ∀p∈before,p.block<W.heap.size:=fun p hp=>hW.lt p hp;have hold: ∀p∈before,(fun b=>decide (b<W.heap.size)) p.block=true:=fun p hp=>by simpa using hlt p hp
 refine ⟨ds,gs,before,[],pa,pv,hW,hres _ _ _,hargs _ hold,hvars _ hold,World.keptBut_mono (fun p hp=>⟨hp,?_⟩) (hb.frame (· ∈before)),fun _=> ?_⟩
 ·rw [hps,ya2] at hp;exact Or.inr hp
 ·obtain ⟨_,_,_,_,_,hz,hn⟩:=hW;refine ⟨hok,_,_,([]++pa)++pv,⟨[]++pa,pv,trodAll_append (hargs _ (fun _ _=>rfl)) (hres _ _ _),hvars _ (fun _ _=>rfl),rfl,?_,?_⟩,?_⟩
  ·intro b off hp;have hin:MemPlace.cell b off∈before:=by rw [hps];simpa using hp
   rw [hb.frozen (hlt _ hin)];exact hz b off hin
  ·intro ha;have:=hn ha;rw [hps] at this;simpa using this
  ·intro p hp _;rw [hps];simpa using hp
open Go.RowKit
def Val.mark (ρ:Val) (m:Nat→Bool):Val:=⟨ρ.i,fun n=>if n<1000000 then ρ.b n else m n,ρ.v⟩
def SB.small:SB→Bool
 | .lit _=>true
 | .var n=>Nat.blt n 1000000
 | .cmp _ _ _=>true
 | .not a=>a.small
 | .beq a b=>match a.small with|true=>b.small|false=>false
 | .and a b=>match a.small with|true=>b.small|false=>false
theorem XB (ρ:Val) (m:Nat→Bool): ∀(l:List aL) (c:Nat),aJ (ρ.mark m) l c=aJ ρ l c
 | [], c=>rfl
 | f::l,c=>by
  unfold aJ;rw [XB ρ m l c];rfl
theorem SE.jd (ρ:Val) (m:Nat→Bool): ∀a:SE,a.den (ρ.mark m)=a.den ρ
 | .lit n=>rfl
 | .var i=>rfl
 | .bin o k a b=>by unfold SE.den;rw [SE.jd ρ m a,SE.jd ρ m b]
 | .wrap k a=>by unfold SE.den;rw [SE.jd ρ m a]
 | .bn l c=>by unfold SE.den;rw [XB]
theorem SB.jd (ρ:Val) (m:Nat→Bool): ∀b:SB,b.small=true→b.den (ρ.mark m)=b.den ρ
 | .lit b,_=>rfl
 | .var n,h=>by
  have h:Nat.blt n 1000000=true:=h;rw [yaD] at h;show (if n<1000000 then ρ.b n else m n)=ρ.b n;rw [yak h]
 | .cmp o a b,_=>by unfold SB.den;rw [SE.jd,SE.jd]
 | .not a,h=>by unfold SB.den;rw [SB.jd ρ m a h]
 | .beq a b,h=>by
  unfold SB.small at h;split at h
  ·rename_i ha;unfold SB.den;rw [SB.jd ρ m a ha,SB.jd ρ m b h]
  ·cases h
 | .and a b,h=>by
  unfold SB.small at h;split at h
  ·rename_i ha;unfold SB.den;rw [SB.jd ρ m a ha,SB.jd ρ m b h]
  ·cases h
structure Leaf where
 v:AV
 rows:List (Nat×List AV)
 maps:List (Nat×List (AV×Option AV))
 gs:Nat
 own:List Nat
def xH (H:Heap) (n:Nat) (l:List AV):Bool:=
 match H.m.get n with
 | some (.cells v _ g c _ _)=>(match alive H.gw g c,Nat.beq v.n l.length with
  | true,true=>AV.qE (v.list 0 v.n) l
  | _,_=>false)
 | _=>false
def Qv:Option AV→Option AV→Bool
 | none,none=>true
 | some a,some b=>AV.beq a b
 | _,_=>false
def JX:List (AV×Option AV)→List (AV×Option AV)→Bool
 | [], [] => true
 | a::l,b::m=>(match AV.beq a.1 b.1,Qv a.2 b.2 with
  | true,true=>JX l m
  | _,_=>false)
 | _,_=>false
def Cj (H:Heap) (n:Nat) (l:List (AV×Option AV)):Bool:=
 match H.m.get n with
 | some (.dw _ log)=>JX log l
 | _=>false
def xK (H:Heap) (n:Nat):Nat:=
 match H.m.get n with
 | some (.cells _ _ g _ _ _)=>g
 | _=>0
def KD (H:Heap) (g:Nat):List (Nat×List AV)→Bool
 | [] => false
 | p::l=>match Nat.beq (xK H p.1) g with|true=>true|false=>KD H g l
def qj (H:Heap):List (Nat×List AV)→Bool
 | [] => true
 | p::l=>match xH H p.1 p.2,KD H (xK H p.1) l with|true,false=>qj H l|_,_=>false
theorem OX {H:Heap} {g:Nat}: ∀ {l:List (Nat×List AV)},KD H g l=false→ ∀ {r:Nat×List AV},r∈l→xK H r.1≠g
 | [], _,_,h=>by cases h
 | x::l,ha,r,h=>by
  unfold KD at ha;split at ha
  ·cases ha
  rename_i h1;rcases yaj.1 h with rfl|h
  ·intro e;rw [e] at h1;simp [yb7] at h1
  ·exact OX ha h
theorem UF {H:Heap}: ∀ {l:List (Nat×List AV)},qj H l=true→ ∀ {r r':Nat×List AV},r∈l→r'∈l→r.1≠r'.1→xK H r.1≠xK H r'.1
 | [], _,_,_,h,_,_=>by cases h
 | x::l,ha,r,r',h,h',hne=>by
  unfold qj at ha;split at ha
  case h_2=>cases ha
  rename_i h1 h2;rcases yaj.1 h with h3|h3
  ·rcases yaj.1 h' with h4|h4
   ·exact absurd (by rw [h3,h4]) hne
   ·rw [h3];exact fun e=>OX h2 h4 e.symm
  ·rcases yaj.1 h' with h4|h4
   ·rw [h4];exact OX h2 h3
   ·exact UF ha h3 h4 hne
def zw (H:Heap):List (Nat×List (AV×Option AV))→Bool
 | [] => true
 | p::l=>match Cj H p.1 p.2 with|true=>zw H l|false=>false
def zxX (H:Heap) (n:Nat):Bool:=
 match H.m.get n with
 | some (.cells _ _ g _ _ true)=>Nat.beq g n
 | _=>false
def EY (H:Heap):List Nat→Bool
 | [] => true
 | n::l=>match zxX H n with|true=>EY H l|false=>false
theorem Vq {H:Heap}: ∀ {l:List Nat},EY H l=true→ ∀ {n:Nat},n∈l→ ∃v e c sh,H.m.get n=some (.cells v e n c sh true)
 | [], _,_,h=>by cases h
 | x::l,ha,n,h=>by
  unfold EY at ha;split at ha
  case h_2=>cases ha
  rename_i h1;rcases yaj.1 h with rfl|h
  ·unfold zxX at h1;split at h1
   ·rename_i hm;have h1:=aY h1;subst h1;exact ⟨_,_,_,_,hm⟩
   ·cases h1
  ·exact Vq ha h
def Leaf.fits (l:Leaf) (v:AV) (H:Heap):Bool:=
 match AV.beq v l.v,qj H l.rows,zw H l.maps,Nat.beq H.gs l.gs with
 | true,true,true,true=>EY H l.own
 | _,_,_,_=>false
def jc:List Leaf→Nat→AV→Heap→Ob
  | [], _, _, _ => .bad 95 ""
  | l::r,i,v,H=>match l.fits v H with
    | true => qp (Nat.add 1000000 i) fun n => .ite (.var n) .ok (.bad 96 "")
    | false=>jc r (Nat.succ i) v H
def Qq:SB→Option Nat
 | .var n=>(match Nat.ble 1000000 n with|true=>some (Nat.sub n 1000000)|false=>none)
 | _=>none
def QM:BinOp→Option BinOp
 | .eql=>some .neq| .neq=>some .eql| .lss=>some .geq| .geq=>some .lss| .leq=>some .gtr| .gtr=>some .leq
 | _=>none
def Qf:BinOp→BinOp
 | .lss=> .gtr| .gtr=> .lss| .leq=> .geq| .geq=> .leq
 | o=>o
def Qr:BinOp→Bool
 | .eql| .neq| .lss| .leq| .gtr| .geq=>true
 | _=>false
def zs0 (pre:List (SB×Bool)) (o:BinOp) (a b:SE):Option Bool:=
 match vB (.cmp o a b) pre with
 | some c=>some c
 | none=>match QM o with
  | some o'=>(match vB (.cmp o' a b) pre with|some true=>some false|some false=>some true|none=>none)
  | none=>none
def qw (pre:List (SB×Bool)):SB→Option Bool
 | .lit b=>some b
 | .not a=>(match vB (.not a) pre with
  | some b=>some b
  | none=>match qw pre a with|some true=>some false|some false=>some true|none=>none)
 | .and a b=>(match vB (.and a b) pre with
  | some c=>some c
  | none=>match qw pre a with
   | some false=>some false
   | some true=>qw pre b
   | none=>match qw pre b with|some false=>some false|_=>none)
 | .cmp o a b=>(match zs0 pre o a b with
  | some c=>some c
  | none=>match Qr o with
   | true=>zs0 pre (Qf o) b a
   | false=>none)
 | c=>vB c pre
def tQ (pre:List (SB×Bool)):SB→SB
 | .lit b=> .lit b
 | .not a=>(match qw pre (.not a) with
  | some b=> .lit b
  | none=>mkNot (tQ pre a))
 | .and a b=>(match qw pre (.and a b) with
  | some c=> .lit c
  | none=>mkAnd (tQ pre a) (tQ pre b))
 | c=>(match qw pre c with
  | some b=> .lit b
  | none=>c)
def tell (pre:List (SB×Bool)):SB→Bool→List (SB×Bool)
 | .not a,b=>tell pre a (match b with|true=>false|false=>true)
 | .and a b,true=>tell (tell pre a true) b true
 | c,b=>pre++ [(c,b)]
mutual
def Ob.paths (pre:List (SB×Bool)):Ob→Option (List (List (SB×Bool)×Nat))
 | .ok=>none
 | .bad _ _=>none
 | .all l=>Ob.G8 pre l
 | .ite c t e=>match Qq c with
  | some i=>(match t,e with
   | .ok,.bad _ _=>some [(pre,i)]
   | _,_=>none)
  | none=>match c.small with
   | false=>none
   | true=>match tQ pre c with
    | .lit true=>Ob.paths pre t
    | .lit false=>Ob.paths pre e
    | c=>match qw pre c with
     | some true=>Ob.paths pre t
     | some false=>Ob.paths pre e
     | none=>match Ob.paths (tell pre c true) t,Ob.paths (tell pre c false) e with
      | some a,some b=>some (a++b)
      | _,_=>none
def Ob.G8 (pre:List (SB×Bool)):List Ob→Option (List (List (SB×Bool)×Nat))
 | [] => some []
 | o::l=>match Ob.paths pre o,Ob.G8 pre l with
  | some a,some b=>some (a++b)
  | _,_=>none
end
theorem zpH {n:Nat} (h:Nat.ble 1000000 n=true):1000000+Nat.sub n 1000000=n∧ ¬n<1000000:=by
 have h:=yam h;have e:Nat.sub n 1000000=n-1000000:=rfl;rw [e];omega
theorem zrS {c:SB} {i:Nat} (h:Qq c=some i): ∃n,c= .var n∧1000000+i=n∧ ¬n<1000000:=by
 unfold Qq at h;split at h
 case h_2=>cases h
 rename_i n;split at h
 case h_2=>cases h
 rename_i hn;have h:=yaE h;obtain ⟨h1,h2⟩:=zpH hn;exact ⟨n,rfl,by rw [←h];exact h1,h2⟩
theorem XO {ρ:Val} {o o':BinOp} {a b:SE} (h:QM o=some o'):SB.den ρ (.cmp o a b)= !(SB.den ρ (.cmp o' a b)):=by
 cases o<;>simp only [QM] at h<;>cases h<;>simp only [SB.den,mD]
 ·cases hh:(a.den ρ==b.den ρ)<;>simp_all [bne]
 ·cases hh:(a.den ρ==b.den ρ)<;>simp_all [bne]
 all_goals
  rw [←decide_not];congr 1;exact propext (by omega)
theorem zpk {ρ:Val} {o:BinOp} {a b:SE} (h:Qr o=true):SB.den ρ (.cmp (Qf o) b a)=SB.den ρ (.cmp o a b):=by
 have he:(b.den ρ==a.den ρ)=(a.den ρ==b.den ρ):=by
  rw [ybS,ycC,ycC];exact ⟨Eq.symm,Eq.symm⟩
 cases o<;>simp only [Qr] at h<;>first|cases h|skip
 all_goals simp only [Qf,SB.den,mD]
 ·exact he
 ·unfold bne;rw [he]
theorem Xk {ρ:Val} {pre:List (SB×Bool)} (ht:Told ρ pre) {o:BinOp} {x y:SE} {b':Bool} (h:zs0 pre o x y=some b'):SB.den ρ (.cmp o x y)=b':=by
 unfold zs0 at h;split at h
 ·rename_i hb;cases h;exact tF ht hb
 ·split at h
  ·rename_i o' ho;split at h
   ·rename_i hb;cases h;rw [XO ho,tF ht hb];rfl
   ·rename_i hb;cases h;rw [XO ho,tF ht hb];rfl
   ·cases h
  ·cases h
theorem oM {ρ:Val} {pre:List (SB×Bool)} (ht:Told ρ pre): ∀ {c:SB} {b:Bool},qw pre c=some b→c.den ρ=b
 | .lit b,b',h=>by cases h;rfl
 | .var n,b',h=>tF ht h
 | .beq x y,b',h=>tF ht h
 | .not a,b',h=>by
  unfold qw at h;split at h
  ·rename_i hb;cases h;exact tF ht hb
  ·split at h
   ·rename_i ha;cases h;show (!(a.den ρ))=false;rw [oM ht ha];rfl
   ·rename_i ha;cases h;show (!(a.den ρ))=true;rw [oM ht ha];rfl
   ·cases h
 | .and x y,b',h=>by
  unfold qw at h;split at h
  ·rename_i hb;cases h;exact tF ht hb
  ·split at h
   ·rename_i ha;cases h;show (x.den ρ&&y.den ρ)=false;rw [oM ht ha];rfl
   ·rename_i ha;show (x.den ρ&&y.den ρ)=b';rw [oM ht ha,oM ht h];rfl
   ·split at h
    ·rename_i ha;cases h;show (x.den ρ&&y.den ρ)=false;rw [oM ht ha];simp
    ·cases h
 | .cmp o x y,b',h=>by
  unfold qw at h;split at h
  ·rename_i hb;cases h;exact Xk ht hb
  ·split at h
   ·rename_i ho;rw [←zpk ho];exact Xk ht h
   ·cases h
theorem Ey {ρ:Val} {l:List (SB×Bool)} {c:SB} {b:Bool} (h:Told ρ l) (hc:c.den ρ=b):Told ρ (l++ [(c,b)]):=fun x hx=>by
 rcases ya2.1 hx with hx|hx
 ·exact h x hx
 ·rw [yaI] at hx;subst hx;exact hc
theorem I5 {ρ:Val} {pre:List (SB×Bool)} (ht:Told ρ pre): ∀c:SB,(tQ pre c).den ρ=c.den ρ
 | .lit b=>rfl
 | .not a=>by
  unfold tQ;split
  ·rename_i h;exact (oM ht h).symm
  ·rw [rH,I5 ht a];rfl
 | .and a b=>by
  unfold tQ;split
  ·rename_i h;exact (oM ht h).symm
  ·rw [xu,I5 ht a,I5 ht b];rfl
 | .var n=>by
  unfold tQ;split
  ·rename_i h;exact (oM ht h).symm
  ·rfl
 | .cmp o a b=>by
  unfold tQ;split
  ·rename_i h;exact (oM ht h).symm
  ·rfl
 | .beq a b=>by
  unfold tQ;split
  ·rename_i h;exact (oM ht h).symm
  ·rfl
theorem Ez {ρ:Val}: ∀(c:SB) (pre:List (SB×Bool)) (b:Bool),Told ρ pre→c.den ρ=b→Told ρ (tell pre c b)
 | .not a,pre,b,ht,h=>by
  unfold tell;refine Ez a pre _ ht ?_;have h:(!(a.den ρ))=b:=h;cases b<;>cases ha:a.den ρ<;>simp_all
 | .and a b,pre,true,ht,h=>by
  unfold tell;have h:(a.den ρ&&b.den ρ)=true:=h;rw [ybd] at h;exact Ez b _ _ (Ez a pre _ ht h.1) h.2
 | .and a b,pre,false,ht,h=>Ey ht h
 | .lit _,pre,b,ht,h=>by unfold tell;exact Ey ht h
 | .var _,pre,b,ht,h=>by unfold tell;exact Ey ht h
 | .cmp _ _ _,pre,b,ht,h=>by unfold tell;exact Ey ht h
 | .beq _ _,pre,b,ht,h=>by unfold tell;exact Ey ht h
mutual
theorem uN {ρ:Val} {m:Nat→Bool} {ps:List (List (SB×Bool)×Nat)} (hm: ∀p∈ps,Told ρ p.1→m (1000000+p.2)=true):
  ∀ {o:Ob} {pre:List (SB×Bool)} {qs:List (List (SB×Bool)×Nat)},o.paths pre=some qs→(∀q∈qs,q∈ps)→Told ρ pre→o.den (ρ.mark m)
 | .ok,pre,qs,h,_,_=>by unfold Ob.paths at h;cases h
 | .bad _ _,pre,qs,h,_,_=>by unfold Ob.paths at h;cases h
 | .all l,pre,qs,h,hq,ht=>by
  unfold Ob.paths at h;exact TJ (l:=l) hm h hq ht
 | .ite c t e,pre,qs,h,hq,ht=>by
  unfold Ob.paths at h;split at h
  ·rename_i i hi;split at h
   ·cases h;obtain ⟨n,rfl,e1,e2⟩:=zrS hi;have:=hm (pre,i) (hq _ (by simp)) ht;rw [e1] at this;have hd:SB.den (ρ.mark m) (.var n)=true:=by
     show (if n<1000000 then ρ.b n else m n)=true;rw [yah e2];exact this
    exact ⟨fun _=>trivial,fun hf=>by rw [hd] at hf;cases hf⟩
   ·cases h
  ·split at h
   ·cases h
   ·rename_i hs;have hd:=SB.jd ρ m c hs;have hsi:=I5 ht c;split at h
    ·rename_i hl;rw [hl] at hsi;have hc:c.den ρ=true:=hsi.symm;exact ⟨fun _=>uN hm h hq ht,fun hf=>(by rw [hd,hc] at hf;cases hf)⟩
    ·rename_i hl;rw [hl] at hsi;have hc:c.den ρ=false:=hsi.symm;exact ⟨fun hf=>(by rw [hd,hc] at hf;cases hf),fun _=>uN hm h hq ht⟩
    ·split at h
     ·rename_i Mi;have hc:=oM ht Mi;rw [hsi] at hc;exact ⟨fun _=>uN hm h hq ht,fun hf=>(by rw [hd,hc] at hf;cases hf)⟩
     ·rename_i Mi;have hc:=oM ht Mi;rw [hsi] at hc;exact ⟨fun hf=>(by rw [hd,hc] at hf;cases hf),fun _=>uN hm h hq ht⟩
     ·split at h
      ·rename_i a b h1 h2;cases h;exact ⟨fun hc=>uN hm h1 (fun q hq'=>hq q (by simp [hq'])) (Ez _ _ _ ht (by rw [hsi,←hd];exact hc)),fun hc=>uN hm h2 (fun q hq'=>hq q (by simp [hq'])) (Ez _ _ _ ht (by rw [hsi,←hd];exact hc))⟩
      ·cases h
theorem TJ {ρ:Val} {m:Nat→Bool} {ps:List (List (SB×Bool)×Nat)} (hm: ∀p∈ps,Told ρ p.1→m (1000000+p.2)=true):
  ∀ {l:List Ob} {pre:List (SB×Bool)} {qs:List (List (SB×Bool)×Nat)},Ob.G8 pre l=some qs→(∀q∈qs,q∈ps)→Told ρ pre→Ob.FZ (ρ.mark m) l
 | [], _,_,_,_,_=>trivial
 | o::l,pre,qs,h,hq,ht=>by
  unfold Ob.G8 at h;split at h
  ·rename_i a b h1 h2;cases h;exact ⟨uN hm h1 (fun q hq'=>hq q (by simp [hq'])) ht,TJ hm h2 (fun q hq'=>hq q (by simp [hq'])) ht⟩
  ·cases h
end
theorem Vs {ρ:Val} {v:AV} {H:Heap}: ∀ {ls:List Leaf} {i:Nat},Ob.den ρ (jc ls i v H)→ ∃k l,ls[k]? =some l∧l.fits v H=true∧ρ.b (1000000+(i+k))=true
 | [], i,h=>h.elim
 | l::r,i,h=>by
  unfold jc at h;split at h
  ·rename_i hf;rw [uT] at h;refine ⟨0,l,rfl,hf,?_⟩;cases hb:ρ.b (1000000+(i+0)) with
   | true=>rfl
   | false=>exact (h.2 hb).elim
  ·obtain ⟨k,l',h1,h2,h3⟩:=Vs h;refine ⟨k+1,l',h1,h2,?_⟩;rw [show i+(k+1)=Nat.succ i+k by omega];exact h3
theorem zt2 {P:Program} (hmo:P.follows .mixedOrders=true) {fP:FuncId→List AV→Heap→Option (List (AV×Heap))} {x:Cx} {ρ:Val} {w:World} {n:Nat} {f:FuncId} {args:List AV} {vals:List Value} {H:Heap} {j:J} {ls:List Leaf} {asm:List (SB×Bool)} {ps:List (List (SB×Bool)×Nat)}
  (hor: ∀m,xP P (ρ.mark m) x fP) (hi: ∀m,Inv (ρ.mark m) x j H w) (ha: ∀m,RL (ρ.mark m) j args vals) (ht:Told ρ asm)
  (h:(ev P fP n (.call f args H (jc ls 0))).paths asm=some ps):
  Calls P f vals.toArray w fun e w'=> ∃p∈ps,Told ρ p.1∧ ∃l,ls[p.2]? =some l∧ ∃m u v j' H',e= .returned u∧R (ρ.mark m) j' v u∧Inv (ρ.mark m) x j' H' w'∧St j H j' H'∧l.fits v H'=true:=by
 classical
 let m:Nat→Bool:=fun k=>decide (∃p∈ps,1000000+p.2=k∧Told ρ p.1)
 have hm: ∀p∈ps,Told ρ p.1→m (1000000+p.2)=true:=fun p hp ht=>by
  show decide _=true;exact yaH ⟨p,hp,rfl,ht⟩
 have hd:=uN hm h (fun q hq=>hq) ht;have hg:=JC (w0:=x) (hor m) (fun n rec hg=>FB hmo hg) n;refine ya7 ((hg.call f args H (jc ls 0) hd).2 j w vals (hi m) (ha m)) fun e w' he=> ?_;obtain ⟨u,rfl,v,H',j',h1,h2,h3,h4⟩:=he;obtain ⟨k,l,h5,h6,h7⟩:=Vs h4;have h7:(if 1000000+(0+k)<1000000 then ρ.b (1000000+(0+k)) else m (1000000+(0+k)))=true:=h7;rw [yah (by omega)] at h7;obtain ⟨p,hp,hk,hto⟩:=ycq h7;have:p.2=k:=by omega
 subst this;exact ⟨p,hp,hto,l,h5,m,u,v,j',H',rfl,h1,h2,h3,h6⟩
theorem zx7 {l:Leaf} {v:AV} {H:Heap} (h:l.fits v H=true):v=l.v∧qj H l.rows=true∧zw H l.maps=true∧H.gs=l.gs∧EY H l.own=true:=by
 unfold Leaf.fits at h;split at h
 ·rename_i h1 h2 h3 h4;exact ⟨AV.beq_eq h1,h2,h3,aY h4,h⟩
 ·cases h
theorem BG {H:Heap} {n:Nat} {l:List AV} (h:xH H n l=true): ∃v e g c s o,H.m.get n=some (.cells v e g c s o)∧alive H.gw g c=true∧v.n=l.length∧ ∀i (hi:i<l.length),v.get i=l[i]:=by
 unfold xH at h;split at h
 case h_2=>cases h
 rename_i v e g c s o hm;split at h
 case h_2=>cases h
 rename_i ha hn;have hn:=aY hn;have hb:=AV.vL h;refine ⟨v,e,g,c,s,o,hm,ha,hn,fun i hi=> ?_⟩;have h1:=Vec.zY v.n v 0 i (by omega);rw [hb,yai hi] at h1;rw [yaE h1,yaf]
theorem Inv.MZ {ρ:Val} {x:Cx} {j:J} {H:Heap} {w:World} (hi:Inv ρ x j H w) {n:Nat} {L:Loc} {l:List AV} (hj:j n=some L) (hr:xH H n l=true):
  ∃ vals arr e fr,w.heap[L.blk]? =some (.cells arr e fr)∧RL ρ j l vals∧(∀(i:Nat) (y:Value),vals[i]? =some y→arr[L.off+i]? =some y)∧L.q=none∧(x.own L.blk→fr=(0,0)):=by
 obtain ⟨v,e,gr,c,s,o,hm,ha,hn,hg⟩:=BG hr;have hrow:H.row n=some v:=by unfold Heap.row;rw [hm];simp only [ha]
 obtain ⟨arr,e',fr,h1,h2,h3⟩:=hi.row hj hrow;have hq:=hi.nI hj hm;refine ⟨(List.range l.length).map fun i=>arr.getD (L.off+i) undef,arr,e',fr,h1,RL.AY (by simp) fun i a hia=> ?_,fun i y hy=> ?_,hq,fun ho=>hi.fz n L hj hq ho _ _ _ h1⟩
 ·have hlt:i<l.length:=by
   rcases ybU i l.length with h'|h'
   ·exact h'
   ·rw [yaT h'] at hia;cases hia
  obtain ⟨y,h4,h5⟩:=h3 i (by omega);refine ⟨y,by simp [hlt,h4],?_⟩;rw [hg i hlt] at h5;rw [yai hlt] at hia;cases hia;exact h5
 ·have hlt:i<l.length:=by
   rcases ybU i l.length with h'|h'
   ·exact h'
   ·rw [yaT (by simpa using h')] at hy;cases hy
  obtain ⟨z,h4,_⟩:=h3 i (by omega);simp [hlt,h4] at hy;rw [h4,hy]
theorem Inv.abu {ρ:Val} {x:Cx} {j:J} {H:Heap} {w:World} (hi:Inv ρ x j H w) {n m:Nat} {L M:Loc} {l k:List AV} (hne:n≠m) (hgr:xK H n≠xK H m) (hn:j n=some L) (hm:j m=some M) (hl:xH H n l=true) (hk:xH H m k=true) (hb:L.blk=M.blk): ¬x.own L.blk:=by
 obtain ⟨v,e,g0,c,s,o,h1,_⟩:=BG hl;obtain ⟨v',e',g0',c',s',o',h2,_⟩:=BG hk;unfold xK at hgr;rw [h1,h2] at hgr;obtain ⟨_,_,_,_,_,_,_,_,_,_,_,_,h3,h4,h5,h6⟩:=hi.sep n m L M hne hn hm (hi.nI hn h1) (hi.nI hm h2) hb;rw [h1] at h3;cases h3;rw [h2] at h4;cases h4;cases o with
 | true=>exact absurd (h6 rfl).1 hgr
 | false=>
  obtain ⟨ob,g1,g2⟩:=hi.obj n L hn;rw [h1] at g1;cases g1;have:=g2.2.1
  rwa [yah (by decide)] at this
theorem Inv.abt {ρ:Val} {x:Cx} {j:J} {H:Heap} {w:World} (hi:Inv ρ x j H w) {n m:Nat} {L M:Loc} {l:List AV} {k:List (AV×Option AV)} (hn:j n=some L) (hm:j m=some M) (hl:xH H n l=true) (hk:Cj H m k=true):L.blk≠M.blk:=fun hb=>by
 obtain ⟨v,e,g0,c,s,o,h1,_⟩:=BG hl;unfold Cj at hk;split at hk
 case h_2=>cases hk
 rename_i kn log h2;have hne:n≠m:=fun e=>by subst e;rw [h1] at h2;cases h2
 obtain ⟨_,_,_,_,_,_,_,_,_,_,_,_,h3,h4,h5,h6⟩:=hi.sep n m L M hne hn hm (hi.nI hn h1) (hi.q hm h2 (by intro e;cases e)) hb;rw [h2] at h4;cases h4
theorem zrx {a b:Option AV} (h:Qv a b=true):a=b:=by
 cases a<;>cases b<;>simp only [Qv] at h<;>first|rfl|rw [AV.beq_eq h]|cases h
theorem XZ: ∀ {a b:List (AV×Option AV)},JX a b=true→a=b
 | [], [], _=>rfl
 | [], _::_,h=>by cases h
 | _::_,[],h=>by cases h
 | x::a,y::b,h=>by
  unfold JX at h;split at h
  ·rename_i h1 h2;rw [XZ h,Prod.ext (AV.beq_eq h1) (zrx h2)]
  ·cases h
theorem Inv.abd {ρ:Val} {x:Cx} {j:J} {H:Heap} {w:World} (hi:Inv ρ x j H w) {n:Nat} {L:Loc} {l:List (AV×Option AV)} (hj:j n=some L) (hr:Cj H n l=true):
  ∃ arr clock gq kG m1,w.heap[L.blk]? =some (.map arr clock)∧x.w.heap[L.blk]? =some (.map gq kG)∧(mE arr∧pq arr clock)∧RX ρ j l m1∧ ∀k,eF arr k=uJ (eF gq) m1 k:=by
 unfold Cj at hr;split at hr
 case h_2=>cases hr
 rename_i kn log hm;rw [←XZ hr];obtain ⟨ob,h1,h2⟩:=hi.obj n L hj;rw [hm] at h1;cases h1;obtain ⟨_,_,_,arr,clock,gq,kG,m0,m1,h3,h4,h5,_,h7,_,h9⟩:=h2;exact ⟨arr,clock,gq,kG,m1,h3,h4,⟨h5.1,h5.2.1⟩,h7,h9⟩
inductive Sh where
 | own (row:List AV)
 | ro (row:List AV)
 | dw (kn:List (AV×Option AV))
def Sh.obj (s:Sh) (n:Nat):Obj:=
 match s with
 | .own row=> .cells (Vec.ofList row) 0 n none false true
 | .ro row=> .cells (Vec.ofList row) 0 n none false false
 | .dw kn=> .dw kn []
def Sh.yK:Sh→Bool
 | .ro _=>true
 | _=>false
def Ca:List Sh→Nat→T Obj→T Obj
 | [], _,t=>t
 | s::l,n,t=>Ca l (Nat.succ n) (t.set n (s.obj n))
def dP (k:Nat) (l:List Sh):Heap:=⟨Ca l 1 (T.set .leaf 0 (.gs k)),Nat.succ l.length,.leaf⟩
def cB (l:List (Nat×Nat)):J:=fun n=>match n with|0=>none|k+1=>(l[k]?).map fun b=>⟨b.1,b.2,0,none⟩
theorem Vw: ∀(l:List Sh) (n:Nat) (t:T Obj) (i:Nat),(Ca l n t).get i=if n≤i∧i<n+l.length then (l[i-n]?).map (·.obj i) else t.get i
 | [], n,t,i=>by
  unfold Ca;rw [yah (by simp)]
 | s::l,n,t,i=>by
  unfold Ca;rw [Vw l,T.lC];by_cases h1:n+1≤i∧i<n+1+l.length
  ·rw [yak h1,yak (by simp only [yaX];omega),show i-n=(i-(n+1))+1 by omega,yaG]
  ·rw [yah h1];by_cases h2:i=n
   ·subst h2;rw [yak rfl,yak (by simp only [yaX];omega),yc4];rfl
   ·rw [yah h2,yah (by simp only [yaX];omega)]
def Cs (ρ:Val) (j:J) (x:Cx) (b:Nat×Nat):Sh→Prop
 | .own row=>x.K b.1∧b.2=0∧ ∃(vals:List Value) (arr:Array Value) (e:TypeId),x.w.heap[b.1]? =some (.cells arr e (0,0))∧RL ρ j row vals∧ ∀(i:Nat) (y:Value),vals[i]? =some y→arr[i]? =some y
 | .ro row=> ¬x.K b.1∧ ∃(vals:List Value) (arr:Array Value) (e:TypeId) (fr:Nat×Nat),x.w.heap[b.1]? =some (.cells arr e fr)∧RL ρ j row vals∧b.2+row.length≤arr.size∧ ∀(i:Nat) (y:Value),vals[i]? =some y→arr[b.2+i]? =some y
 | .dw kn=>x.K b.1∧b.2=0∧ ∃arr clock m0,x.w.heap[b.1]? =some (.map arr clock)∧(mE arr∧pq arr clock)∧RX ρ j kn m0∧ ∀k o,(k,o)∈m0→eF arr k=o
def tT (ρ:Val) (j:J) (x:Cx):List (Nat×Nat)→List Sh→Prop
 | [], [] => True
 | b::bl,s::l=>Cs ρ j x b s∧tT ρ j x bl l
 | _,_=>False
def apart:List (Nat×Nat)→List Sh→Prop
 | b::bl,s::l=>(s.yK=false→ ∀(i:Nat) (b':Nat×Nat) (s':Sh),bl[i]? =some b'→l[i]? =some s'→s'.yK=false→b.1≠b'.1)∧apart bl l
 | _,_=>True
theorem tT.get {ρ:Val} {j:J} {x:Cx}: ∀ {bl:List (Nat×Nat)} {l:List Sh},tT ρ j x bl l→bl.length=l.length∧ ∀(i:Nat) (b:Nat×Nat) (s:Sh),bl[i]? =some b→l[i]? =some s→Cs ρ j x b s
 | [], [], _=>⟨rfl,fun i b s h=>by cases h⟩
 | [], _::_,h=>h.elim
 | _::_,[],h=>h.elim
 | b::bl,s::l,h=>by
  obtain ⟨h1,h2⟩:=tT.get h.2;refine ⟨by simp [h1],fun i b' s' e1 e2=> ?_⟩;cases i with
  | zero=>cases e1;cases e2;exact h.1
  | succ i=>exact h2 i b' s' (by simpa using e1) (by simpa using e2)
theorem apart.get: ∀ {bl:List (Nat×Nat)} {l:List Sh},apart bl l→ ∀(i i':Nat) (b b':Nat×Nat) (s s':Sh),i<i'→bl[i]? =some b→l[i]? =some s→bl[i']? =some b'→l[i']? =some s'→s.yK=false→s'.yK=false→b.1≠b'.1
 | [], l,_,i,i',b,b',s,s',_,h,_,_,_,_,_=>by cases h
 | b0::bl,[],_,i,i',b,b',s,s',_,_,h,_,_,_,_=>by cases h
 | b0::bl,s0::l,h,0,i'+1,b,b',s,s',_,h1,h2,h3,h4,h5,h6=>by
  cases h1;cases h2;exact h.1 h5 i' b' s' (by simpa using h3) (by simpa using h4) h6
 | b0::bl,s0::l,h,i+1,i'+1,b,b',s,s',hlt,h1,h2,h3,h4,h5,h6=>
  apart.get h.2 i i' b b' s s' (by omega) (by simpa using h1) (by simpa using h2) (by simpa using h3) (by simpa using h4) h5 h6
theorem wZ {bl:List (Nat×Nat)} {n:Nat} {L:Loc} (h:cB bl n=some L): ∃k b,n=k+1∧bl[k]? =some b∧L=⟨b.1,b.2,0,none⟩:=by
 cases n with
 | zero=>cases h
 | succ k=>
  have h:(bl[k]?).map (fun b=>(⟨b.1,b.2,0,none⟩:Loc))=some L:=h;rw [yb3] at h;obtain ⟨b,h1,h2⟩:=h;exact ⟨k,b,rfl,h1,h2.symm⟩
theorem Xx {ρ:Val} {x:Cx} {k:Nat} {bl:List (Nat×Nat)} {l:List Sh} (hK: ∀b,x.K b→b<x.w.heap.size) (ho:tT ρ (cB bl) x bl l) (ha:apart bl l) (hG:x.G k (cB bl) x.w):Inv ρ x (cB bl) (dP k l) x.w:=by
 obtain ⟨hlen,hok⟩:=ho.get;have hget: ∀i,(dP k l).m.get i=if 1≤i∧i<1+l.length then (l[i-1]?).map (·.obj i) else if i=0 then some (.gs k) else none:=fun i=>by
  show (Ca l 1 (T.set .leaf 0 (.gs k))).get i=_;rw [Vw,T.lC];rfl
 have hat: ∀(q:Nat) (b:Nat×Nat),bl[q]? =some b→ ∃s,l[q]? =some s∧(dP k l).m.get (q+1)=some (s.obj (q+1)):=fun q b hb=>by
  have hq:q<l.length:=by
   rw [←hlen];exact (yat.1 hb).1
  refine ⟨l[q],yai hq,?_⟩;rw [hget,yak (by omega),Nat.add_sub_cancel,yai hq];rfl
 have hblk: ∀(q:Nat) (b:Nat×Nat) (s:Sh),bl[q]? =some b→l[q]? =some s→b.1<x.w.heap.size:=fun q b s hb hs=>by
  have:=hok q b s hb hs;cases s with
  | own row=>obtain ⟨_,_,_,_,_,h,_⟩:=this;exact (yax.1 h).1
  | ro row=>obtain ⟨_,_,_,_,_,h,_⟩:=this;exact (yax.1 h).1
  | dw kn=>obtain ⟨_,_,_,_,_,h,_⟩:=this;exact (yax.1 h).1
 have kK: ∀(q:Nat) (b:Nat×Nat) (s:Sh),bl[q]? =some b→l[q]? =some s→nV ρ (cB bl) x x.w .leaf ⟨b.1,b.2,0,none⟩ (s.obj (q+1)):=fun q b s hb hs=>by
  have:=hok q b s hb hs;cases s with
  | own row=>
   obtain ⟨h1,h2,vals,arr,e,h3,h4,h5⟩:=this;refine ⟨rfl,by rw [yak rfl];exact .inr h1,fun _=>⟨arr,e,(0,0),h3,?_,⟨?_,fun hh=>by cases hh⟩,fun i hi=> ?_⟩⟩
   ·show b.2+(Vec.ofList row).n≤arr.size;rw [Vec.rq,h2,yaf];have hl:=h4.length;rcases ybB row.length with h0|h0
    ·omega
    ·have h6:=h5 (row.length-1) _ (yai (by omega));have:=(yax.1 h6).1;omega
   ·show b.2+0*0≤arr.size;omega
   ·rw [Vec.rq] at hi;rw [Vec.xY row i hi];obtain ⟨y,h6,h7⟩:=h4.get i _ (yai hi);exact ⟨y,by show arr[b.2+i]? =_;rw [h2,yaf];exact h5 i y h6,h7⟩
  | ro row=>
   obtain ⟨h1,vals,arr,e,fr,h3,h4,h6,h5⟩:=this;refine ⟨rfl,?_,fun _=>⟨arr,e,fr,h3,?_,⟨?_,fun hh=>by cases hh⟩,fun i hi=> ?_⟩⟩
   ·rw [yah (by decide)];have:=(yax.1 h3).1;rintro (h|h)
    ·have:x.w.heap.size≤b.1:=h;omega
    ·exact h1 h
   ·show b.2+(Vec.ofList row).n≤arr.size;rw [Vec.rq];exact h6
   ·show b.2+0*0≤arr.size;omega
   ·rw [Vec.rq] at hi;rw [Vec.xY row i hi];obtain ⟨y,h7,h8⟩:=h4.get i _ (yai hi);exact ⟨y,h5 i y h7,h8⟩
  | dw kn=>
   obtain ⟨h1,h2,arr,clock,m0,h3,h4,h5,h6⟩:=this;obtain ⟨e1,e2⟩:=Ov h5;exact ⟨rfl,.inr h1,h2,arr,clock,arr,clock,m0,[],h3,h3,⟨h4.1,h4.2,e2 _⟩,by rw [e1];exact h5,rfl,h6,fun _=>rfl⟩
 refine ⟨Fr.refl x,fun n L h=> ?_,fun n L h _=> ?_,fun n o h=> ?_,fun n L h=> ?_,fun n m Ln Lm hne h1 h2 _ _ hb=> ?_,fun n v e g t sh ow h=> ?_,fun g y h=>(by cases h),fun n L v e g c sh h1 h2=> ?_,fun n L h _ how c e fr hc=> ?_,fun n L v e c sh h1 h2=> ?_,rfl,yds _,fun o h=> ?_,?_⟩
 ·obtain ⟨q,b,rfl,hb,rfl⟩:=wZ h;show q+1<l.length+1;have:=(yat.1 hb).1;omega
 ·obtain ⟨q,b,rfl,hb,rfl⟩:=wZ h;obtain ⟨s,hs,_⟩:=hat q b hb;exact hblk q b s hb hs
 ·show n<l.length+1;rw [hget] at h;split at h
  ·omega
  ·split at h
   ·omega
   ·cases h
 ·obtain ⟨q,b,rfl,hb,rfl⟩:=wZ h;obtain ⟨s,hs,h1⟩:=hat q b hb;exact ⟨_,h1,kK q b s hb hs⟩
 ·obtain ⟨q,b,rfl,hq,rfl⟩:=wZ h1;obtain ⟨q',b',rfl,hq',rfl⟩:=wZ h2;obtain ⟨s,hs,g1⟩:=hat q b hq;obtain ⟨s',hs',g2⟩:=hat q' b' hq';have hb:b.1=b'.1:=hb;have k1:=hok q b s hq hs;have k2:=hok q' b' s' hq' hs';have hro: ∀ {s:Sh} {b:Nat×Nat},Cs ρ (cB bl) x b s→s.yK=false→x.K b.1:=fun {s b} h h'=>by
   cases s with
   | own=>exact h.1
   | ro=>cases h'
   | dw=>exact h.1
  cases hr:s.yK with
  | false=>
   cases hr':s'.yK with
   | false=>
    rcases Nat.lt_or_gt_of_ne (show q≠q' from fun e=>hne (by rw [e])) with hlt|hlt
    ·exact absurd hb (ha.get q q' b b' s s' hlt hq hs hq' hs' hr hr')
    ·exact absurd hb.symm (ha.get q' q b' b s' s hlt hq' hs' hq hs hr' hr)
   | true=>
    have:=hro k1 hr;rw [hb] at this;cases s' with
    | own=>cases hr'
    | ro=>exact absurd this k2.1
    | dw=>cases hr'
  | true=>
   cases s with
   | own=>cases hr
   | dw=>cases hr
   | ro row=>
    cases s' with
    | ro row'=>exact ⟨_,_,_,_,_,_,_,_,_,_,_,_,g1,g2,rfl,fun h=>by cases h⟩
    | own=>exact absurd (hb▸k2.1) k1.1
    | dw=>exact absurd (hb▸k2.1) k1.1
 ·rw [hget] at h;split at h
  ·rw [yb3] at h;obtain ⟨s,_,h⟩:=h;cases s<;>cases h
  ·split at h<;>cases h
 ·obtain ⟨q,b,rfl,hb,rfl⟩:=wZ h1;obtain ⟨s,hs,g1⟩:=hat q b hb;rw [g1] at h2;cases s<;>cases h2;exact ⟨_,h1⟩
 ·obtain ⟨q,b,rfl,hb,rfl⟩:=wZ h;obtain ⟨s,hs,_⟩:=hat q b hb;have hlt:=hblk q b s hb hs;have hKb:x.K b.1:=by
   rcases how with h|h
   ·have:x.w.heap.size≤b.1:=h;omega
   ·exact h
  have k1:=hok q b s hb hs;cases s with
  | own row=>obtain ⟨_,_,_,_,_,h3,_⟩:=k1;rw [h3] at hc;cases hc;rfl
  | ro row=>exact absurd hKb k1.1
  | dw kn=>obtain ⟨_,_,_,_,_,h3,_⟩:=k1;rw [h3] at hc;cases hc
 ·obtain ⟨q,b,rfl,hb,rfl⟩:=wZ h1;obtain ⟨s,hs,g1⟩:=hat q b hb;rw [g1] at h2;cases s<;>cases h2;exact (hok q b _ hb hs).2.1
 ·rw [hget,yah (by omega),yak rfl] at h;cases h;exact ⟨k,rfl⟩
 ·have:(dP k l).gs=k:=by
   unfold Heap.gs;rw [hget,yah (by omega),yak rfl]
  rw [this];exact hG
structure Mv (S:Nat→Prop) (w w':World):Prop where
 os:w'.os=w.os
 tape:w'.tape=w.tape
 output:w'.output=w.output
 size:w.heap.size≤w'.heap.size
 block: ∀k,k<w.heap.size→ ¬S k→w'.heap[k]? =w.heap[k]?
theorem Mv.refl (S:Nat→Prop) (w:World):Mv S w w:=⟨rfl,rfl,rfl,yaa _,fun _ _ _=>rfl⟩
theorem Mv.trans {S:Nat→Prop} {a b c:World} (h:Mv S a b) (k:Mv S b c):Mv S a c:=
 ⟨k.os.trans h.os,k.tape.trans h.tape,k.output.trans h.output,yas h.size k.size,fun j hj h1=>(k.block j (yae hj h.size) h1).trans (h.block j hj h1)⟩
theorem Mv.mono {S S':Nat→Prop} {a b:World} (h:Mv S a b) (hs: ∀k,S k→S' k):Mv S' a b:=⟨h.os,h.tape,h.output,h.size,fun j hj h1=>h.block j hj (fun h2=>h1 (hs j h2))⟩
theorem Mv.of_below {S:Nat→Prop} {w w':World} (h:Below w.heap.size w w'):Mv S w w':=⟨h.os,h.tape,h.output,h.size,fun k hk _=>h.block k hk⟩
structure bL where
 f:FuncId
 args:List AV
 gs:Nat
 base:Nat
 gB:Nat
 res:AV
 gs':Nat
def qA:Nat→Heap→Heap
 | 0,H=>H
 | n+1,H=>qA n (H.alloc .opq)
def zxD (k:Nat) (H:Heap):Heap:=
 match H with
 | ⟨m,nx,gw⟩=>match m.set 0 (.gs k) with
  | .leaf=>⟨.leaf,nx,gw⟩
  | .node a b c=>⟨.node a b c,nx,gw⟩
def bL.heap (e:bL) (H:Heap):Heap:=
 match Nat.beq e.gs e.gs' with
 | true=>qA e.gB H
 | false=>zxD e.gs' (qA e.gB H)
def bL.fits (e:bL) (f:FuncId) (args:List AV) (H:Heap):Bool:=
 match Nat.beq f e.f with
 | false=>false
 | true=>match AV.qE args e.args,Nat.beq H.gs e.gs with
  | true,true=>(match e.gB with
   | 0=>true
   | _+1=>Nat.beq H.nx e.base)
  | _,_=>false
def dW:List bL→FuncId→List AV→Heap→Option (List (AV×Heap))
 | [], _,_,_=>none
 | e::l,f,args,H=>match e.fits f args H with
  | true=>some [(e.res,e.heap H)]
  | false=>dW l f args H
def jq (j:J) (n:Nat) (qs:List Value):J:=fun k=>if n≤k∧k<n+qs.length then some ⟨0,0,0,some (qs.getD (k-n) undef)⟩ else j k
theorem zvn (j:J) (n:Nat):jq j n []=j:=by
 funext k;unfold jq;rw [yah (by simp)]
def Q0 (P:Program) (ρ:Val) (x:Cx) (e:bL):Prop:=
 Enters P e.f∧ ∀(j:J) (H:Heap) (w:World) (vals:List Value),Inv ρ x j H w→H.gs=e.gs→(e.gB≠0→H.nx=e.base)→RL ρ j e.args vals→
  Calls P e.f vals.toArray w fun en w'=> ∃u qs,en= .returned u∧qs.length=e.gB∧R ρ (jq j H.nx qs) e.res u∧x.G e.gs' (jq j H.nx qs) w'∧Mv (fun b=> ¬Mine j b∧x.own b) w w'
theorem Zp: ∀(n:Nat) (H:Heap),(qA n H).nx=H.nx+n∧(qA n H).gw=H.gw∧ ∀k,(qA n H).m.get k=if H.nx≤k∧k<H.nx+n then some .opq else H.m.get k
 | 0,H=>⟨rfl,rfl,fun k=>by rw [yah (by omega)];rfl⟩
 | n+1,H=>by
  obtain ⟨h1,h2,h3⟩:=Zp n (H.alloc .opq);rw [Heap.alloc_eq] at h1 h2 h3;have h1:(qA n ⟨H.m.set H.nx .opq,H.nx+1,H.gw⟩).nx=H.nx+1+n:=h1;refine ⟨?_,?_,fun k=> ?_⟩
  ·show (qA n (H.alloc .opq)).nx=_;rw [Heap.alloc_eq,h1];omega
  ·show (qA n (H.alloc .opq)).gw=_;rw [Heap.alloc_eq];exact h2
  ·show (qA n (H.alloc .opq)).m.get k=_;rw [Heap.alloc_eq,h3];show (if H.nx+1≤k∧k<H.nx+1+n then some Obj.opq else (H.m.set H.nx .opq).get k)=_;rw [T.lC];by_cases h4:H.nx+1≤k∧k<H.nx+1+n
   ·rw [yak h4,yak (by omega)]
   ·rw [yah h4];by_cases h5:k=H.nx
    ·rw [yak h5,yak (by omega)]
    ·rw [yah h5,yah (by omega)]
theorem zs5 (k:Nat) (H:Heap):zxD k H=⟨H.m.set 0 (.gs k),H.nx,H.gw⟩:=by
 obtain ⟨m,nx,gw⟩:=H;show (match m.set 0 (.gs k) with| .leaf=>(⟨.leaf,nx,gw⟩:Heap)| .node a b c=>⟨.node a b c,nx,gw⟩)=_;cases m.set 0 (.gs k)<;>rfl
theorem bL.aaF (e:bL) (H:Heap) (hn:0<H.nx) (hg:H.gs=e.gs):(e.heap H).nx=H.nx+e.gB∧(e.heap H).gw=H.gw∧(e.heap H).gs=e.gs'∧(∀k,0<k→(e.heap H).m.get k=if H.nx≤k∧k<H.nx+e.gB then some .opq else H.m.get k)∧
  ((e.heap H).m.get 0=H.m.get 0∨(e.heap H).m.get 0=some (.gs e.gs')):=by
 obtain ⟨h1,h2,h3⟩:=Zp e.gB H;unfold bL.heap;split
 ·rename_i hb;have hb:=aY hb;refine ⟨h1,h2,?_,fun k _=>h3 k,.inl (by rw [h3,yah (by omega)])⟩;unfold Heap.gs;rw [h3,yah (by omega)];rw [←hb,←hg];rfl
 ·rw [zs5];refine ⟨h1,h2,?_,fun k hk=> ?_,.inr (by show ((qA e.gB H).m.set 0 _).get 0=_;exact T.get_set_same _ _ _)⟩
  ·unfold Heap.gs;rw [T.get_set_same]
  ·show ((qA e.gB H).m.set 0 _).get k=_;rw [T.jw _ _ (by omega),h3]
section
variable {P:Program} {ρ:Val} {x:Cx} {j:J} {H:Heap} {w w':World}
theorem zxw (h:Inv ρ x j H w) (qs:List Value):Sub j (jq j H.nx qs):=fun n L e=>by
 unfold jq;rw [yah (by have:=h.dom n L e;omega)];exact e
theorem vw (qs:List Value) {n:Nat} {L:Loc} (h:jq j H.nx qs n=some L):(j n=some L)∨(H.nx≤n∧n<H.nx+qs.length∧L.q≠none):=by
 unfold jq at h;split at h
 ·rename_i hc;cases h;exact .inr ⟨hc.1,hc.2,by simp⟩
 ·exact .inl h
theorem Inv.ent (h:Inv ρ x j H w) {e:bL} {qs:List Value} (hg:H.gs=e.gs) (hl:qs.length=e.gB) (hG:x.G e.gs' (jq j H.nx qs) w') (hm:Mv (fun b=> ¬Mine j b∧x.own b) w w'):
  Inv ρ x (jq j H.nx qs) (e.heap H) w'∧St j H (jq j H.nx qs) (e.heap H):=by
 obtain ⟨e1,e2,e3,e4,e5⟩:=e.aaF H h.kN hg;have hsub:=zxw h qs;have hold: ∀n L,j n=some L→(e.heap H).m.get n=H.m.get n:=fun n L hn=>by
  rw [e4 n (by have:=h.yN hn;omega),yah (by have:=h.dom n L hn;omega)]
 have hkeep: ∀n L,j n=some L→L.q=none→w'.heap[L.blk]? =w.heap[L.blk]? :=fun n L hn hq=>hm.block _ (h.blk n L hn hq) (fun hh=>hh.1 ⟨n,L,hn,hq,rfl⟩);refine ⟨⟨h.fr.then hm.os hm.output hm.tape hm.size (fun i hi ho=>hm.block i hi (fun hh=>ho hh.2)),fun n L hn=> ?_,fun n L hn hq=> ?_,fun n o hn=> ?_,fun n L hn=> ?_,fun n m Ln Lm hne h1 h2 q1 q2 hb=> ?_,fun n v es g t sh ow hn=> ?_,fun g y hy=> ?_,fun n L v es g c sh h1 h2=> ?_,fun n L hn hq ho c t fr hc=> ?_,fun n L v es c sh h1 h2=> ?_,?_,?_,fun o ho=> ?_,?_⟩,
  hsub,fun n L h1 h2=> ?_,fun n hp h1 h2=>⟨?_,by rw [e2]⟩,by rw [e1];omega⟩
 ·rw [e1];rcases vw qs hn with hn|⟨_,h2,_⟩
  ·have:=h.dom n L hn;omega
  ·omega
 ·rcases vw qs hn with hn|⟨_,_,h3⟩
  ·exact yae (h.blk n L hn hq) hm.size
  ·exact absurd hq h3
 ·rw [e1];rcases ybB n with h0|h0
  ·have:=h.kN;omega
  ·rw [e4 n h0] at hn;split at hn
   ·omega
   ·have:=h.used n o hn;omega
 ·rcases vw qs hn with hn|⟨h1,h2,h3⟩
  ·obtain ⟨o,h4,h5⟩:=h.obj n L hn;refine ⟨o,by rw [hold n L hn];exact h4,?_⟩;rw [e2];exact h5.grow hsub (fun hq=>hkeep n L hn hq)
  ·refine ⟨.opq,?_,h3⟩;rw [e4 n (by have:=h.kN;omega),yak ⟨h1,by omega⟩]
 ·rcases vw qs h1 with h1|⟨_,_,h3⟩
  ·rcases vw qs h2 with h2|⟨_,_,h3⟩
   ·obtain ⟨vn,en,gn,cn,sn,on,vm,em,gm,cm,sm,om,g1,g2,g3⟩:=h.sep n m Ln Lm hne h1 h2 q1 q2 hb;exact ⟨vn,en,gn,cn,sn,on,vm,em,gm,cm,sm,om,by rw [hold n Ln h1];exact g1,by rw [hold m Lm h2];exact g2,by rw [e2];exact g3⟩
   ·exact absurd q2 h3
  ·exact absurd q1 h3
 ·rw [e1];rcases ybB n with h0|h0
  ·subst h0;rcases e5 with e5|e5
   ·rw [e5] at hn;obtain ⟨kk,hk⟩:=h.z0 _ hn;cases hk
   ·rw [e5] at hn;cases hn
  ·rw [e4 n h0] at hn;split at hn
   ·cases hn
   ·have:=h.sU n v es g t sh ow hn;omega
 ·rw [e2] at hy;rw [e1];have:=h.pI g y hy;omega
 ·rcases vw qs h1 with h1|⟨h3,h4,_⟩
  ·rw [hold n L h1] at h2;obtain ⟨Lg,qH⟩:=h.lX n L v es g c sh h1 h2;exact ⟨Lg,hsub _ _ qH⟩
  ·rw [e4 n (by have:=h.kN;omega),yak ⟨h3,by omega⟩] at h2;cases h2
 ·rcases vw qs hn with hn|⟨_,_,h3⟩
  ·rw [hkeep n L hn hq] at hc;exact h.fz n L hn hq ho c t fr hc
  ·exact absurd hq h3
 ·rcases vw qs h1 with h1|⟨h3,h4,_⟩
  ·rw [hold n L h1] at h2;exact h.pW n L v es c sh h1 h2
  ·rw [e4 n (by have:=h.kN;omega),yak ⟨h3,by omega⟩] at h2;cases h2
 ·unfold jq;rw [yah (by have:=h.kN;omega)];exact h.n0
 ·rw [e1];have:=h.kN;omega
 ·rcases e5 with e5|e5
  ·rw [e5] at ho;exact h.z0 o ho
  ·rw [e5] at ho;cases ho;exact ⟨_,rfl⟩
 ·rw [e3];exact hG
 ·rcases vw qs h1 with h1|⟨h3,_,_⟩
  ·rw [h1] at h2;cases h2
  ·exact h3
 ·rw [e4 n hp,yah (by omega)]
theorem XD {l:List bL} (h: ∀e∈l,Q0 P ρ x e):xP P ρ x (dW l):=by
 intro f args H r hr
 induction l with
 | nil=>cases hr
 | cons e l ih=>
  unfold dW at hr;split at hr
  ·rename_i hf;cases hr;obtain ⟨h1,h2⟩:=h e (by simp);unfold bL.fits at hf;split at hf
   ·cases hf
   rename_i uz;have uz:=aY uz;subst uz;split at hf
   case h_2=>cases hf
   rename_i ha hgs;have ha:=AV.vL ha;have hgs:=aY hgs;subst ha;refine ⟨h1,fun k hk j w vals hi hv=> ?_⟩;have hk:Ob.den ρ (k e.res (e.heap H)):=hk;refine ya7 (h2 j H w vals hi hgs (fun hn=> ?_) hv) fun en w' he=> ?_
   ·split at hf
    ·rename_i h0;exact absurd h0 hn
    ·exact aY hf
   ·obtain ⟨u,qs,rfl,g1,g2,g3,g4⟩:=he;obtain ⟨g5,g6⟩:=hi.ent hgs g1 g3 g4;exact ⟨u,rfl,e.res,e.heap H,_,g2,g5,g6,hk⟩
  ·exact ih (fun e' he'=>h e' (by simp [he'])) hr
end
structure bO where
 fact:Nat→(Nat→Option Value)→(Nat→Prop)→World→Prop
 loc: ∀k q q' F w w',fact k q F w→(∀n v,q n=some v→q' n=some v)→(∀b,F b→w'.heap[b]? =w.heap[b]?)→w.heap.size≤w'.heap.size→fact k q' F w'
def kP (j:J) (n:Nat):Option Value:=(j n).bind (·.q)
def bO.G (g:bO) (k:Nat) (j:J) (w:World):Prop:= ∃F:Nat→Prop,(∀b,F b→b<w.heap.size∧ ¬Mine j b)∧g.fact k (kP j) F w
theorem zt1 {j j':J} (h:Sub j j') {n:Nat} {v:Value} (hv:kP j n=some v):kP j' n=some v:=by
 unfold kP at hv ⊢;rw [ycY] at hv;obtain ⟨L,h1,h2⟩:=hv;rw [h n L h1];exact h2
def ng (w:World) (K:Nat→Prop) (g:bO):Cx:=⟨w,K,g.G,fun k j j' w w' hG hs hle hb hn=>by
 obtain ⟨F,h1,h2⟩:=hG;refine ⟨F,fun b hF=>⟨yae (h1 b hF).1 hle,fun hm=> ?_⟩,g.loc _ _ _ _ _ _ h2 (fun n v hv=>zt1 hs hv) (fun b hF=>hb b (h1 b hF).1 (h1 b hF).2) hle⟩;rcases hn b hm with hm|hm
 ·exact (h1 b hF).2 hm
 ·have:=(h1 b hF).1;omega⟩
def bO.none:bO:=⟨fun _ _ _ _=>True,fun _ _ _ _ _ _ _ _ _ _=>trivial⟩
theorem Px {j:J} {n:Nat} {qs:List Value} {b:Nat} (hj: ∀k,n≤k→j k=none) (h:Mine (jq j n qs) b):Mine j b:=by
 obtain ⟨k,L,h1,h2,h3⟩:=h;unfold jq at h1;split at h1
 ·cases h1;cases h2
 ·exact ⟨k,L,h1,h2,h3⟩
theorem zus {P:Program} {ρ:Val} {w0:World} {K:Nat→Prop} {g:bO} {e:bL} (he:Enters P e.f)
    (h: ∀(j:J) (w:World) (vals:List Value) (F:Nat→Prop) (n:Nat),RL ρ j e.args vals→(∀k,n≤k→j k=none)→(e.gB≠0→n=e.base)→(∀b,F b→b<w.heap.size)→w0.heap.size≤w.heap.size→g.fact e.gs (kP j) F w→(∀i,i<w0.heap.size→ ¬K i→w.heap[i]? =w0.heap[i]?)→
      Calls P e.f vals.toArray w fun en w'=> ∃u qs F',en= .returned u∧qs.length=e.gB∧R ρ (jq j n qs) e.res u∧g.fact e.gs' (kP (jq j n qs)) F' w'∧(∀b,F' b→b<w'.heap.size∧(F b∨w.heap.size≤b))∧Mv (fun b=>F b∧(w0.heap.size≤b∨K b)) w w'):
    Q0 P ρ (ng w0 K g) e:=by
  refine ⟨he,fun j H w vals hi hgs hb hv=> ?_⟩;have hG:=hi.nY;rw [hgs] at hG;obtain ⟨F,h1,h2⟩:=hG;have hnone: ∀k,H.nx≤k→j k= .none:=fun k hk=>by
    cases hjk:j k with
    | none=>rfl
    | some L=>have:=hi.dom k L hjk;omega
  refine ya7 (h j w vals F H.nx hv hnone hb (fun b hF=>(h1 b hF).1) hi.fr.size h2 hi.fr.old) fun en w' he'=> ?_;obtain ⟨u,qs,F',rfl,g1,g2,g3,g4,g5⟩:=he';refine ⟨u,qs,rfl,g1,g2,⟨F',fun b hF'=>⟨(g4 b hF').1,fun hm=> ?_⟩,g3⟩,g5.mono fun b hb=>⟨(h1 b hb.1).2,hb.2⟩⟩;have hm:=Px hnone hm;rcases (g4 b hF').2 with hF|hF
  · exact (h1 b hF).2 hm
  · obtain ⟨k,L,k1,k2,k3⟩:=hm;have:=hi.blk k L k1 k2;omega
end Go.Dw
namespace Go.Dw
open Go.RowKit
def zwM:Loc:=⟨0,0,0,none⟩
def fq (j:J) (n:Nat):Loc:=(j n).getD zwM
mutual
def AV.exact:AV→Bool
 | .emp| .nM _| .mg=>false
 | .sl _ _ _ (.upto _)=>true
 | .func _ a b=>match AV.rZ a with|true=>AV.rZ b|false=>false
 | .iface _ v=>AV.exact v
 | .agg l=>AV.rZ l
 | .aK l=>AV.rZ l
 | _=>true
def AV.rZ:List AV→Bool
 | [] => true
 | a::l=>match AV.exact a with|true=>AV.rZ l|false=>false
end
mutual
def AV.val (ρ:Val) (lc:Nat→Loc):AV→Value
 | .bool b=> .bool (b.den ρ)
 | .int k n=> .int k (n.den ρ)
 | .str s=> .string ⟨(s.map UInt8.ofNat).toArray⟩
 | .iI=> .pointer none
 | .ptr n o=> .pointer (some ⟨(lc n).blk,(lc n).off+o,none⟩)
 | .dz=> .slice none 0 0
 | .sl n o len cap=> .slice (some ⟨(lc n).blk,(lc n).off+o,none⟩) len (vF (lc n) cap)
 | .emp| .nM _| .mg=>undef
 | .kM=> .map none
 | .map n=> .map (some (lc n).blk)
 | .func f first cap=> .func (.func f) (AV.bK ρ lc first).toArray (AV.bK ρ lc cap).toArray
 | .lH=> .nilFunc
 | .jX=> .nilIface
 | .iface t x=> .iface t (AV.val ρ lc x)
 | .agg l=> .agg (AV.bK ρ lc l).toArray
 | .aK l=> .tuple (AV.bK ρ lc l).toArray
 | .cst i _=>ρ.v i
 | .opq n _=>(lc n).q.getD undef
 | .gH _ _=>undef
 | .junk=>undef
 | .sx i _ _ _=>ρ.v i
def AV.bK (ρ:Val) (lc:Nat→Loc):List AV→List Value
 | [] => []
 | a::l=>AV.val ρ lc a::AV.bK ρ lc l
end
theorem gQ {j:J} {n:Nat} {L:Loc} (h:j n=some L):fq j n=L:=by unfold fq;rw [h];rfl
mutual
theorem zQ {ρ:Val} {j:J}: ∀ {a:AV} {v:Value},a.exact=true→R ρ j a v→v=a.val ρ (fq j)
 | .bool _,_,_,r=>r
 | .int _ _,_,_,r=>r
 | .str _,_,_,r=>r.2
 | .iI,_,_,r=>r
 | .ptr _ _,_,_,r=>by obtain ⟨L,e,rfl⟩:=r;unfold AV.val;rw [gQ e]
 | .dz,_,_,r=>r
 | .sl _ _ _ _,_,_,r=>by obtain ⟨L,e,_,rfl⟩:=r;unfold AV.val;rw [gQ e]
 | .emp,_,h,_=>by cases h
 | .nM _,_,h,_=>by cases h
 | .mg,_,h,_=>by cases h
 | .kM,_,_,r=>r
 | .map _,_,_,r=>by obtain ⟨L,e,rfl⟩:=r;unfold AV.val;rw [gQ e]
 | .func f a b,_,h,r=>by
  obtain ⟨l,m,rfl,h1,h2⟩:=r;unfold AV.exact at h;split at h
  ·rename_i ha;unfold AV.val;rw [vJ ha h1,vJ h h2]
  ·cases h
 | .lH,_,_,r=>r
 | .jX,_,_,r=>r
 | .iface t x,_,h,r=>by obtain ⟨y,rfl,h1⟩:=r;unfold AV.exact at h;unfold AV.val;rw [zQ h h1]
 | .agg l,_,h,r=>by obtain ⟨m,rfl,h1⟩:=r;unfold AV.exact at h;unfold AV.val;rw [vJ h h1]
 | .aK l,_,h,r=>by obtain ⟨m,rfl,h1⟩:=r;unfold AV.exact at h;unfold AV.val;rw [vJ h h1]
 | .cst _ _,_,_,r=>r.1
 | .opq _ _,_,_,r=>by obtain ⟨⟨L,e,h1⟩,_⟩:=r;unfold AV.val;rw [gQ e,h1];rfl
 | .gH _ _,_,_,r=>r.1
 | .junk,_,_,r=>r.elim
 | .sx _ _ _ _,_,_,r=>r.1
theorem vJ {ρ:Val} {j:J}: ∀ {l:List AV} {m:List Value},AV.rZ l=true→RL ρ j l m→m=AV.bK ρ (fq j) l
 | [], _,_,r=>r
 | a::l,_,h,r=>by
  obtain ⟨v,m,rfl,h1,h2⟩:=r;unfold AV.rZ at h;split at h
  ·rename_i ha;unfold AV.bK;rw [zQ ha h1,vJ h h2]
  ·cases h
end
mutual
def AV.small:AV→Bool
 | .bool b=>b.small
 | .func _ a b=>match AV.dX a with|true=>AV.dX b|false=>false
 | .iface _ v=>AV.small v
 | .agg l=>AV.dX l
 | .aK l=>AV.dX l
 | .gH c _=>c.small
 | _=>true
def AV.dX:List AV→Bool
 | [] => true
 | a::l=>match AV.small a with|true=>AV.dX l|false=>false
end
theorem Zz {ρ:Val} {j:J} (m:Nat→Bool) {sz:Nat} {b:Option Addr} {len:Nat}: ∀ {l:List (SE×Nat)},(rX (ρ.mark m) j sz b len l↔rX ρ j sz b len l)
 | [] => yb6
 | p::l=>by unfold rX;rw [Zz m (l:=l),SE.jd]
mutual
theorem mG {ρ:Val} {j:J} (m:Nat→Bool): ∀ {a:AV} {v:Value},a.small=true→(R (ρ.mark m) j a v↔R ρ j a v)
 | .bool b,v,h=>by show v=_↔v=_;rw [SB.jd ρ m b h]
 | .int k n,v,_=>by show v=_↔v=_;rw [SE.jd]
 | .str _,_,_=>yb6
 | .iI,_,_=>yb6
 | .ptr _ _,_,_=>yb6
 | .dz,_,_=>yb6
 | .sl _ _ _ _,_,_=>yb6
 | .emp,_,_=>yb6
 | .nM n,_,_=>by simp only [R,SE.jd]
 | .mg,_,_=>yb6
 | .kM,_,_=>yb6
 | .map _,_,_=>yb6
 | .func f a b,v,h=>by
  unfold AV.small at h;split at h
  ·rename_i ha;constructor
   ·rintro ⟨l,k,rfl,h1,h2⟩;exact ⟨l,k,rfl,(jJ m ha).1 h1,(jJ m h).1 h2⟩
   ·rintro ⟨l,k,rfl,h1,h2⟩;exact ⟨l,k,rfl,(jJ m ha).2 h1,(jJ m h).2 h2⟩
  ·cases h
 | .lH,_,_=>yb6
 | .jX,_,_=>yb6
 | .iface t x,v,h=>by
  unfold AV.small at h;constructor
  ·rintro ⟨y,rfl,h1⟩;exact ⟨y,rfl,(mG m h).1 h1⟩
  ·rintro ⟨y,rfl,h1⟩;exact ⟨y,rfl,(mG m h).2 h1⟩
 | .agg l,v,h=>by
  unfold AV.small at h;constructor
  ·rintro ⟨y,rfl,h1⟩;exact ⟨y,rfl,(jJ m h).1 h1⟩
  ·rintro ⟨y,rfl,h1⟩;exact ⟨y,rfl,(jJ m h).2 h1⟩
 | .aK l,v,h=>by
  unfold AV.small at h;constructor
  ·rintro ⟨y,rfl,h1⟩;exact ⟨y,rfl,(jJ m h).1 h1⟩
  ·rintro ⟨y,rfl,h1⟩;exact ⟨y,rfl,(jJ m h).2 h1⟩
 | .cst i l,v,_=>by
  show (v=ρ.v i∧_∧_)↔(v=ρ.v i∧_∧_);simp only [SE.jd]
 | .opq _ _,_,_=>by simp only [R,SE.jd]
 | .junk,_,_=>yb6
 | .sx i n sz l,v,_=>by
  show (v=ρ.v i∧_)↔(v=ρ.v i∧_);simp only [SE.jd,Zz]
 | .gH c w,v,h=>by show (v=undef∧_=_)↔(v=undef∧_=_);rw [SB.jd ρ m c h]
theorem jJ {ρ:Val} {j:J} (m:Nat→Bool): ∀ {l:List AV} {v:List Value},AV.dX l=true→(RL (ρ.mark m) j l v↔RL ρ j l v)
 | [], _,_=>yb6
 | a::l,v,h=>by
  unfold AV.dX at h;split at h
  ·rename_i ha;constructor
   ·rintro ⟨y,k,rfl,h1,h2⟩;exact ⟨y,k,rfl,(mG m ha).1 h1,(jJ m h).1 h2⟩
   ·rintro ⟨y,k,rfl,h1,h2⟩;exact ⟨y,k,rfl,(mG m ha).2 h1,(jJ m h).2 h2⟩
  ·cases h
end
def zx1:Option AV→Bool
 | none=>true
 | some a=>a.small
def EJ:List (AV×Option AV)→Bool
 | [] => true
 | e::l=>match e.1.small,zx1 e.2 with|true,true=>EJ l|_,_=>false
theorem JR {ρ:Val} {j:J} (m:Nat→Bool): ∀ {l:List (AV×Option AV)} {v:List (Int×Option Value)},EJ l=true→(RX (ρ.mark m) j l v↔RX ρ j l v)
 | [], _,_=>yb6
 | e::l,v,h=>by
  unfold EJ at h;split at h
  ·rename_i h1 h2;have ho: ∀o,RO (ρ.mark m) j e.2 o↔RO ρ j e.2 o:=fun o=>by
    cases he:e.2 with
    | none=>exact yb6
    | some a=>
     rw [he] at h2;constructor
     ·rintro ⟨y,rfl,hy⟩;exact ⟨y,rfl,(mG m h2).1 hy⟩
     ·rintro ⟨y,rfl,hy⟩;exact ⟨y,rfl,(mG m h2).2 hy⟩
   constructor
   ·rintro ⟨x,o,k,rfl,g1,g2,g3⟩;exact ⟨x,o,k,rfl,(mG m h1).1 g1,(ho o).1 g2,(JR m h).1 g3⟩
   ·rintro ⟨x,o,k,rfl,g1,g2,g3⟩;exact ⟨x,o,k,rfl,(mG m h1).2 g1,(ho o).2 g2,(JR m h).2 g3⟩
  ·cases h
def Sh.small:Sh→Bool
 | .own row=>AV.dX row
 | .ro row=>AV.dX row
 | .dw kn=>EJ kn
def fe:List Sh→Bool
 | [] => true
 | s::l=>match s.small with|true=>fe l|false=>false
theorem OC {ρ:Val} {j:J} {x:Cx} (m:Nat→Bool): ∀ {bl:List (Nat×Nat)} {l:List Sh},fe l=true→tT ρ j x bl l→tT (ρ.mark m) j x bl l
 | [], [], _,_=>trivial
 | [], _::_,_,h=>h.elim
 | _::_,[],_,h=>h.elim
 | b::bl,s::l,hs,h=>by
  unfold fe at hs;split at hs
  ·rename_i h0;refine ⟨?_,OC m hs h.2⟩;have h1:=h.1;cases s with
   | own row=>obtain ⟨a1,a2,vals,arr,e,a3,a4,a5⟩:=h1;exact ⟨a1,a2,vals,arr,e,a3,(jJ m h0).2 a4,a5⟩
   | ro row=>obtain ⟨a1,vals,arr,e,fr,a3,a4,a5,a6⟩:=h1;exact ⟨a1,vals,arr,e,fr,a3,(jJ m h0).2 a4,a5,a6⟩
   | dw kn=>obtain ⟨a1,a2,arr,clock,m0,a3,a4,a5,a6⟩:=h1;exact ⟨a1,a2,arr,clock,m0,a3,a4,(JR m h0).2 a5,a6⟩
  ·cases hs
theorem zmn {ρ:Val} (m:Nat→Bool) {a:AV} {v:Value} {j:J} (hs:a.small=true) (hx:a.exact=true) (h:R (ρ.mark m) j a v):v=a.val ρ (fq j):=zQ hx ((mG m hs).1 h)
def Fs (P:Program) (ρ:Val) (w0:World) (K:Nat→Prop) (g:bO) (e:bL):Prop:=
 Enters P e.f∧ ∀(j:J) (w:World) (vals:List Value) (F:Nat→Prop) (n:Nat),RL ρ j e.args vals→(∀k,n≤k→j k=none)→(e.gB≠0→n=e.base)→(∀b,F b→b<w.heap.size)→w0.heap.size≤w.heap.size→g.fact e.gs (kP j) F w→(∀i,i<w0.heap.size→ ¬K i→w.heap[i]? =w0.heap[i]?)→
   Calls P e.f vals.toArray w fun en w'=> ∃u qs F',en= .returned u∧qs.length=e.gB∧R ρ (jq j n qs) e.res u∧g.fact e.gs' (kP (jq j n qs)) F' w'∧(∀b,F' b→b<w'.heap.size∧(F b∨w.heap.size≤b))∧Mv (fun b=>F b∧(w0.heap.size≤b∨K b)) w w'
def J5 (P:Program) (ρ:Val) (w0:World) (K:Nat→Prop) (g:bO):List bL→Prop
 | [] => True
 | e::l=>Fs P ρ w0 K g e∧J5 P ρ w0 K g l
def eZ:List bL→Bool
 | [] => true
 | e::l=>match AV.dX e.args,e.res.small with|true,true=>eZ l|_,_=>false
theorem NY {P:Program} {ρ:Val} {w0:World} {K:Nat→Prop} {g:bO} (m:Nat→Bool): ∀ {l:List bL},eZ l=true→J5 P ρ w0 K g l→ ∀e∈l,Q0 P (ρ.mark m) (ng w0 K g) e
 | [], _,_,e,h=>by cases h
 | e0::l,hs,ho,e,h=>by
  unfold eZ at hs;split at hs
  case h_2=>cases hs
  rename_i h1 h2;rcases yaj.1 h with rfl|h
  ·refine zus ho.1.1 fun j w vals F n hv hn hb hF hsz hf hold=> ?_;refine ya7 (ho.1.2 j w vals F n ((jJ m h1).1 hv) hn hb hF hsz hf hold) fun en w' he=> ?_;obtain ⟨u,qs,F',e1,e2,e3,e4⟩:=he;exact ⟨u,qs,F',e1,e2,(mG m h2).2 e3,e4⟩
  ·exact NY m hs ho.2 e h
theorem zkb {P:Program} {ρ:Val} {w0:World} {K:Nat→Prop} {g:bO} {f:FuncId} {args:List AV} {gs base:Nat} {res:AV} (he:Enters P f)
  (h: ∀(j:J) (w:World) (vals:List Value) (F:Nat→Prop),RL ρ j args vals→g.fact gs (kP j) F w→Calls P f vals.toArray w fun en w'=> ∃u,en= .returned u∧R ρ j res u∧Below w.heap.size w w'):
  Fs P ρ w0 K g ⟨f,args,gs,base,0,res,gs⟩:=by
 refine ⟨he,fun j w vals F n hv hn _ hF hsz hfact _=> ?_⟩;refine ya7 (h j w vals F hv hfact) fun en w' he'=> ?_;obtain ⟨u,rfl,h1,h2⟩:=he';refine ⟨u,[],F,rfl,rfl,by rw [zvn];exact h1,?_,fun b hb=>⟨yae (hF b hb) h2.size,.inl hb⟩,Mv.of_below h2⟩;rw [zvn];exact g.loc _ _ _ _ _ _ hfact (fun _ _ h=>h) (fun b hb=>h2.block b (hF b hb)) h2.size
def Row (w:World) (L:Loc) (vals:List Value):Prop:= ∃arr e fr,w.heap[L.blk]? =some (.cells arr e fr)∧ ∀(i:Nat) (y:Value),vals[i]? =some y→arr[L.off+i]? =some y
def Own (w:World) (b:Nat) (vals:List Value):Prop:= ∃(arr:Array Value) (e:TypeId),w.heap[b]? =some (.cells arr e (0,0))∧ ∀(i:Nat) (y:Value),vals[i]? =some y→arr[i]? =some y
def Bu:List (Nat×List AV)→Bool
 | [] => true
 | r::l=>match AV.rZ r.2,AV.dX r.2 with|true,true=>Bu l|_,_=>false
def Jv:List (AV×Option AV)→Bool
 | [] => true
 | e::l=>match e.1.exact,(match e.2 with|none=>true|some a=>a.exact) with|true,true=>Jv l|_,_=>false
def Bz:List (Nat×List (AV×Option AV))→Bool
 | [] => true
 | r::l=>match Jv r.2,EJ r.2 with|true,true=>Bz l|_,_=>false
def jm:List Leaf→Bool
 | [] => true
 | l::r=>match l.v.exact,l.v.small,Bu l.rows,Bz l.maps with|true,true,true,true=>jm r|_,_,_,_=>false
def intOf:Value→Int
 | .int _ n=>n
 | _=>0
def JW (ρ:Val) (lc:Nat→Loc):List (AV×Option AV)→List (Int×Option Value)
 | [] => []
 | e::l=>(intOf (e.1.val ρ lc),e.2.map (AV.val ρ lc))::JW ρ lc l
theorem zvw {ρ:Val} {j:J}: ∀ {l:List (AV×Option AV)} {m:List (Int×Option Value)},Jv l=true→RX ρ j l m→m=JW ρ (fq j) l
 | [], _,_,r=>r
 | e::l,_,h,r=>by
  obtain ⟨x,o,k,rfl,g1,g2,g3⟩:=r;unfold Jv at h;split at h
  case h_2=>cases h
  rename_i h1 h2;unfold JW;rw [zvw h g3,←zQ h1 g1];cases he:e.2 with
  | none=>rw [he] at g2;have g2:o=none:=g2;rw [g2];rfl
  | some a=>
   rw [he] at g2 h2;obtain ⟨v,rfl,g4⟩:=g2;rw [zQ h2 g4];rfl
def Qz (ρ:Val) (j:J) (K:Nat→Prop) (w0 w:World):List (Nat×List AV)→Prop
 | [] => True
 | r::l=>(∀L,j r.1=some L→Row w L (AV.bK ρ (fq j) r.2)∧((w0.heap.size≤L.blk∨K L.blk)→L.off=0→Own w L.blk (AV.bK ρ (fq j) r.2)))∧Qz ρ j K w0 w l
def QC (ρ:Val) (j:J) (w0 w:World):List (Nat×List (AV×Option AV))→Prop
 | [] => True
 | r::l=>(∀L,j r.1=some L→ ∃arr clock gq kG,w.heap[L.blk]? =some (.map arr clock)∧w0.heap[L.blk]? =some (.map gq kG)∧(mE arr∧pq arr clock)∧ ∀k,eF arr k=uJ (eF gq) (JW ρ (fq j) r.2) k)∧QC ρ j w0 w l
theorem Nt: ∀ {ls:List Leaf} {i:Nat} {l:Leaf},jm ls=true→ls[i]? =some l→l.v.exact=true∧l.v.small=true∧Bu l.rows=true∧Bz l.maps=true
 | [], _,_,_,h=>by cases h
 | x::r,i,l,hx,h=>by
  unfold jm at hx;split at hx
  case h_2=>cases hx
  rename_i h1 h2 h3 h4;cases i with
  | zero=>cases h;exact ⟨h1,h2,h3,h4⟩
  | succ i=>exact Nt hx (by simpa using h)
theorem WU {ρ:Val} {m:Nat→Bool} {j:J} {x:Cx} {K:Nat→Prop} {H:Heap} {w:World} (hxw: ∀b,x.own b↔(x.w.heap.size≤b∨K b)) (hi:Inv (ρ.mark m) x j H w): ∀ {rows:List (Nat×List AV)},Bu rows=true→qj H rows=true→Qz ρ j K x.w w rows
 | [], _,_=>trivial
 | r::l,hx,ha=>by
  unfold Bu at hx;split at hx
  case h_2=>cases hx
  rename_i h1 h2;unfold qj at ha;split at ha
  case h_2=>cases ha
  rename_i h3 _;refine ⟨fun L hL=> ?_,WU hxw hi hx ha⟩;obtain ⟨vals,arr,e,fr,g1,g2,g3,_,g5⟩:=hi.MZ hL h3;have hv:=vJ h1 ((jJ m h2).1 g2);rw [hv] at g3;refine ⟨⟨arr,e,fr,g1,g3⟩,fun ho h0=> ?_⟩;have:=g5 ((hxw _).2 ho);subst this;exact ⟨arr,e,g1,fun i y hy=>by have:=g3 i y hy;rwa [h0,yaf] at this⟩
theorem XV {ρ:Val} {m:Nat→Bool} {j:J} {x:Cx} {H:Heap} {w:World} (hi:Inv (ρ.mark m) x j H w): ∀ {maps:List (Nat×List (AV×Option AV))},Bz maps=true→zw H maps=true→QC ρ j x.w w maps
 | [], _,_=>trivial
 | r::l,hx,ha=>by
  unfold Bz at hx;split at hx
  case h_2=>cases hx
  rename_i h1 h2;unfold zw at ha;split at ha
  case h_2=>cases ha
  rename_i h3;refine ⟨fun L hL=> ?_,XV hi hx ha⟩;obtain ⟨arr,clock,gq,kG,m1,g1,g2,g3,g4,g5⟩:=hi.abd hL h3;have hv:=zvw h1 ((JR m h2).1 g4);rw [hv] at g5;exact ⟨arr,clock,gq,kG,g1,g2,g3,g5⟩
mutual
def AV.names:AV→List Nat
 | .ptr n _=> [n]
 | .sl n _ _ _=> [n]
 | .map n=> [n]
 | .opq n _=> [n]
 | .func _ a b=>AV.nD a++AV.nD b
 | .iface _ v=>AV.names v
 | .agg l=>AV.nD l
 | .aK l=>AV.nD l
 | _=> []
def AV.nD:List AV→List Nat
 | [] => []
 | a::l=>AV.names a++AV.nD l
end
mutual
theorem MF {ρ:Val} {j:J}: ∀ {a:AV} {v:Value},R ρ j a v→ ∀n∈a.names,j n=some (fq j n)
 | .bool _,_,_,n,h=>by cases h
 | .int _ _,_,_,n,h=>by cases h
 | .str _,_,_,n,h=>by cases h
 | .iI,_,_,n,h=>by cases h
 | .ptr m o,_,r,n,h=>by
  obtain ⟨L,e,_⟩:=r;have h:n∈ [m]:=h;rw [yaI] at h;subst h;rw [gQ e];exact e
 | .dz,_,_,n,h=>by cases h
 | .sl m _ _ _,_,r,n,h=>by
  obtain ⟨L,e,_⟩:=r;have h:n∈ [m]:=h;rw [yaI] at h;subst h;rw [gQ e];exact e
 | .emp,_,_,n,h=>by cases h
 | .nM _,_,_,n,h=>by cases h
 | .mg,_,_,n,h=>by cases h
 | .kM,_,_,n,h=>by cases h
 | .map m,_,r,n,h=>by
  obtain ⟨L,e,_⟩:=r;have h:n∈ [m]:=h;rw [yaI] at h;subst h;rw [gQ e];exact e
 | .func f a b,_,r,n,h=>by
  obtain ⟨l,m,_,h1,h2⟩:=r;have h:n∈AV.nD a++AV.nD b:=h;rcases ya2.1 h with h|h
  ·exact AQ h1 n h
  ·exact AQ h2 n h
 | .lH,_,_,n,h=>by cases h
 | .jX,_,_,n,h=>by cases h
 | .iface t x,_,r,n,h=>by obtain ⟨y,_,h1⟩:=r;exact MF h1 n h
 | .agg l,_,r,n,h=>by obtain ⟨y,_,h1⟩:=r;exact AQ h1 n h
 | .aK l,_,r,n,h=>by obtain ⟨y,_,h1⟩:=r;exact AQ h1 n h
 | .cst _ _,_,_,n,h=>by cases h
 | .opq m _,_,r,n,h=>by
  obtain ⟨⟨L,e,_⟩,_⟩:=r;have h:n∈ [m]:=h;rw [yaI] at h;subst h;rw [gQ e];exact e
 | .gH _ _,_,_,n,h=>by cases h
 | .junk,_,_,n,h=>by cases h
 | .sx _ _ _ _,_,_,n,h=>by cases h
theorem AQ {ρ:Val} {j:J}: ∀ {l:List AV} {m:List Value},RL ρ j l m→ ∀n∈AV.nD l,j n=some (fq j n)
 | [], _,_,n,h=>by cases h
 | a::l,_,r,n,h=>by
  obtain ⟨v,m,_,h1,h2⟩:=r;have h:n∈AV.names a++AV.nD l:=h;rcases ya2.1 h with h|h
  ·exact MF h1 n h
  ·exact AQ h2 n h
end
def Pk (j:J):List (Nat×List AV)→Prop
 | [] => True
 | r::l=>(∀L,j r.1=some L→ ∀n∈AV.nD r.2,j n=some (fq j n))∧Pk j l
theorem Vd {ρ:Val} {j:J} {x:Cx} {H:Heap} {w:World} (hi:Inv ρ x j H w): ∀ {rows:List (Nat×List AV)},qj H rows=true→Pk j rows
 | [], _=>trivial
 | r::l,ha=>by
  unfold qj at ha;split at ha
  case h_2=>cases ha
  rename_i h3 _;refine ⟨fun L hL=> ?_,Vd hi ha⟩;obtain ⟨vals,arr,e,fr,g1,g2,_⟩:=hi.MZ hL h3;exact AQ g2
theorem Bf {H:Heap}: ∀ {l:List (Nat×List AV)},qj H l=true→ ∀ {r:Nat×List AV},r∈l→xH H r.1 r.2=true
 | [], _,_,h=>by cases h
 | x::l,ha,r,h=>by
  unfold qj at ha;split at ha
  case h_2=>cases ha
  rename_i h1 _;rcases yaj.1 h with rfl|h
  ·exact h1
  ·exact Bf ha h
theorem U2 {H:Heap}: ∀ {l:List (Nat×List (AV×Option AV))},zw H l=true→ ∀ {r:Nat×List (AV×Option AV)},r∈l→Cj H r.1 r.2=true
 | [], _,_,h=>by cases h
 | x::l,ha,r,h=>by
  unfold zw at ha;split at ha
  case h_2=>cases ha
  rename_i h1;rcases yaj.1 h with rfl|h
  ·exact h1
  ·exact U2 ha h
structure Cq (ρ:Val) (w0:World) (K:Nat→Prop) (g:bO) (bl:List (Nat×Nat)) (l:Leaf) (e:Ending) (w':World) (j:J):Prop where
 ret:e= .returned (l.v.val ρ (fq j))
 sub:Sub (cB bl) j
 rows:Qz ρ j K w0 w' l.rows
 maps:QC ρ j w0 w' l.maps
 names: ∀n∈l.v.names,j n=some (fq j n)
 MX:Pk j l.rows
 apart: ∀r∈l.rows,∀r'∈l.rows,r.1≠r'.1→ ∀L L',j r.1=some L→j r'.1=some L'→L.blk=L'.blk→ ¬(w0.heap.size≤L.blk∨K L.blk)
 ack: ∀r∈l.rows,∀r'∈l.maps,∀L L',j r.1=some L→j r'.1=some L'→L.blk≠L'.blk
 mine: ∀r∈l.rows,∀L,j r.1=some L→Mine j L.blk
 fresh: ∀n∈l.own,∀L,j n=some L→(w0.heap.size≤L.blk∨K L.blk)∧L.off=0
 nY:g.G l.gs j w'
 mv:Mv K w0 w'
def JK (n:Nat):List (List (SB×Bool)×Nat)→List (List (SB×Bool)×Nat)
 | [] => []
 | p::l=>(p.1.drop n,p.2)::JK n l
def Ob.ways (asm:List (SB×Bool)) (o:Ob):Option (List (List (SB×Bool)×Nat)):=
 match o.paths asm with
 | some l=>some (JK asm.length l)
 | none=>none
theorem NZ {n:Nat}: ∀ {l:List (List (SB×Bool)×Nat)} {p:List (SB×Bool)×Nat},p∈l→(p.1.drop n,p.2)∈JK n l
 | [], _,h=>by cases h
 | q::l,p,h=>by
  unfold JK;rcases yaj.1 h with rfl|h
  ·exact ya0 ..
  ·exact ya3 _ (NZ h)
theorem Y7 {ρ:Val} {w:World} {K:Nat→Prop} {g:bO} {bl:List (Nat×Nat)} {l:Leaf} {m:Nat→Bool} {H H':Heap} {j':J} {u:Value} {v:AV} {w':World}
  (x1:l.v.exact=true) (x2:l.v.small=true) (x3:Bu l.rows=true) (x4:Bz l.maps=true)
  (h1:R (ρ.mark m) j' v u) (h2:Inv (ρ.mark m) (ng w K g) j' H' w') (h3:St (cB bl) H j' H') (h4:l.fits v H'=true):Cq ρ w K g bl l (.returned u) w' j':=by
 obtain ⟨k1,k2,k3,k4,k5⟩:=zx7 h4;subst k1;refine ⟨by rw [zmn m x2 x1 h1],h3.sub,WU (x:=ng w K g) (fun b=>yb6) h2 x3 k2,XV h2 x4 k3,MF h1,Vd h2 k2,fun r hr r' hr' hne L L' hL hL' hb=>h2.abu hne (UF k2 hr hr' hne) hL hL' (Bf k2 hr) (Bf k2 hr') hb,
  fun r hr r' hr' L L' hL hL'=>h2.abt hL hL' (Bf k2 hr) (U2 k3 hr'),fun r hr L hL=> ?_,fun n hn L hL=> ?_,?_,h2.fr.os,h2.fr.tape,h2.fr.out,h2.fr.size,h2.fr.old⟩
 ·obtain ⟨_,_,_,_,_,_,h5,_⟩:=BG (Bf k2 hr);exact ⟨r.1,L,hL,h2.nI hL h5,rfl⟩
 ·obtain ⟨v,e,c,sh,h5⟩:=Vq k5 hn;refine ⟨?_,h2.pW n L v e c sh hL h5⟩;obtain ⟨o,h6,h7⟩:=h2.obj n L hL;rw [h5] at h6;cases h6;have h8:=h7.2.1;rw [yak rfl] at h8;exact h8
 ·rw [←k4];exact h2.nY
theorem mR {P:Program} {ρ:Val} {w:World} {K:Nat→Prop} {g:bO} {bl:List (Nat×Nat)} {ru:List Sh} {gs:Nat} {tZ:List bL} {n:Nat} {f:FuncId} {args:List AV} {vals:List Value} {ls:List Leaf} {asm:List (SB×Bool)} {ps:List (List (SB×Bool)×Nat)}
  (hmo:P.follows .mixedOrders=true)
  (h:(ev P (dW tZ) n (.call f args (dP gs ru) (jc ls 0))).ways asm=some ps)
  (hs:(fe ru&&eZ tZ&&AV.dX args&&jm ls)=true)
  (hK: ∀b,K b→b<w.heap.size) (ho:tT ρ (cB bl) (ng w K g) bl ru) (hap:apart bl ru) (hG:g.G gs (cB bl) w) (he:J5 P ρ w K g tZ) (ha:RL ρ (cB bl) args vals) (ht:Told ρ asm):
  Calls P f vals.toArray w fun e w'=> ∃p∈ps,Told ρ p.1∧ ∃l,ls[p.2]? =some l∧ ∃j,Cq ρ w K g bl l e w' j:=by
 simp only [ybd] at hs;obtain ⟨⟨⟨s1,s2⟩,s3⟩,s4⟩:=hs;unfold Ob.ways at h;cases hps:(ev P (dW tZ) n (.call f args (dP gs ru) (jc ls 0))).paths asm with
 | none=>rw [hps] at h;cases h
 | some ps0=>
 rw [hps] at h;cases h;have h:=hps;refine ya7 (zt2 (x:=ng w K g) hmo (fun m=>XD (NY m s2 he)) (fun m=>Xx hK (OC m s1 ho) hap hG) (fun m=>(jJ m s3).2 ha) ht h) fun e w' hh=> ?_;obtain ⟨p,hp,hto,l,hl,m,u,v,j',H',rfl,h1,h2,h3,h4⟩:=hh;obtain ⟨x1,x2,x3,x4⟩:=Nt s4 hl;exact ⟨(p.1.drop asm.length,p.2),NZ hp,fun c hc=>hto c (ybi hc),l,hl,j',Y7 x1 x2 x3 x4 h1 h2 h3 h4⟩
end Go.Dw
namespace Go.Dw
open Go.RowKit
def fQ (i:Nat):SE:= .bn [⟨i,0,65535,0,16,0⟩] 0
def bV (i:Nat):SE:= .bn [⟨i,0,4294967295,0,32,0⟩] 0
def aP (i:Nat):SE:= .bn [⟨i,0,18446744073709551615,0,64,0⟩] 0
def bg (i:Nat):SE:= .bn [⟨i,1,32768,0,16,0⟩] 0
def ai (i:Nat):SE:= .bn [⟨i,0,4611686018427387903,0,62,0⟩] 0
theorem EX {ρ:Val} {i lo hi n:Nat} (h0:(lo:Int)≤ρ.i i) (h1:ρ.i i≤(hi:Int)) (h2:hi<2^n):SE.den ρ (.bn [⟨i,lo,hi,0,n,0⟩] 0)=ρ.i i:=by
 obtain ⟨x,hx⟩:=yaM (Int.le_trans (ycO lo) h0);simp only [SE.den,aJ,aL.den,hx,yaS,ycH,ycN,ydd];rw [hx] at h0 h1;have e:max lo (min x hi)=x:=by omega
 rw [e,ya6 (by omega)];rfl
theorem zo {ρ:Val} {i:Nat} (h0:0≤ρ.i i) (h1:ρ.i i<65536):(fQ i).den ρ=ρ.i i:=EX (by omega) (by omega) (by decide)
theorem xw {ρ:Val} {i:Nat} (h0:0≤ρ.i i) (h1:ρ.i i<4294967296):(bV i).den ρ=ρ.i i:=EX (by omega) (by omega) (by decide)
theorem lq {ρ:Val} {i:Nat} (h0:0≤ρ.i i) (h1:ρ.i i<18446744073709551616):(aP i).den ρ=ρ.i i:=EX (by omega) (by omega) (by decide)
theorem JL {ρ:Val} {i:Nat} (h0:1≤ρ.i i) (h1:ρ.i i≤32768):(bg i).den ρ=ρ.i i:=EX (by omega) (by omega) (by decide)
theorem lU {ρ:Val} {i:Nat} (h0:0≤ρ.i i) (h1:ρ.i i<4611686018427387904):(ai i).den ρ=ρ.i i:=EX (by omega) (by omega) (by decide)
theorem bF {ρ:Val} {n:Int}:SE.den ρ (.lit n)=n:=rfl
theorem P5 {ρ:Val} {i:Nat}:SE.den ρ (.var i)=ρ.i i:=rfl
theorem den_add {ρ:Val} {k:IntKind} {a b:SE}:SE.den ρ (.bin .add k a b)=k.wrap (a.den ρ+b.den ρ):=rfl
theorem iL {ρ:Val} {k:IntKind} {a b:SE}:SE.den ρ (.bin .sub k a b)=k.wrap (a.den ρ-b.den ρ):=rfl
theorem den_mul {ρ:Val} {k:IntKind} {a b:SE}:SE.den ρ (.bin .mul k a b)=k.wrap (a.den ρ*b.den ρ):=rfl
theorem Ji {ρ:Val} {k:IntKind} {a:SE}:SE.den ρ (.wrap k a)=k.wrap (a.den ρ):=rfl
theorem zyd {ρ:Val} {b:Bool}:SB.den ρ (.lit b)=b:=rfl
theorem j6 {ρ:Val} {i:Nat}:SB.den ρ (.var i)=ρ.b i:=rfl
theorem QF {ρ:Val} {b:SB}:SB.den ρ (.not b)= !(b.den ρ):=rfl
theorem QG {ρ:Val} {a b:SE}:SB.den ρ (.cmp .eql a b)=(a.den ρ==b.den ρ):=rfl
theorem xC {ρ:Val} {a b:SE}:SB.den ρ (.cmp .neq a b)=(a.den ρ !=b.den ρ):=rfl
theorem fD {ρ:Val} {a b:SE}:SB.den ρ (.cmp .lss a b)=decide (a.den ρ<b.den ρ):=rfl
theorem Cg {ρ:Val} {a b:SE}:SB.den ρ (.cmp .leq a b)=decide (a.den ρ≤b.den ρ):=rfl
theorem rO {ρ:Val} {a b:SE}:SB.den ρ (.cmp .gtr a b)=decide (a.den ρ>b.den ρ):=rfl
theorem zx {ρ:Val} {a b:SE}:SB.den ρ (.cmp .geq a b)=decide (a.den ρ≥b.den ρ):=rfl
theorem iN {k:Int} (h:0≤k) (h':k<18446744073709551616):IntKind.wrap .u64 k=k:=by unfold IntKind.wrap;simp [IntKind.signed,IntKind.bits];omega
theorem tN {k:Int} (h:0≤k) (h':k<65536):IntKind.wrap .u16 k=k:=by unfold IntKind.wrap;simp [IntKind.signed,IntKind.bits];omega
theorem IZ (k:Int):IntKind.wrap .u16 k=k%65536:=by unfold IntKind.wrap;simp [IntKind.signed,IntKind.bits]
theorem Xi (k:Int):IntKind.wrap .u64 k=k%18446744073709551616:=by unfold IntKind.wrap;simp [IntKind.signed,IntKind.bits]
theorem dV {k:Int} (h: -9223372036854775808≤k) (h':k<9223372036854775808):IntKind.wrap .i64 k=k:=by
 simp only [IntKind.wrap,IntKind.bits,IntKind.signed];simp;omega
theorem ay {ρ:Val} {j:J} {a:AV} {l:List AV} {v:Value} {m:List Value} (h:R ρ j a v) (h':RL ρ j l m):RL ρ j (a::l) (v::m):=⟨v,m,rfl,h,h'⟩
theorem aO {ρ:Val} {j:J} {k:IntKind} {n:SE} {x:Int} (h:n.den ρ=x):R ρ j (.int k n) (.int k x):=by show Value.int k x= .int k (n.den ρ);rw [h]
theorem dQ {ρ:Val} {j:J} {b:SB} {x:Bool} (h:b.den ρ=x):R ρ j (.bool b) (.bool x):=by show Value.bool x= .bool (b.den ρ);rw [h]
theorem zym {ρ:Val} {j:J} {i:Nat} {v:Value} (h:ρ.v i=v) (h1:v.oneCell'=true):R ρ j (.cst i none) v:=⟨h.symm,h1,fun _ h=>by cases h⟩
theorem vG {ρ:Val} {j:J} {n o:Nat} {L:Loc} (h:j n=some L):R ρ j (.ptr n o) (.pointer (some ⟨L.blk,L.off+o,none⟩)):=⟨L,h,rfl⟩
theorem nT {ρ:Val} {j:J} {a:List AV} {l:List Value} (h:RL ρ j a l):R ρ j (.agg a) (.agg l.toArray):=⟨l,rfl,h⟩
theorem zyk {ρ:Val} {j:J} {a:List AV} {l:List Value} (h:RL ρ j a l):R ρ j (.aK a) (.tuple l.toArray):=⟨l,rfl,h⟩
theorem j4 {ρ:Val} {w0:World} {K:Nat→Prop} {g:bO} {bl:List (Nat×Nat)} {l:Leaf} {e:Ending} {w':World} {j:J} (h:Cq ρ w0 K g bl l e w' j) (hK: ∀b,¬K b):Below w0.heap.size w0 w':=
 ⟨h.mv.os,h.mv.tape,h.mv.output,h.mv.size,fun k hk=>h.mv.block k hk (hK k)⟩
theorem Bl {w:World} {b:Nat} {vals:List Value} (h:Own w b vals) {i:Nat} {v:Value} (hv:vals[i]? =some v):w.cell? ⟨b,i,none⟩=some v:=by
 obtain ⟨arr,e,h1,h2⟩:=h;simp [World.cell?,h1,h2 i v hv]
theorem FD {w:World} {b:Nat} {vals:List Value} (h:Own w b vals):b<w.heap.size:=by
 obtain ⟨arr,e,h1,_⟩:=h;exact (yax.1 h1).1
theorem Own.kept {w w':World} {b:Nat} {vals:List Value} (h:Own w b vals) (e:w'.heap[b]? =w.heap[b]?):Own w' b vals:=by
 obtain ⟨arr,t,h1,h2⟩:=h;exact ⟨arr,t,e.trans h1,h2⟩
theorem ja {k:Nat} {j:J} {w:World}:bO.none.G k j w:=⟨fun _=>False,fun _ h=>h.elim,trivial⟩
end Go.Dw
namespace Go.Dw
theorem zap {ρ:Val}:Told ρ []↔True:=⟨fun _=>trivial,fun _ c h=>by cases h⟩
theorem bH {ρ:Val} {c:SB} {b:Bool} {l:List (SB×Bool)}:Told ρ ((c,b)::l)↔c.den ρ=b∧Told ρ l:=
 ⟨fun h=>⟨h (c,b) (by simp),fun x hx=>h x (by simp [hx])⟩,fun h x hx=>by
  rcases yaj.1 hx with rfl|hx
  ·exact h.1
  ·exact h.2 x hx⟩
def dO (is:List Int) (bs:List Bool) (vs:List Value):Val:=⟨fun i=>is.getD i 0,fun i=>bs.getD i false,fun i=>vs.getD i (.bool false)⟩
end Go.Dw
namespace Go.Dw
end Go.Dw
namespace Go.Dw
open Go.RowKit
theorem zxn {ρ:Val} {j:J} {a:List AV} {u v:List Value} (hx:AV.rZ a=true) (h:RL ρ j a u) (k:RL ρ j a v):u=v:=(vJ hx h).trans (vJ hx k).symm
def zsg (P:Program) (f:FuncId):Bool:=
  match P.funcs[f]? with
  | some fn => (match fn.body with | some _ => decide (fn.name ≠ "runtime.NumGoroutine") | none => false)
  | none=>false
theorem enters_of {P:Program} {f:FuncId} (h:zsg P f=true):Enters P f:=by
 unfold zsg at h;split at h
 case h_2=>cases h
 rename_i fn hf;split at h
 case h_2=>cases h
 rename_i c hc;exact ⟨fn,c,hf,hc,ycq h⟩
theorem Bj {P:Program} {ρ:Val} {w0:World} {K:Nat→Prop} {g:bO} {f:FuncId} {args:List AV} {gs base:Nat} {res:AV} (he:Enters P f) (hx:AV.rZ args=true) (V:List Value) (U:Value)
  (ha: ∀j,RL ρ j args V) (hr: ∀j,R ρ j res U) (h: ∀w F q,g.fact gs q F w→Calls P f V.toArray w fun en w'=>en= .returned U∧Below w.heap.size w w'):Fs P ρ w0 K g ⟨f,args,gs,base,0,res,gs⟩:=
 zkb he fun j w vals F hv hf=>by
  rw [zxn hx hv (ha j)];exact ya7 (h w F _ hf) fun en w' hh=>⟨U,hh.1,hr j,hh.2⟩
theorem BS {ρ:Val} {w0:World} {K:Nat→Prop} {g:bO} {bl:List (Nat×Nat)} {l0:Leaf} {e:Ending} {w':World} {pre:List (SB×Bool)}
  (h: ∃p∈ [(pre,0)],Told ρ p.1∧ ∃l,[l0][p.2]? =some l∧ ∃j,Cq ρ w0 K g bl l e w' j):Told ρ pre∧ ∃j,Cq ρ w0 K g bl l0 e w' j:=by
 obtain ⟨p,hp,ht,l,hl,j,he⟩:=h;rw [yaI] at hp;subst hp;cases hl;exact ⟨ht,j,he⟩
end Go.Dw
namespace Go.Proofs
open Go.Dw Go.RowKit
structure Tryz.Rg where
 n:Int
 d:Int
 v:Int
 c:Int
end Go.Proofs
namespace Go.Dw
open Go.RowKit
structure lW where
 test:SB
 ex:Ex
 slots:List (Nat×AV)
 gs:Nat
structure eH where
 p:List Nat
 n:Nat
 gs:Nat
 slots:List (Nat×AV)
 keep:List Nat
 rows:List (Nat×List AV)
 base:Nat
 gB:Nat
 ends:List lW
def zX (env:T AV) (t:Nat):AV:=
 match env.get t with
 | some v=>v
 | none=>jb
def kE:Nat→T AV→T AV
 | 0,t=>t
 | n+1,t=>kE n (t.set n .junk)
def zD (env:T AV):List Nat→T AV→T AV
 | [], t=>t
 | i::l,t=>zD env l (t.set i (zX env i))
def nK:List (Nat×AV)→T AV→T AV
 | [], t=>t
 | p::l,t=>nK l (t.set p.1 p.2)
def Kb:List Nat→List Nat→Bool
 | [], [] => true
 | a::l,b::m=>match Nat.beq a b with|true=>Kb l m|false=>false
 | _,_=>false
def zrB:AV→Bool
 | .junk=>false
 | _=>true
def Jq (N:Nat) (env:T AV):List (Nat×AV)→Bool
 | [] => true
 | p::l=>match Nat.blt p.1 N,AV.beq (zX env p.1) p.2,zrB p.2 with|true,true,true=>Jq N env l|_,_,_=>false
def jo (N:Nat):List (Nat×AV)→Bool
 | [] => true
 | p::l=>match Nat.blt p.1 N with|true=>jo N l|false=>false
def Kg (N:Nat):List Nat→Bool
 | [] => true
 | p::l=>match Nat.blt p N with|true=>Kg N l|false=>false
def J6 (N:Nat):List lW→Bool
 | [] => true
 | e::l=>match jo N e.slots with|true=>J6 N l|false=>false
def eH.fits (e:eH) (p:List Nat) (N:Nat) (env:T AV) (H:Heap):Bool:=
 match Kb p e.p,Nat.beq N e.n with
 | false,_=>false
 | true,false=>false
 | true,true=>match Jq N env e.slots,Kg N e.keep,J6 N e.ends,Nat.beq H.gs e.gs with
  | true,true,true,true=>(match env.get bN,Nat.ble N bN,qj H e.rows with
   | none,true,true=>(match e.gB with
    | 0=>true
    | _+1=>Nat.beq H.nx e.base)
   | _,_,_=>false)
  | _,_,_,_=>false
def eH.ent (e:eH) (d:lW):bL:=⟨0,[],e.gs,e.base,e.gB,jb,d.gs⟩
def eH.env (e:eH) (d:lW) (N:Nat) (env:T AV):T AV:=nK d.slots (zD env e.keep (kE N .leaf))
def eH.ans (e:eH) (N:Nat) (env:T AV) (H:Heap):List lW→FT
 | [] => []
 | d::l=>(d.test,d.ex,e.env d N env,(e.ent d).heap H)::e.ans N env H l
def Qn:List eH→qC
 | [], _,_,_,_=>none
 | e::l,p,N,env,H=>match e.fits p N env H with
  | true=>some (e.ans N env H e.ends)
  | false=>Qn l p N env H
def lT (l:List eH):qC:=fun p N env H=>
 match p with
 | 2::_=>none
 | p=>Qn l p N env H
def FP (ρ:Val) (l:List lW):Option lW:=vC ρ (l.map fun d=>(d.test,d))
def zyB (P:Program) (ρ:Val) (w0:World) (K:Nat→Prop) (g:bO) (e:eH):Prop:=
 ∀ c,bS P e.p=c→ ∀(j:J) (a:Act) (w:World) (F:Nat→Prop) (n:Nat),a.tmps.size=e.n→a.defers= []→(∀s∈e.slots,s.1<e.n∧R ρ j s.2 (a.tmps.getD s.1 undef))→(∀r∈e.rows,∀L,j r.1=some L→ ¬F L.blk∧ ∃vals,RL ρ j r.2 vals∧Row w L vals)→
  (∀ k,n≤k→j k=none)→(e.gB≠0→n=e.base)→(∀b,F b→b<w.heap.size)→w0.heap.size≤w.heap.size→g.fact e.gs (kP j) F w→(∀i,i<w0.heap.size→ ¬K i→w.heap[i]? =w0.heap[i]?)→
  c.wp P (fun ex a' w'=> ∃d qs F',FP ρ e.ends=some d∧ex=F4 d.ex∧a'.tmps.size=e.n∧a'.defers= []∧(∀t∈e.keep,a'.tmps.getD t undef=a.tmps.getD t undef)∧qs.length=e.gB∧
   (∀ s∈d.slots,R ρ (jq j n qs) s.2 (a'.tmps.getD s.1 undef))∧g.fact d.gs (kP (jq j n qs)) F' w'∧(∀b,F' b→b<w'.heap.size∧(F b∨w.heap.size≤b))∧Mv (fun b=>F b∧(w0.heap.size≤b∨K b)) w w') a w
def Ql (P:Program) (ρ:Val) (w0:World) (K:Nat→Prop) (g:bO):List eH→Prop
 | [] => True
 | e::l=>zyB P ρ w0 K g e∧Ql P ρ w0 K g l
def jC:List (Nat×AV)→Bool
 | [] => true
 | s::l=>match s.2.small with|true=>jC l|false=>false
def BA:List lW→Bool
 | [] => true
 | d::l=>match d.test.small,jC d.slots with|true,true=>BA l|_,_=>false
def I8:List (Nat×List AV)→Bool
 | [] => true
 | r::l=>match AV.dX r.2 with|true=>I8 l|false=>false
theorem UE: ∀ {l:List (Nat×List AV)},I8 l=true→ ∀s∈l,AV.dX s.2=true
 | [], _,s,h=>by cases h
 | p::l,hl,s,h=>by
  unfold I8 at hl;split at hl
  ·rename_i hb;rcases yaj.1 h with rfl|h
   ·exact hb
   ·exact UE hl s h
  ·cases hl
def lJ:List eH→Bool
 | [] => true
 | e::l=>match jC e.slots,BA e.ends,I8 e.rows with|true,true,true=>lJ l|_,_,_=>false
theorem Es: ∀(n:Nat) (t0:T AV) (t:Nat),bT (kE n t0) t=if t<n then .junk else bT t0 t
 | 0,t0,t=>by rw [yah (by omega)];rfl
 | n+1,t0,t=>by
  unfold kE;rw [Es n,qf];by_cases h:t<n
  ·rw [yak h,yak (by omega)]
  ·rw [yah h];by_cases h2:t=n
   ·rw [yak h2,yak (by omega)]
   ·rw [yah h2,yah (by omega)]
theorem PY (env:T AV) (t:Nat):zX env t=bT env t:=rfl
theorem NC {env:T AV}: ∀(l:List Nat) (t0:T AV) (t:Nat),(t∈l∧bT (zD env l t0) t=bT env t)∨bT (zD env l t0) t=bT t0 t
 | [], t0,t=> .inr rfl
 | i::l,t0,t=>by
  unfold zD;rcases NC (env:=env) l (t0.set i (zX env i)) t with ⟨h1,h2⟩|h
  ·exact .inl ⟨ya3 _ h1,h2⟩
  ·rw [h,qf];by_cases hi:t=i
   ·rw [yak hi,PY,hi];exact .inl ⟨ya0 ..,rfl⟩
   ·rw [yah hi];exact .inr rfl
theorem Eo: ∀(l:List (Nat×AV)) (t0:T AV) (t:Nat),(∃v,(t,v)∈l∧bT (nK l t0) t=v)∨bT (nK l t0) t=bT t0 t
 | [], t0,t=> .inr rfl
 | p::l,t0,t=>by
  unfold nK;rcases Eo l (t0.set p.1 p.2) t with ⟨v,h1,h2⟩|h
  ·exact .inl ⟨v,ya3 _ h1,h2⟩
  ·rw [h,qf];by_cases hi:t=p.1
   ·rw [yak hi];exact .inl ⟨p.2,by rw [hi];exact ya0 ..,rfl⟩
   ·rw [yah hi];exact .inr rfl
theorem N8 {N:Nat}: ∀ {l:List (Nat×AV)},jo N l=true→ ∀s∈l,s.1<N
 | [], _,s,h=>by cases h
 | p::l,hl,s,h=>by
  unfold jo at hl;split at hl
  ·rename_i hb;rcases yaj.1 h with rfl|h
   ·rwa [yaD] at hb
   ·exact N8 hl s h
  ·cases hl
theorem Vr {N:Nat}: ∀ {l:List Nat},Kg N l=true→ ∀s∈l,s<N
 | [], _,s,h=>by cases h
 | p::l,hl,s,h=>by
  unfold Kg at hl;split at hl
  ·rename_i hb;rcases yaj.1 h with rfl|h
   ·rwa [yaD] at hb
   ·exact Vr hl s h
  ·cases hl
theorem Wj {N:Nat}: ∀ {l:List lW},J6 N l=true→ ∀d∈l,jo N d.slots=true
 | [], _,s,h=>by cases h
 | p::l,hl,s,h=>by
  unfold J6 at hl;split at hl
  ·rename_i hb;rcases yaj.1 h with rfl|h
   ·exact hb
   ·exact Wj hl s h
  ·cases hl
theorem UN {N:Nat} {env:T AV}: ∀ {l:List (Nat×AV)},Jq N env l=true→ ∀s∈l,s.1<N∧bT env s.1=s.2∧s.2≠ .junk
 | [], _,s,h=>by cases h
 | p::l,hl,s,h=>by
  unfold Jq at hl;split at hl
  ·rename_i hb hv hj;rcases yaj.1 h with rfl|h
   ·exact ⟨by rwa [yaD] at hb,by rw [←PY];exact AV.beq_eq hv,fun e=>by rw [e] at hj;cases hj⟩
   ·exact UN hl s h
  ·cases hl
theorem XL: ∀ {l m:List Nat},Kb l m=true→l=m
 | [], [], _=>rfl
 | a::l,b::m,h=>by
  unfold Kb at h;split at h
  ·rename_i hb;rw [aY hb,XL h]
  ·cases h
 | [], _::_,h=>by cases h
 | _::_,[],h=>by cases h
theorem HY: ∀ {l:List (Nat×AV)},jC l=true→ ∀s∈l,s.2.small=true
 | [], _,s,h=>by cases h
 | p::l,hl,s,h=>by
  unfold jC at hl;split at hl
  ·rename_i hb;rcases yaj.1 h with rfl|h
   ·exact hb
   ·exact HY hl s h
  ·cases hl
theorem NI: ∀ {l:List lW},BA l=true→ ∀d∈l,d.test.small=true∧jC d.slots=true
 | [], _,s,h=>by cases h
 | p::l,hl,s,h=>by
  unfold BA at hl;split at hl
  ·rename_i hb hc;rcases yaj.1 h with rfl|h
   ·exact ⟨hb,hc⟩
   ·exact NI hl s h
  ·cases hl
theorem VW {ρ:Val} {α:Type} (e:SB×α) (l:List (SB×α)):vC ρ (e::l)=if e.1.den ρ=true then some e.2 else vC ρ l:=by
 obtain ⟨b,x⟩:=e;show (match b with| .lit true=>some x|b=>if b.den ρ=true then some x else vC ρ l)=_;split
 ·rfl
 ·rfl
theorem VX {ρ:Val} (e:lW) (l:List lW):FP ρ (e::l)=if e.test.den ρ=true then some e else FP ρ l:=VW _ _
theorem XG {ρ:Val}: ∀ {l:List lW} {d:lW},FP ρ l=some d→d∈l
 | [], d,h=>by cases h
 | e::l,d,h=>by
  rw [VX] at h;split at h
  ·cases h;exact ya0 ..
  ·exact ya3 _ (XG h)
theorem XH {ρ:Val} {m:Nat→Bool} {e:eH} {N:Nat} {env:T AV} {H:Heap}: ∀ {l:List lW} {d:lW},BA l=true→FP ρ l=some d→vC (ρ.mark m) (e.ans N env H l)=some (d.ex,e.env d N env,(e.ent d).heap H)
 | [], d,_,h=>by cases h
 | e0::l,d,hs,h=>by
  have hs0:=(NI hs e0 (ya0 ..)).1;unfold BA at hs;split at hs
  case h_2=>cases hs
  rw [VX] at h;unfold eH.ans;rw [VW];simp only [SB.jd ρ m _ hs0];split at h
  ·rename_i ht;cases h;rw [yak ht]
  ·rename_i ht;rw [yah ht];exact XH hs h
theorem zpN {P:Program} {ρ:Val} {w0:World} {K:Nat→Prop} {g:bO} (m:Nat→Bool) {l:List eH} (hs:lJ l=true) (h:Ql P ρ w0 K g l):Kj P (ρ.mark m) (ng w0 K g) (lT l):=by
 refine ⟨fun _ _ _ _=>rfl,fun p N env H r c hc hr j a w hi he=> ?_⟩;unfold lT at hr;split at hr
 ·cases hr
 induction l with
 | nil=>cases hr
 | cons e l ih=>
  unfold lJ at hs;split at hs
  case h_2=>cases hs
  rename_i h1 h2 h3;unfold Qn at hr;split at hr
  case h_2=>exact ih hs h.2 hr
  rename_i hf;cases hr;unfold eH.fits at hf;split at hf
  ·cases hf
  ·cases hf
  rename_i hp hN;have hp:=XL hp;have hN:=aY hN;subst hp hN;split at hf
  case h_2=>cases hf
  rename_i f1 f2 f3 f4;split at hf
  case h_2=>cases hf
  rename_i f5 f6 f7;have f4:=aY f4;have f6:=yam f6;have hdf:a.defers= []:=he.dH.none (by unfold bT;rw [f5]);have hG:=hi.nY;rw [f4] at hG;obtain ⟨F,g1,g2⟩:=hG;have hnone: ∀k,H.nx≤k→j k= .none:=fun k hk=>by
   cases hjk:j k with
   | none=>rfl
   | some L=>have:=hi.dom k L hjk;omega
  have hbase:e.gB≠0→H.nx=e.base:=fun hn=>by
   split at hf
   ·rename_i h0;exact absurd h0 hn
   ·exact aY hf
  have hss:=HY h1;have hsl: ∀s∈e.slots,s.1<e.n∧R ρ j s.2 (a.tmps.getD s.1 undef):=fun s hs'=>by
   obtain ⟨q1,q2,q3⟩:=UN f1 s hs';refine ⟨q1,?_⟩;have:=he.get s.1 (by omega);rw [q2] at this;exact (mG m (hss s hs')).1 (this.resolve_left q3)
  have hrw: ∀r∈e.rows,∀L,j r.1=some L→ ¬F L.blk∧ ∃vals,RL ρ j r.2 vals∧Row w L vals:=fun r hr L hL=>by
   have Td:=Bf f7 hr;obtain ⟨vals,arr,e',fr,q1,q2,q3,_⟩:=hi.MZ hL Td;refine ⟨fun hF=> ?_,vals,(jJ m (UE h3 r hr)).1 q2,arr,e',fr,q1,q3⟩;obtain ⟨_,_,_,_,_,_,h5,_⟩:=BG Td;exact (g1 _ hF).2 ⟨r.1,L,hL,hi.nI hL h5,rfl⟩
  refine ybu (h.1 c hc j a w F H.nx he.size hdf hsl hrw hnone hbase (fun b hF=>(g1 b hF).1) hi.fr.size g2 hi.fr.old) fun ex a' w' hh=> ?_;obtain ⟨d,qs,F',e1,e2,e3,e4,e5,e6,e7,e8,e9,e10⟩:=hh;have hd:=XG e1;have hns:(ng w0 K g).G (e.ent d).gs' (jq j H.nx qs) w':=⟨F',fun b hF'=>⟨(e9 b hF').1,fun hm=>by
   have hm:=Px hnone hm;rcases (e9 b hF').2 with hF|hF
   ·exact (g1 b hF).2 hm
   ·obtain ⟨k,L,k1,k2,k3⟩:=hm;have:=hi.blk k L k1 k2;omega⟩,e8⟩
  obtain ⟨i1,i2⟩:=Inv.ent (e:=e.ent d) hi f4 e6 hns (e10.mono fun b hb=>⟨(g1 b hb.1).2,hb.2⟩);refine ⟨d.ex,e.env d e.n env,(e.ent d).heap H,jq j H.nx qs,XH h2 e1,e2,⟨e3,f6,fun t ht=> ?_,?_⟩,i1,i2⟩
  ·unfold eH.env;have hds:=(NI h2 d hd).2;rcases Eo d.slots (zD env e.keep (kE e.n .leaf)) t with ⟨v,q1,q2⟩|q
   ·rw [q2];exact .inr ((mG m (HY hds _ q1)).2 (e7 _ q1))
   ·rw [q];rcases NC (env:=env) e.keep (kE e.n .leaf) t with ⟨q1,q2⟩|q
    ·rw [q2,e5 t q1];exact (he.get t ht).imp_right (·.mono i2.sub)
    ·rw [q,Es];by_cases hN:t<e.n
     ·rw [yak hN];exact .inl rfl
     ·rw [yah hN,yav,ybl (by omega)];exact .inr rJ
  ·rw [e4];show DR (ρ.mark m) _ (bT (e.env d e.n env) bN) [];have:bT (e.env d e.n env) bN=jb:=by
    unfold eH.env;rcases Eo d.slots (zD env e.keep (kE e.n .leaf)) bN with ⟨v,q1,_⟩|q
    ·have:=N8 (Wj f3 d hd) _ q1;simp only at this;omega
    ·rw [q];rcases NC (env:=env) e.keep (kE e.n .leaf) bN with ⟨q1,_⟩|q
     ·have:=Vr f2 _ q1;omega
     ·rw [q,Es,yah (by omega)];rfl
   rw [this];rfl
structure gK where
 t:TypeId
 s:AV
 n:Nat
 xs:List AV
 gs:Nat
 base:Nat
 gB:Nat
 res:AV
 gs':Nat
def gK.ent (e:gK):bL:=⟨0,[],e.gs,e.base,e.gB,e.res,e.gs'⟩
def gK.fits (e:gK) (t:TypeId) (s:AV) (n:Nat) (xs:List AV) (H:Heap):Bool:=
 match Nat.beq t e.t,AV.beq s e.s,Nat.beq n e.n,Nat.beq H.gs e.gs with
 | true,true,true,true=>(match AV.qE xs e.xs with
  | true=>(match e.gB with
   | 0=>true
   | _+1=>Nat.beq H.nx e.base)
  | false=>false)
 | _,_,_,_=>false
def lu:List gK→xQ
 | [], _,_,_,_,_=>none
 | e::l,t,s,n,xs,H=>match e.fits t s n xs H with
  | true=>some (e.res,e.ent.heap H)
  | false=>lu l t s n xs H
def zyp (P:Program) (ρ:Val) (w0:World) (K:Nat→Prop) (g:bO) (e:gK):Prop:=
 ∀ (j:J) (w:World) (F:Nat→Prop) (n:Nat) (us:Value) (bb o cap:Nat) (vals:List Value) (ty:TypeId),R ρ j e.s us→zsV w bb o vals→RL ρ j e.xs vals→(∀k,n≤k→j k=none)→(e.gB≠0→n=e.base)→(∀b,F b→b<w.heap.size)→w0.heap.size≤w.heap.size→g.fact e.gs (kP j) F w→
  ∃ u w' qs F',(Builtin.append_ #[e.t,e.t] ty #[us,.slice (some ⟨bb,o,none⟩) e.n cap]).run P w= .ok u w'∧qs.length=e.gB∧R ρ (jq j n qs) e.res u∧g.fact e.gs' (kP (jq j n qs)) F' w'∧(∀b,F' b→b<w'.heap.size∧(F b∨w.heap.size≤b))∧Mv (fun b=>F b∧(w0.heap.size≤b∨K b)) w w'
def Qy (P:Program) (ρ:Val) (w0:World) (K:Nat→Prop) (g:bO):List gK→Prop
 | [] => True
 | e::l=>zyp P ρ w0 K g e∧Qy P ρ w0 K g l
def lK:List gK→Bool
 | [] => true
 | e::l=>match e.s.small,AV.dX e.xs,e.res.small with|true,true,true=>lK l|_,_,_=>false
theorem zqa {P:Program} {ρ:Val} {w0:World} {K:Nat→Prop} {g:bO} (m:Nat→Bool) {l:List gK} (hs:lK l=true) (h:Qy P ρ w0 K g l):QD P (ρ.mark m) (ng w0 K g) (lu l):=by
 intro t s n xs H r hr k hk j w us bb o cap vals ty hi fH hv hxs
 induction l with
 | nil=>cases hr
 | cons e l ih=>
  unfold lK at hs;split at hs
  case h_2=>cases hs
  rename_i h1 h2 h3;unfold lu at hr;split at hr
  case h_2=>exact ih hs h.2 hr
  rename_i hf;cases hr;unfold gK.fits at hf;split at hf
  case h_2=>cases hf
  rename_i f1 f2 f3 f4;split at hf
  case h_2=>cases hf
  rename_i f5;have f1:=aY f1;have f2:=AV.beq_eq f2;have f3:=aY f3;have f4:=aY f4;have f5:=AV.vL f5;subst f1 f2 f3 f5;have hG:=hi.nY;rw [f4] at hG;obtain ⟨F,g1,g2⟩:=hG;have hnone: ∀k,H.nx≤k→j k= .none:=fun k hk=>by
   cases hjk:j k with
   | none=>rfl
   | some L=>have:=hi.dom k L hjk;omega
  have hbase:e.gB≠0→H.nx=e.base:=fun hn=>by
   split at hf
   ·rename_i h0;exact absurd h0 hn
   ·exact aY hf
  obtain ⟨u,w',qs,F',e1,e2,e3,e4,e5,e6⟩:=h.1 j w F H.nx us bb o cap vals ty ((mG m h1).1 fH) hv ((jJ m h2).1 hxs) hnone hbase (fun b hF=>(g1 b hF).1) hi.fr.size g2;have hns:(ng w0 K g).G e.ent.gs' (jq j H.nx qs) w':=⟨F',fun b hF'=>⟨(e5 b hF').1,fun hm=>by
   have hm:=Px hnone hm;rcases (e5 b hF').2 with hF|hF
   ·exact (g1 b hF).2 hm
   ·obtain ⟨k,L,k1,k2,k3⟩:=hm;have:=hi.blk k L k1 k2;omega⟩,e4⟩
  obtain ⟨i1,i2⟩:=Inv.ent (e:=e.ent) hi f4 e2 hns (e6.mono fun b hb=>⟨(g1 b hb.1).2,hb.2⟩);exact ⟨u,w',e1,e.res,e.ent.heap H,jq j H.nx qs,(mG m h3).2 e3,i1,i2,hk⟩
structure ko where
 ex:Ex
 slots:List Nat
 dH:Option AV
 leaf:Leaf
def KX:Ex→Ex→Bool
 | .normal,.normal=>true
 | .ret,.ret=>true
 | .exit a,.exit b=>Nat.beq a b
 | _,_=>false
def FK (env:T AV):List Nat→List AV
 | [] => []
 | t::l=>zX env t::FK env l
def Cb (env:T AV):List Nat→Bool
 | [] => true
 | t::l=>match Nat.blt t bN,zrB (zX env t) with|true,true=>Cb env l|_,_=>false
def J7 (env:T AV) (d:Option AV):Bool:=
 match env.get bN,d with
 | none,none=>true
 | some v,some u=>AV.beq v u
 | _,_=>false
def vI (ρ:Val) (j:J):Option AV→List Deferred→Prop
 | none,ds=>ds= []
 | some v,ds=>DR ρ j v ds
def lQ:Option AV→Bool
 | none=>true
 | some v=>v.small
def jE:List ko→Nat→KC
  | [], _, _, _, _ => .bad 95 ""
  | l::r,i,ex,env,H=>match KX ex l.ex,J7 env l.dH,Cb env l.slots with
    | true,true,true=>(match l.leaf.fits (.aK (FK env l.slots)) H with
      | true => qp (1000000 + i) fun n => .ite (.var n) .ok (.bad 96 "")
      | false=>jE r (Nat.succ i) ex env H)
    | _,_,_=>jE r (Nat.succ i) ex env H
def bP (N:Nat) (slots:List (Nat×AV)) (d:Option AV):T AV:=
 match d with
 | none=>nK slots (kE N .leaf)
 | some v=>(nK slots (kE N .leaf)).set bN v
def lN:List ko→Bool
 | [] => true
 | l::r=>match jm [l.leaf],lQ l.dH with|true,true=>lN r|_,_=>false
theorem Ux: ∀ {ls:List ko} {i:Nat} {l:ko},lN ls=true→ls[i]? =some l→jm [l.leaf]=true∧lQ l.dH=true
 | [], _,_,_,h=>by cases h
 | x::r,i,l,hx,h=>by
  unfold lN at hx;split at hx
  case h_2=>cases hx
  rename_i h1 h2;cases i with
  | zero=>cases h;exact ⟨h1,h2⟩
  | succ i=>exact Ux hx (by simpa using h)
theorem zwX {a b:Ex} (h:KX a b=true):a=b:=by
 cases a<;>cases b<;>simp only [KX] at h<;>first|rfl|cases h|rw [aY h]
theorem V4 {ρ:Val} {ex:Ex} {env:T AV} {H:Heap}: ∀ {ls:List ko} {i:Nat},Ob.den ρ (jE ls i ex env H)→ ∃k l,ls[k]? =some l∧ex=l.ex∧J7 env l.dH=true∧Cb env l.slots=true∧l.leaf.fits (.aK (FK env l.slots)) H=true∧ρ.b (1000000+(i+k))=true
 | [], i,h=>h.elim
 | l::r,i,h=>by
  unfold jE at h;have later:Ob.den ρ (jE r (Nat.succ i) ex env H)→ ∃k l',(l::r)[k]? =some l'∧ex=l'.ex∧J7 env l'.dH=true∧Cb env l'.slots=true∧l'.leaf.fits (.aK (FK env l'.slots)) H=true∧ρ.b (1000000+(i+k))=true:=fun h=>by
   obtain ⟨k,l',h1,h2,h3,h4,h5,h6⟩:=V4 h;exact ⟨k+1,l',h1,h2,h3,h4,h5,by rw [show i+(k+1)=Nat.succ i+k by omega];exact h6⟩
  split at h
  ·rename_i e1 e2 e3;split at h
   ·rename_i hf;rw [uT] at h;refine ⟨0,l,rfl,zwX e1,e2,e3,hf,?_⟩;cases hb:ρ.b (1000000+(i+0)) with
    | true=>rfl
    | false=>exact (h.2 hb).elim
   ·exact later h
  ·exact later h
theorem zr7 {ρ:Val} {j:J} {N:Nat} {env:T AV} {a:Act} (he:ER ρ j N env a): ∀ {l:List Nat},Cb env l=true→RL ρ j (FK env l) (l.map fun t=>a.tmps.getD t undef)
 | [], _=>RL.nil
 | t::l,h=>by
  unfold Cb at h;split at h
  case h_2=>cases h
  rename_i h1 h2;rw [yaD] at h1;exact ay ((he.get t (by omega)).resolve_left fun e=>by rw [PY,e] at h2;cases h2) (zr7 he h)
theorem zlU {N:Nat} {slots:List (Nat×AV)} (hle:N≤bN) (hlt:jo N slots=true):bT (nK slots (kE N .leaf)) bN=jb:=by
 rcases Eo slots (kE N .leaf) bN with ⟨v,q1,_⟩|q
 ·have:=N8 hlt _ q1;simp only at this;omega
 ·rw [q,Es,yah (by omega)];rfl
theorem zw2 {ρ:Val} {j:J} {N:Nat} {slots:List (Nat×AV)} {d:Option AV} {a:Act} (hN:a.tmps.size=N) (hd:vI ρ j d a.defers) (hle:N≤bN) (hlt:jo N slots=true) (ha: ∀s∈slots,R ρ j s.2 (a.tmps.getD s.1 undef)):ER ρ j N (bP N slots d) a:=by
 have get: ∀t,t≠bN→bT (nK slots (kE N .leaf)) t= .junk∨R ρ j (bT (nK slots (kE N .leaf)) t) (a.tmps.getD t undef):=fun t ht=>by
  rcases Eo slots (kE N .leaf) t with ⟨v,q1,q2⟩|q
  ·rw [q2];exact .inr (ha _ q1)
  ·rw [q,Es];by_cases h:t<N
   ·rw [yak h];exact .inl rfl
   ·rw [yah h,yav,ybl (by omega)];exact .inr rJ
 cases d with
 | none=>
  have hd:a.defers= []:=hd;refine ⟨hN,hle,get,?_⟩;show DR ρ j (bT (nK slots (kE N .leaf)) bN) _;rw [hd,zlU hle hlt];rfl
 | some v=>
  refine ⟨hN,hle,fun t ht=> ?_,?_⟩
  ·show bT ((nK slots (kE N .leaf)).set bN v) t= .junk∨R ρ j (bT ((nK slots (kE N .leaf)).set bN v) t) _;rw [qf,yah ht];exact get t ht
  ·show DR ρ j (bT ((nK slots (kE N .leaf)).set bN v) bN) _;rw [qf,yak rfl];exact hd
theorem Qc {ρ:Val} {j:J} (m:Nat→Bool): ∀ {ds:List Deferred} {v:AV},v.small=true→(DR (ρ.mark m) j v ds↔DR ρ j v ds)
 | [], _,_=>yb6
 | _::ds,v,hs=>by
  constructor
  ·rintro ⟨g,args,rest,cap,rfl,e2,e3,e4⟩;unfold AV.small AV.dX at hs;split at hs
   case h_2=>cases hs
   rename_i h1;unfold AV.small at h1;split at h1
   case h_2=>cases h1
   unfold AV.dX at hs;split at hs
   case h_2=>cases hs
   rename_i h2;exact ⟨g,args,rest,cap,rfl,e2,(jJ m h1).1 e3,(Qc m h2).1 e4⟩
  ·rintro ⟨g,args,rest,cap,rfl,e2,e3,e4⟩;unfold AV.small AV.dX at hs;split at hs
   case h_2=>cases hs
   rename_i h1;unfold AV.small at h1;split at h1
   case h_2=>cases h1
   unfold AV.dX at hs;split at hs
   case h_2=>cases hs
   rename_i h2;exact ⟨g,args,rest,cap,rfl,e2,(jJ m h1).2 e3,(Qc m h2).2 e4⟩
theorem ZB {ρ:Val} {j:J} (m:Nat→Bool) {ds:List Deferred} {v:Option AV} (hs:lQ v=true):vI (ρ.mark m) j v ds↔vI ρ j v ds:=by
 cases v with
 | none=>exact yb6
 | some v=>exact Qc m hs
theorem oN {P:Program} {ρ:Val} {w:World} {K:Nat→Prop} {g:bO} {bl:List (Nat×Nat)} {ru:List Sh} {gs:Nat} {tZ:List bL} {GY:List eH} {FV:List gK} {n:Nat} {p:List Nat} {N:Nat} {slots:List (Nat×AV)} {dH:Option AV} {ls:List ko} {asm:List (SB×Bool)} {ps:List (List (SB×Bool)×Nat)}
  (hmo:P.follows .mixedOrders=true)
  (h:(kH P (dW tZ) (lT GY) (lu FV) n (.code (bS P p) p N (bP N slots dH) (dP gs ru) (jE ls 0))).ways asm=some ps)
  (hs:(fe ru&&eZ tZ&&lJ GY&&lK FV&&jC slots&&lN ls&&jo N slots&&Nat.ble N bN&&lQ dH)=true)
  (hK: ∀b,K b→b<w.heap.size) (ho:tT ρ (cB bl) (ng w K g) bl ru) (hap:apart bl ru) (hG:g.G gs (cB bl) w) (he:J5 P ρ w K g tZ) (hl:Ql P ρ w K g GY) (haa:Qy P ρ w K g FV)
  {a:Act} (hN:a.tmps.size=N) (hd:vI ρ (cB bl) dH a.defers) (ha: ∀s∈slots,R ρ (cB bl) s.2 (a.tmps.getD s.1 undef)) (ht:Told ρ asm):
  (bS P p).wp P (fun ex a' w'=> ∃q∈ps,Told ρ q.1∧ ∃l,ls[q.2]? =some l∧ex=F4 l.ex∧a'.tmps.size=N∧ ∃j,vI ρ j l.dH a'.defers∧Cq ρ w K g bl l.leaf (.returned (.tuple (l.slots.map fun t=>a'.tmps.getD t undef).toArray)) w' j) a w:=by
 simp only [ybd] at hs;obtain ⟨⟨⟨⟨⟨⟨⟨⟨s1,s2⟩,s5⟩,s9⟩,s3⟩,s4⟩,s6⟩,s7⟩,s8⟩:=hs;have s7:=yam s7;unfold Ob.ways at h;cases hps:(kH P (dW tZ) (lT GY) (lu FV) n (.code (bS P p) p N (bP N slots dH) (dP gs ru) (jE ls 0))).paths asm with
 | none=>rw [hps] at h;cases h
 | some ps0=>
 rw [hps] at h;cases h;have h:=hps
 classical
 let m:Nat→Bool:=fun k=>decide (∃p∈ps0,1000000+p.2=k∧Told ρ p.1)
 have hm: ∀p∈ps0,Told ρ p.1→m (1000000+p.2)=true:=fun p hp ht=>by
  show decide _=true;exact yaH ⟨p,hp,rfl,ht⟩
 have hdn:=uN hm h (fun q hq=>hq) ht;have hg:=OZ (w0:=ng w K g) (XD (NY m s2 he)) (zpN m s5 hl) (zqa m s9 haa) (fun n rec hg=>FB hmo hg) n;refine ybu (hg.code _ _ _ _ _ _ rfl hdn (cB bl) a w (Xx hK (OC m s1 ho) hap hG) (zw2 hN ((ZB m s8).2 hd) s7 s6 fun s hs=>(mG m (HY s3 s hs)).2 (ha s hs))) fun ex a' w' hh=> ?_;obtain ⟨x,env',H',j',rfl,h1,h2,h3,h4⟩:=hh;obtain ⟨k,l,h5,h6,h7,h8,h9,h10⟩:=V4 h4;have h10:(if 1000000+(0+k)<1000000 then ρ.b (1000000+(0+k)) else m (1000000+(0+k)))=true:=h10;rw [yah (by omega)] at h10;obtain ⟨q,hq,hk,hto⟩:=ycq h10;have:q.2=k:=by omega
 subst this;obtain ⟨y1,y2⟩:=Ux s4 h5;obtain ⟨x1,x2,x3,x4⟩:=Nt (i:=0) y1 rfl;refine ⟨(q.1.drop asm.length,q.2),NZ hq,fun c hc=>hto c (ybi hc),l,h5,by rw [h6],h1.size,j',(ZB m y2).1 ?_,Y7 x1 x2 x3 x4 (zyk (zr7 h1 h8)) h2 h3 h9⟩;have hdf:=h1.dH;unfold J7 at h7;unfold bT at hdf;split at h7
 ·rename_i e1 e2;rw [e1] at hdf;rw [e2];exact hdf.none rfl
 ·rename_i v u e1 e2;rw [e1] at hdf;rw [e2,←AV.beq_eq h7];exact hdf
 ·cases h7
theorem IL {P:Program} {c:Code} {Q:Exit→Act→World→Prop} {α:Type} (I:α→Act→World→Prop) (μ:α→Nat)
  (h: ∀x a w,I x a w→c.wp P (fun ex a' w'=>match ex with| .normal=> ∃x',μ x'<μ x∧I x' a' w'|ex=>Q ex a' w') a w) (x:α) (a:Act) (w:World) (hI:I x a w):(Code.loop c).wp P Q a w:=by
 have key: ∀n x a w,μ x<n→I x a w→Code.rounds P c Q n a w:=by
  intro n
  induction n with
  | zero=>intro x a w hn;omega
  | succ n ih=>
   intro x a w hn hI;refine ybu (h x a w hI) fun ex a' w' hh=> ?_;cases ex with
   | normal=>
    obtain ⟨x',h1,h2⟩:=hh;exact ih x' a' w' (by omega) h2
   | _=>exact hh
 exact wp_loop_rounds (μ x+1) (key (μ x+1) x a w (ydw _) hI)
end Go.Dw
namespace Go.Proofs
open Go.Dw Go.RowKit
def Tryz.mZ (l:List (SE×Nat)):AV:= .sx 0 (ai 0) 3 l
def Tryz.vO:AV:= .aK [.func 150 [] [.ptr 1 0,.ptr 2 0],.aK []]
def Tryz.BX (k:SE) (l:List (SE×Nat)):List (Nat×AV):= [(0,mZ l),(2,.ptr 1 0),(3,.ptr 2 0),(10,mZ l),(11,.int .i64 (ai 0)),(12,.int .i64 k)]
def Tryz.Ku (e:SE) (r:List Sh):List Sh:= .own [.int .i64 e]:: .own [.int .u64 (aP 2)]::r
def Tryz.xV (a n b:Nat):Sh:= .ro [.int .u64 (aP a),.int .u32 (bV n),.bool (.var b)]
end Go.Proofs
namespace Go.Proofs
open Go.RowKit Go.Maps Go.Sort
structure Tryz.aV (w:World) (P L Bs B N:Nat) (g:Nat→Int):Prop where
 p0: ∃c,w.cell? ⟨P,0,none⟩=some (.slice (some ⟨L,0,none⟩) 1 c)
 p1: ∃c,w.cell? ⟨P,1,none⟩=some (.slice (some ⟨Bs,0,none⟩) 1 c)
 l0:w.cell? ⟨L,0,none⟩=some (.int .u64 0)
 l1:w.cell? ⟨L,1,none⟩=some (.int .u64 N)
 b0:w.cell? ⟨Bs,0,none⟩=some (.slice (some ⟨B,0,none⟩) N N)
 full: ∀j,j<N→w.cell? ⟨B,j,none⟩=some (.int .u8 (g j))
 free: ∀j,j<N→w.frozen? ⟨B,j,none⟩=false
 byte: ∀j,0≤g j∧g j<256
 pb:P≠B
 lb:L≠B
 sb:Bs≠B
 bl:B<w.heap.size
section
variable {w w':World} {P L Bs B N:Nat} {g g':Nat→Int}
theorem Tryz.aV.pl (h:aV w P L Bs B N g):P<w.heap.size:=by obtain ⟨c,q⟩:=h.p1;exact yan w _ q
theorem Tryz.aV.ll (h:aV w P L Bs B N g):L<w.heap.size:=yan w _ h.l0
theorem Tryz.aV.sl (h:aV w P L Bs B N g):Bs<w.heap.size:=yan w _ h.b0
theorem Tryz.aV.kept (h:aV w P L Bs B N g) (hg: ∀k,k<w.heap.size→(k=P∨k=L∨k=Bs∨k=B)→w'.heap[k]? =w.heap[k]?) (hs:w.heap.size≤w'.heap.size):aV w' P L Bs B N g:=by
 have eP:=hg P h.pl (Or.inl rfl);have eL:=hg L h.ll (Or.inr (Or.inl rfl));have eS:=hg Bs h.sl (Or.inr (Or.inr (Or.inl rfl)));have eB:=hg B h.bl (Or.inr (Or.inr (Or.inr rfl)));refine ⟨?_,?_,?_,?_,?_,fun j hj=> ?_,fun j hj=> ?_,h.byte,h.pb,h.lb,h.sb,yae h.bl hs⟩
 ·obtain ⟨c,h0⟩:=h.p0;exact ⟨c,by rw [yal (a:=⟨P,0,none⟩) eP];exact h0⟩
 ·obtain ⟨c,h0⟩:=h.p1;exact ⟨c,by rw [yal (a:=⟨P,1,none⟩) eP];exact h0⟩
 ·rw [yal (a:=⟨L,0,none⟩) eL];exact h.l0
 ·rw [yal (a:=⟨L,1,none⟩) eL];exact h.l1
 ·rw [yal (a:=⟨Bs,0,none⟩) eS];exact h.b0
 ·rw [yal (a:=⟨B,j,none⟩) eB];exact h.full j hj
 ·rw [ycs (a:=⟨B,j,none⟩) eB];exact h.free j hj
theorem Tryz.aV.below (h:aV w P L Bs B N g) (hb:Below w.heap.size w w'):aV w' P L Bs B N g:=h.kept (fun k hk _=>hb.block k hk) hb.size
theorem Tryz.aV.congr (h:aV w P L Bs B N g) (hf: ∀j,g' j=g j):aV w P L Bs B N g':=by
 have:g'=g:=funext hf;rw [this];exact h
theorem Tryz.aV.Ee (h:aV w P L Bs B N g) (j:Nat) (hj:j<N) (x:Int) (hx0:0≤x) (hx1:x<256):aV (w.setCell ⟨B,j,none⟩ (.int .u8 x)) P L Bs B N (fun q=>if q=j then x else g q):=by
 have hk: ∀k,k≠B→(w.setCell ⟨B,j,none⟩ (.int .u8 x)).heap[k]? =w.heap[k]? :=fun k hk=>ya5 w _ _ k hk;have eP:=hk P h.pb;have eL:=hk L h.lb;have eS:=hk Bs h.sb;refine ⟨?_,?_,?_,?_,?_,fun q hq=> ?_,fun q hq=> ?_,fun q=> ?_,h.pb,h.lb,h.sb,yae h.bl (by simp)⟩
 ·obtain ⟨c,h0⟩:=h.p0;exact ⟨c,by rw [yal (a:=⟨P,0,none⟩) eP];exact h0⟩
 ·obtain ⟨c,h0⟩:=h.p1;exact ⟨c,by rw [yal (a:=⟨P,1,none⟩) eP];exact h0⟩
 ·rw [yal (a:=⟨L,0,none⟩) eL];exact h.l0
 ·rw [yal (a:=⟨L,1,none⟩) eL];exact h.l1
 ·rw [yal (a:=⟨Bs,0,none⟩) eS];exact h.b0
 ·by_cases hqj:q=j
  ·subst hqj;rw [yak rfl];exact ybR _ _ _ (by rw [h.full q hq];rfl)
  ·rw [yah hqj,yaN w ⟨B,j,none⟩ ⟨B,q,none⟩ _ (fun e=>hqj (yaB Addr.off e).symm)];exact h.full q hq
 ·rw [ydc];exact h.free q hq
 ·by_cases hqj:q=j
  ·rw [yak hqj];exact ⟨hx0,hx1⟩
  ·rw [yah hqj];exact h.byte q
theorem Tryz.aV.range (h:aV w P L Bs B N g) (a n:Nat) (hn:a+n≤N):w.rangeAt B a (row g a n):=by
 intro j v hv;simp only [row,ybf] at hv;rcases ybU j n with hj|hj
 ·rw [ycI hj] at hv;simp only [yaJ,ybH] at hv;rw [←hv];exact h.full (a+j) (by omega)
 ·rw [yaT (by simp;omega)] at hv;cases hv
end
set_option maxRecDepth 100000 in
theorem Tryz.Js (P L Bs B N a k:Nat) (g:Nat→Int) (w:World) (st:aV w P L Bs B N g) (hN:N≤1048576) (hk:1≤k) (hin:a+k≤N):
  Calls prog 83 #[.pointer (some ⟨P,0,none⟩),.int .u64 a,.int .u64 k] w fun e w'=>e= .returned (.tuple #[.int .i64 0,.int .i64 a])∧Below w.heap.size w w':=by
 obtain ⟨lc,c0⟩:=st.p0;have c2:=st.l0;have c3:=st.l1;have ha:IntKind.wrap .u64 ((N:Int)-k)=N-k:=wrap_u64 _ (by omega) (by omega);have qW:IntKind.wrap .u64 (a:Int)=a:=wrap_u64 _ (by omega) (by omega);have hwb:IntKind.wrap .i64 (a:Int)=a:=by unfold IntKind.wrap;simp [IntKind.signed,IntKind.bits];omega
 have hkn:(k:Int)≤N:=by omega
 have hak:(a:Int)≤N-k:=by omega
 have hk1:(1:Int)≤k:=by omega
 have ha0:(0:Int)≤a:=by omega
 have hb:=(yab _ w).alloc (yaa _) (.cells #[.int .u64 0,.int .u64 N] 38);go_enter func83,ntmps83;go_wp2_with fail;go_loopw [8] (fun i wr=>i= .int .i64 0∧wr=w) (fun _ _=>0)
 case atStart=>exact ⟨rfl,rfl⟩
 case round=>
  obtain ⟨rfl,rfl⟩:=hrel;go_wp2;go_quiet (fail);go_wp2;go_ret2;exact ⟨rfl,below_drewN hb _⟩
set_option maxRecDepth 100000 in
theorem Tryz.WY (P L Bs B N:Nat) (a k:Int) (g:Nat→Int) (w:World) (st:aV w P L Bs B N g) (hN:N≤1048576) (ha0:0≤a) (ha1:a<18446744073709551616) (hk0:0≤k) (hk1:k<18446744073709551616) (hout: ¬(1≤k∧a+k≤N)):
  Calls prog 83 #[.pointer (some ⟨P,0,none⟩),.int .u64 a,.int .u64 k] w fun e w'=>e= .returned (.tuple #[.int .i64 (-1),.int .i64 0])∧Below w.heap.size w w':=by
 obtain ⟨lc,c0⟩:=st.p0;have c2:=st.l0;have c3:=st.l1;have hb:=(yab _ w).alloc (yaa _) (.cells #[.int .u64 0,.int .u64 N] 38);have qW:IntKind.wrap .u64 a=a:=wrap_u64 _ (by omega) (by omega);go_enter func83,ntmps83;go_wp2_with fail;go_loopw [8] (fun i wr=>(i= .int .i64 0∧wr=w)∨(i= .int .i64 1∧wr=w.alloc (.cells #[.int .u64 0,.int .u64 N] 38))) (fun i _=>1-(RowKit.intOf i).toNat)
 case atStart=>exact .inl ⟨rfl,rfl⟩
 case round=>
  rcases hrel with ⟨rfl,rfl⟩|⟨rfl,rfl⟩
  ·by_cases h1:1≤k
   ·by_cases h2:k≤N
    ·have h3:IntKind.wrap .u64 ((N:Int)-k)=N-k:=wrap_u64 _ (by omega) (by omega);have h4: ¬a≤N-k:=by omega
     go_wp2;exact ⟨.inr (by simp),by decide⟩
    ·go_wp2;exact ⟨.inr (by simp),by decide⟩
   ·go_wp2;exact ⟨.inr (by simp),by decide⟩
  ·have st2:=st.below hb;obtain ⟨lc2,c02⟩:=st2.p0;go_wp2;go_ret2;exact ⟨rfl,hb⟩
end Go.Proofs
namespace Go.Proofs
open Go.RowKit Go.Maps Go.Sort
theorem Tryz.zwU (g:Nat→Int) (hg: ∀j,0≤g j∧g j<256) (a k j:Nat) (v:Int) (hj:j+1≤k) (hk:k≤8) (h:bW g a k=bW g a (j+1)+v*256^(j+1)) (hv:0≤v∧v<256^(k-(j+1))):
  bW g a k=bW g a j+(256*v+g (a+j))*256^j∧(0≤256*v+g (a+j)∧256*v+g (a+j)<256^(k-j))∧(0≤256*v∧256*v<18446744073709551616)∧256*v+g (a+j)<18446744073709551616:=by
 have h2:=hg (a+j);have e1:(256:Int)^(k-j)=256^(k-(j+1))*256:=by rw [←Int.pow_succ];congr 1;omega
 have e2:(256:Int)^(k-j)≤18446744073709551616:=by
  have q:=ybO (n:=256) (by omega) (show k-j≤8 by omega);rw [show (256:Nat)^8=18446744073709551616 from by decide] at q;have e:((256^(k-j):Nat):Int)=(256:Int)^(k-j):=Int.natCast_pow 256 (k-j);rw [←e];exact Int.ofNat_le.2 q
 refine ⟨?_,by omega,by omega,by omega⟩;rw [h];simp only [bW];rw [Int.pow_succ,Int.add_mul,ydu 256 v,Int.mul_assoc v 256,ydu 256 (256^j),Int.add_comm (v*_),Int.add_assoc]
set_option maxRecDepth 100000 in
theorem Tryz.Jr (P L Bs B N a k:Nat) (g:Nat→Int) (w:World) (st:aV w P L Bs B N g) (hN:N≤1048576) (hk:k=1∨k=2∨k=4∨k=8) (hin:a+k≤N):
    Calls prog 42 #[.pointer (some ⟨P,0,none⟩),.int .u64 a,.int .i64 k] w fun e w'=>e= .returned (.tuple #[.int .u64 (bW g a k),.int .i64 0])∧Below w.heap.size w w':=by
  have hby:=Js P L Bs B N a k g w st hN (by omega) hin;have hwk:IntKind.wrap .u64 (k:Int)=k:=wrap_u64 _ (by omega) (by omega);go_enter func42,ntmps42;obtain ⟨k0,hk0,hk1⟩: ∃k0,k0≤k∧k≤k0:=⟨k,yaa _,yaa _⟩;have Sr:k0≤8:=by omega
  have aaM:a+k0≤N:=by omega
  have hk2:k0=1∨k0=2∨k0=4∨k0=8:=by omega
  have hw0:bW g a k=bW g a k0:=by rw [show k=k0 by omega]
  have hwp:(fun _:Unit=>bW g a k)=fun _=>bW g a k0:=by rw [hw0]
  clear hw0;rcases hk with rfl|rfl|rfl|rfl
  all_goals
    go_wp2_with (first
      | (go_at_call 83;refine hby.mono ?_;rintro e w1 ⟨rfl,hb1⟩)
      | go_in)
    go_loopw [10,11] (fun v c wr=> ∃(j:Nat) (x:Int),c= .int .i64 ((j:Int)-1)∧v= .int .u64 x∧j≤k0∧bW g a k0=bW g a j+x*256^j∧(0≤x∧x<256^(k0-j))∧wr=w1) (fun _ c _=>(RowKit.intOf c+1).toNat)
    case atStart=>exact ⟨k0,0,by congr 1;omega,rfl,yaa _,by simp,by simp,rfl⟩
    case round=>
      obtain ⟨j,x,rfl,rfl,hj,he,hx,rfl⟩:=hrel;cases j with
      | zero=>
        have hx1:x=bW g a k0:=by simp [bW] at he;exact he.symm
        rw [←congrFun hwp ()] at hx1;subst hx1;clear hwp;go_wp2;go_ret2;exact ⟨rfl,hb1⟩
      | succ j=>
        obtain ⟨q1,q2,q3,q4⟩:=zwU g st.byte a k0 j x hj Sr he hx;obtain ⟨c1,p1⟩:=(st.below hb1).p1;have p2:=(st.below hb1).b0;have hc:=(st.below hb1).full (a+j) (by omega);have abW:=st.byte (a+j);have w1':IntKind.wrap .u64 (256*x)=256*x:=wrap_u64 _ q3.1 q3.2;have w2':IntKind.wrap .u64 (g (a+j))=g (a+j):=wrap_u64 _ (by omega) (by omega);have w3':IntKind.wrap .u64 (256*x+g (a+j))=256*x+g (a+j):=wrap_u64 _ q2.1 q4;have ej:((j+1:Nat):Int)-1=j:=by push_cast;omega
        rw [ej];go_wp2;exact ⟨⟨j,_,rfl,rfl,by omega,q1,q2,trivial⟩,by simp only [RowKit.intOf];omega⟩
set_option maxRecDepth 100000 in
theorem Tryz.zxP (P L Bs B N k:Nat) (a:Int) (g:Nat→Int) (w:World) (st:aV w P L Bs B N g) (hN:N≤1048576) (hk:k=1∨k=2∨k=4∨k=8) (ha0:0≤a) (ha1:a<18446744073709551616) (hout: ¬a+k≤N):
    Calls prog 42 #[.pointer (some ⟨P,0,none⟩),.int .u64 a,.int .i64 k] w fun e w'=>e= .returned (.tuple #[.int .u64 0,.int .i64 5])∧Below w.heap.size w w':=by
  have hby:=WY P L Bs B N a k g w st hN ha0 ha1 (by omega) (by omega) (by omega);have hwk:IntKind.wrap .u64 (k:Int)=k:=wrap_u64 _ (by omega) (by omega);go_enter func42,ntmps42;rcases hk with rfl|rfl|rfl|rfl
  all_goals
    go_wp2_with (first
      | (go_at_call 83;refine hby.mono ?_;rintro e w1 ⟨rfl,hb1⟩)
      | go_in)
    go_ret2;exact ⟨rfl,hb1⟩
set_option maxRecDepth 100000 in
theorem Tryz.uS (P L Bs B N a k:Nat) (v:Int) (g:Nat→Int) (w:World) (st:aV w P L Bs B N g) (hN:N≤1048576) (hk:k=1∨k=2∨k=4∨k=8) (hin:a+k≤N):
    Calls prog 19 #[.pointer (some ⟨P,0,none⟩),.int .u64 a,.int .i64 k,.int .u64 v] w fun e w'=>e= .returned (.int .i64 0)∧aV w' P L Bs B N (iK g a k v)∧Mv (· =B) w w':=by
  have hby:=Js P L Bs B N a k g w st hN (by omega) hin;have hwk:IntKind.wrap .u64 (k:Int)=k:=wrap_u64 _ (by omega) (by omega);go_enter func19,ntmps19;obtain ⟨k0,hk0,hk1⟩: ∃k0,k0≤k∧k≤k0:=⟨k,yaa _,yaa _⟩;have Sr:k0≤8:=by omega
  have aaM:a+k0≤N:=by omega
  rcases hk with rfl|rfl|rfl|rfl
  all_goals
    go_wp2_with (first
      | (go_at_call 83;refine hby.mono ?_;rintro e w1 ⟨rfl,hb1⟩)
      | go_in)
    go_loopw [11] (fun c wr=> ∃i:Nat,i≤k0∧c= .int .i64 i∧aV wr P L Bs B N (iK g a i v)∧Mv (· =B) w wr) (fun c _=>k0-(RowKit.intOf c).toNat)
    case atStart=>exact ⟨0,yar _,rfl,(st.below hb1).congr (fun j=>Yf g a v j),Mv.of_below hb1⟩
    case round=>
      obtain ⟨i,hi,rfl,st',mv⟩:=hrel;by_cases hik:i<k0
      · obtain ⟨c1,p1⟩:=st'.p1;have p2:=st'.b0;have hc:=st'.full (a+i) (by omega);have hf:=st'.free (a+i) (by omega);have hw8:=wrap_u8 (v/2^(8*i));go_wp2;exact ⟨⟨i+1,by omega,by push_cast;rfl,(st'.Ee (a+i) (by omega) _ (ybI _ (by omega)) (ybC _ (by omega))).congr (fun j=>Ye g a i v j),mv.setCell _ _ _ (Or.inl rfl)⟩,by simp only [RowKit.intOf];omega⟩
      · have hge: ¬(i:Int)<k0:=by omega
        have hik':k0=i:=by omega
        subst hik';go_wp2;go_ret;refine ⟨rfl,?_,mv⟩
        first
          | exact st'
          | (rw [show (1:Nat)=k0 by omega];exact st')
          | (rw [show (2:Nat)=k0 by omega];exact st')
          | (rw [show (4:Nat)=k0 by omega];exact st')
          | (rw [show (8:Nat)=k0 by omega];exact st')
set_option maxRecDepth 100000 in
theorem Tryz.I9 (P L Bs B N:Nat) (a n:Int) (g:Nat→Int) (w:World) (st:aV w P L Bs B N g) (hN:N≤1048576) (ha0:0≤a) (ha1:a<18446744073709551616) (hn:0≤n) (hn1:n<18446744073709551616):
    Calls prog 59 #[.pointer (some ⟨P,0,none⟩),.int .u64 a,.int .u64 n] w fun e w'=>e= .returned (.bool (decide (1≤n∧a+n≤N)))∧Below w.heap.size w w':=by
  by_cases h:1≤n∧a+n≤N
  · obtain ⟨a',rfl⟩:=yaM ha0;obtain ⟨n',rfl⟩:=yaM hn;have hby:=Js P L Bs B N a' n' g w st hN (by omega) (by omega);rw [yaH h];go_enter func59,ntmps59;go_wp2_with (first
      | (go_at_call 83;refine hby.mono ?_;rintro e w1 ⟨rfl,hb1⟩)
      | go_in)
    go_ret;exact ⟨rfl,hb1⟩
  · have hby:=WY P L Bs B N a n g w st hN ha0 ha1 hn hn1 h;rw [yao h];go_enter func59,ntmps59;go_wp2_with (first
      | (go_at_call 83;refine hby.mono ?_;rintro e w1 ⟨rfl,hb1⟩)
      | go_in)
    go_ret;exact ⟨rfl,hb1⟩
theorem Tryz.aV.Ef {P L Bs B N:Nat}: ∀(xs:List Int) (a:Nat) (g:Nat→Int) (w:World),aV w P L Bs B N g→a+xs.length≤N→(∀x∈xs,0≤x∧x<256)→aV (w.setCells B a (xs.map (Value.int .u8))) P L Bs B N (eY g a xs)
 | [], _,_,_,h,_,_=>h
 | x::r,a,g,w,h,hl,hb=>by
  rw [yaU,World.setCells,eY];rw [yaX] at hl;have hx:=hb x (by simp);exact aV.Ef r (a+1) _ _ (h.Ee a (by omega) x hx.1 hx.2) (by omega) (fun y hy=>hb y (by simp [hy]))
set_option maxRecDepth 100000 in
theorem Tryz.I6 (P L Bs B N a R o c:Nat) (xs:List Int) (g:Nat→Int) (w:World) (st:aV w P L Bs B N g) (hN:N≤1048576) (hn:1≤xs.length) (hin:a+xs.length≤N) (hb: ∀x∈xs,0≤x∧x<256)
    (hr:w.rangeAt R o (xs.map (Value.int .u8))) (hR:R<w.heap.size):
    Calls prog 24 #[.pointer (some ⟨P,0,none⟩),.int .u64 a,.slice (some ⟨R,o,none⟩) xs.length c] w fun e w'=>e= .returned (.int .i64 0)∧aV w' P L Bs B N (eY g a xs)∧Mv (· =B) w w':=by
  have hby:=Js P L Bs B N a xs.length g w st hN (by omega) hin;have hwk:IntKind.wrap .u64 (xs.length:Int)=xs.length:=wrap_u64 _ (by omega) (by omega);have hcp:=fun w1 (h:Below w.heap.size w w1)=>run_copy_cells (P:=prog) w1 59 59 3 5 B a (N-a) (N-a) ⟨R,o,none⟩ xs.length c (xs.map (Value.int .u8)) underlying59 (by kernel_rfl) (by rw [yaK];exact (ydG (by omega)).symm) (fun j v hv=>by rw [ydb];exact (aX hr (h.block R hR)) j v hv)
    (fun j hj=>by rw [(st.below h).full (a+j) (by simp at hj;omega)];rfl) (fun j hj=>(st.below h).free (a+j) (by simp at hj;omega)) (fun v hv=>by obtain ⟨x,_,rfl⟩:=yaY.1 hv;rfl)
  rw [yaK] at hcp;go_enter func24,ntmps24;have hn0: ¬(xs.length:Int)=0:=by omega
  have b1:(0:Int)≤a:=by omega
  have b2:(a:Int)≤N:=by omega
  go_wp2_with (first
    | (go_at_call 83;refine hby.mono ?_;rintro e w1 ⟨rfl,hb1⟩;have hcp1:=hcp _ hb1;obtain ⟨c1,p1⟩:=(st.below hb1).p1;have p2:=(st.below hb1).b0)
    | go_in)
  go_ret;exact ⟨rfl,(st.below hb1).Ef xs a g _ hin hb,(Mv.of_below hb1).grown (Ns B _ _ _) (Or.inl rfl)⟩
set_option maxRecDepth 100000 in
theorem Tryz.zpw (P L Bs B N:Nat) (g:Nat→Int) (w:World) (st:aV w P L Bs B N g) (h1:1≤N) (hN:N≤1048576):
    Calls prog 37 #[.pointer (some ⟨P,0,none⟩)] w fun e w'=> ∃v,e= .returned v∧w'.ownsRow w.heap.size 5 1 v N (row g 0 N)∧Below w.heap.size w w':=by
  obtain ⟨i0,hi0,hz0,hz1,hzb⟩:=yba FO;have fO:w.ownsRow w.heap.size 5 1 (.slice none 0 0) 0 []:=⟨rfl,.inl ⟨rfl,rfl⟩⟩;obtain ⟨q1,p1⟩:=st.p1;have p2:=st.b0;have hr1:=st.range 0 N (by omega);go_enter func37,ntmps37;go_wp2;go_loopw [3,4] (fun v i w2=>(i= .int .i64 0∧v= .slice none 0 0∧w2=w)∨(i= .int .i64 1∧w2.ownsRow w.heap.size 5 1 v N (row g 0 N)∧Below w.heap.size w w2)) (fun _ i _=>1-(RowKit.intOf i).toNat)
  case atStart=>exact Or.inl ⟨rfl,rfl,rfl⟩
  case round=>
    rcases hrel with ⟨rfl,rfl,rfl⟩|⟨rfl,hrow2,hb2⟩
    · go_wp2_with (first
        | (at_builtin;go_loud (refine ybV _ rfl _ _ 59 rfl _ 5 i0 (.int .u8 0) 1 1 underlying59 hi0 hz0 hz1 hzb rfl (by decide) _ _ _ rfl fO ⟨B,0,none⟩ N N (row g 0 N) rfl (by rw [Ou];simp) (fun j v hv=>by rw [ydb];exact hr1 j v hv) (row_one g 0 N) (by unfold maxLen;omega) (by omega) (yaa _) ?_);intro v' w3 hown' hg3 hnil3;go_frame)
        | go_in)
      exact ⟨Or.inr ⟨rfl,by simpa using hown',(yab _ _).grown hg3 (yaa _) (fun j hj=>(fO.lt j hj).1)⟩,by simp [RowKit.intOf]⟩
    · obtain ⟨q2,MN⟩:=(st.below hb2).p1;go_wp2;go_ret;exact ⟨_,rfl,hrow2,hb2⟩
end Go.Proofs
namespace Go.Proofs
open Go.Dw
def Tryz.Xt:List bL:= []
def Tryz.YU:List Sh:=Ku (.lit 0) [xV 3 4 0]
def Tryz.Io:List (Nat×AV):=BX (.lit 0) [(.lit 0,3)]
def Tryz.Wu:List eH:= []
def Tryz.Wv:List gK:= []
def Tryz.Zy:Option AV:=some vO
def Tryz.zuO:List (SB×Bool):= []
def Tryz.zsx:List ko:= [
 ⟨.ret,[2],(some (.aK [.func 150 [] [.ptr 1 0,.ptr 2 0],.aK []])),⟨.aK [.ptr 1 0],[(1,[.int .i64 (.lit 2)]),(2,[.int .u64 (aP 2)])],[],0,[1,2]⟩⟩,
 ⟨.normal,[0,2,3,10,11,12],(some (.aK [.func 150 [] [.ptr 1 0,.ptr 2 0],.aK []])),⟨.aK [.sx 0 ((ai 0)) 3 [((.lit 0),3)],.ptr 1 0,.ptr 2 0,.sx 0 ((ai 0)) 3 [((.lit 0),3)],.int .i64 (ai 0),.int .i64 (.lit 1)],[(1,[.int .i64 (.lit 0)]),(2,[.int .u64 (.bin .add .u64 (aP 2) (bV 4))])],[],0,[1,2]⟩⟩,
 ⟨(.exit 0),[2],(some (.aK [.func 150 [] [.ptr 1 0,.ptr 2 0],.aK []])),⟨.aK [.ptr 1 0],[(1,[.int .i64 (.lit 0)]),(2,[.int .u64 (aP 2)])],[],0,[1,2]⟩⟩]
def Tryz.zsw:List (List (SB×Bool)×Nat):= [
 ([((.cmp .lss (.lit 0) (ai 0)),true),((.cmp .lss (bV 4) (.lit 1)),true)],0),
 ([((.cmp .lss (.lit 0) (ai 0)),true),((.cmp .lss (bV 4) (.lit 1)),false),((.cmp .gtr (.bin .sub .u64 (bV 4) (.lit 1)) (.bin .sub .u64 (.lit 18446744073709551615) (aP 3))),true)],0),
 ([((.cmp .lss (.lit 0) (ai 0)),true),((.cmp .lss (bV 4) (.lit 1)),false),((.cmp .gtr (.bin .sub .u64 (bV 4) (.lit 1)) (.bin .sub .u64 (.lit 18446744073709551615) (aP 3))),false)],1),
 ([((.cmp .lss (.lit 0) (ai 0)),false)],2)]
theorem Tryz.zuN:(kH prog (dW Xt) (lT Wu) (lu Wv) 100000 (.code (bS prog [0,0,1,0,1,1,1,1,106]) [0,0,1,0,1,1,1,1,106] 53 (bP 53 Io Zy) (dP 0 YU) (jE zsx 0))).ways zuO=some zsw:=by kernel_rfl
theorem Tryz.zxk:(fe YU&&eZ Xt&&lJ Wu&&lK Wv&&jC Io&&lN zsx&&jo 53 Io&&Nat.ble 53 bN&&lQ Zy)=true:=by kernel_rfl
def Tryz.Xr:List bL:= []
def Tryz.YS:List Sh:=Ku (.lit 0) [xV 3 4 0,xV 5 6 1]
def Tryz.Im:List (Nat×AV):=BX (ai 1) [(ai 1,3),(.bin .sub .i64 (ai 1) (.lit 1),4)]
def Tryz.Ws:List eH:= []
def Tryz.Wt:List gK:= []
def Tryz.YT:Option AV:=some vO
def Tryz.zuM:List (SB×Bool):= [(.cmp .lss (ai 1) (ai 0),true),(.cmp .gtr (ai 1) (.lit 0),true)]
def Tryz.zsv:List ko:= [
 ⟨.ret,[2],(some (.aK [.func 150 [] [.ptr 1 0,.ptr 2 0],.aK []])),⟨.aK [.ptr 1 0],[(1,[.int .i64 (.lit 2)]),(2,[.int .u64 (aP 2)])],[],0,[1,2]⟩⟩,
 ⟨.normal,[0,2,3,10,11,12],(some (.aK [.func 150 [] [.ptr 1 0,.ptr 2 0],.aK []])),⟨.aK [.sx 0 ((ai 0)) 3 [((ai 1),3),((.bin .sub .i64 (ai 1) (.lit 1)),4)],.ptr 1 0,.ptr 2 0,.sx 0 ((ai 0)) 3 [((ai 1),3),((.bin .sub .i64 (ai 1) (.lit 1)),4)],.int .i64 (ai 0),.int .i64 (.bin .add .i64 (ai 1) (.lit 1))],[(1,[.int .i64 (.lit 0)]),(2,[.int .u64 (.bin .add .u64 (aP 2) (bV 4))])],[],0,[1,2]⟩⟩]
def Tryz.zsu:List (List (SB×Bool)×Nat):= [
 ([((.cmp .lss (bV 4) (.lit 1)),true)],0),
 ([((.cmp .lss (bV 4) (.lit 1)),false),((.cmp .gtr (.bin .sub .u64 (bV 4) (.lit 1)) (.bin .sub .u64 (.lit 18446744073709551615) (aP 3))),true)],0),
 ([((.cmp .lss (bV 4) (.lit 1)),false),((.cmp .gtr (.bin .sub .u64 (bV 4) (.lit 1)) (.bin .sub .u64 (.lit 18446744073709551615) (aP 3))),false),(.var 1,true),(.var 0,false)],0),
 ([((.cmp .lss (bV 4) (.lit 1)),false),((.cmp .gtr (.bin .sub .u64 (bV 4) (.lit 1)) (.bin .sub .u64 (.lit 18446744073709551615) (aP 3))),false),(.var 1,true),(.var 0,true)],1),
 ([((.cmp .lss (bV 4) (.lit 1)),false),((.cmp .gtr (.bin .sub .u64 (bV 4) (.lit 1)) (.bin .sub .u64 (.lit 18446744073709551615) (aP 3))),false),(.var 1,false)],1)]
theorem Tryz.zuL:(kH prog (dW Xr) (lT Ws) (lu Wt) 100000 (.code (bS prog [0,0,1,0,1,1,1,1,106]) [0,0,1,0,1,1,1,1,106] 53 (bP 53 Im YT) (dP 0 YS) (jE zsv 0))).ways zuM=some zsu:=by kernel_rfl
theorem Tryz.zxj:(fe YS&&eZ Xr&&lJ Ws&&lK Wt&&jC Im&&lN zsv&&jo 53 Im&&Nat.ble 53 bN&&lQ YT)=true:=by kernel_rfl
def Tryz.Xq:List bL:= []
def Tryz.YQ:List Sh:=Ku (.lit 0) []
def Tryz.Il:List (Nat×AV):=BX (ai 1) []
def Tryz.Wp:List eH:= []
def Tryz.Wq:List gK:= []
def Tryz.YR:Option AV:=some vO
def Tryz.zuK:List (SB×Bool):= [(.cmp .lss (ai 1) (ai 0),false)]
def Tryz.zst:List ko:= [
 ⟨(.exit 0),[2],(some (.aK [.func 150 [] [.ptr 1 0,.ptr 2 0],.aK []])),⟨.aK [.ptr 1 0],[(1,[.int .i64 (.lit 0)]),(2,[.int .u64 (aP 2)])],[],0,[1,2]⟩⟩]
def Tryz.zss:List (List (SB×Bool)×Nat):= [
 ([], 0)]
theorem Tryz.zuJ:(kH prog (dW Xq) (lT Wp) (lu Wq) 100000 (.code (bS prog [0,0,1,0,1,1,1,1,106]) [0,0,1,0,1,1,1,1,106] 53 (bP 53 Il YR) (dP 0 YQ) (jE zst 0))).ways zuK=some zss:=by kernel_rfl
theorem Tryz.zxi:(fe YQ&&eZ Xq&&lJ Wp&&lK Wq&&jC Il&&lN zst&&jo 53 Il&&Nat.ble 53 bN&&lQ YR)=true:=by kernel_rfl
def Tryz.YP:List bL:= []
def Tryz.zsq:List Sh:=Ku (.lit 0) []
def Tryz.IY:List (Nat×AV):= [(2,.ptr 1 0)]
def Tryz.Xo:List eH:= []
def Tryz.Xp:List gK:= []
def Tryz.zsr:Option AV:=some vO
def Tryz.zxh:List (SB×Bool):= []
def Tryz.zvs:List ko:= [
 ⟨.ret,[2],(some (.aK [.func 150 [] [.ptr 1 0,.ptr 2 0],.aK []])),⟨.aK [.ptr 1 0],[(1,[.int .i64 (.lit 0)]),(2,[.int .u64 (aP 2)])],[],0,[1,2]⟩⟩]
def Tryz.zvr:List (List (SB×Bool)×Nat):= [
 ([], 0)]
theorem Tryz.zxg:(kH prog (dW YP) (lT Xo) (lu Xp) 100000 (.code (bS prog [1,1,1,1,1,106]) [1,1,1,1,1,106] 53 (bP 53 IY zsr) (dP 0 zsq) (jE zvs 0))).ways zxh=some zvr:=by kernel_rfl
theorem Tryz.zyf:(fe zsq&&eZ YP&&lJ Xo&&lK Xp&&jC IY&&lN zvs&&jo 53 IY&&Nat.ble 53 bN&&lQ zsr)=true:=by kernel_rfl
open Go.RowKit
theorem Tryz.mixed:prog.follows .mixedOrders=true:=by kernel_rfl
section
variable {r:Tryz.Rg} {is:List Int} {bs:List Bool} {vs:List Value}
end
theorem Tryz.BL {ρ:Val} {i n:Nat} (h0:0≤ρ.i i) (h1:ρ.i i<18446744073709551616):SE.den ρ (.bn [⟨i,0,18446744073709551615,0,n,0⟩] 0)=ρ.i i%2^n:=by
 obtain ⟨x,hx⟩:=yaM h0;simp only [SE.den,aJ,aL.den,hx,yaS,ycH,ycN,ydd];rw [hx] at h1;have e:max 0 (min x 18446744073709551615)=x:=by omega
 rw [e];rfl
end Go.Proofs
namespace Go.Proofs
open Go.Dw Go.RowKit
structure Tryz.Sg where
 bB:Int
 len:Int
 wr:Bool
deriving DecidableEq
def Tryz.Sg.cells (x:Sg):List Value:= [.int .u64 x.bB,.int .u32 x.len,.bool x.wr]
def Tryz.dA (l:List Sg):List Value:=l.flatMap Sg.cells
def Tryz.Sg.ok (x:Sg):Prop:=0≤x.bB∧x.bB<18446744073709551616∧0≤x.len∧x.len<4294967296
theorem Tryz.NR (x:Sg) (r:List Sg):dA (x::r)= .int .u64 x.bB:: .int .u32 x.len:: .bool x.wr::dA r:=rfl
theorem Tryz.yY (l:List Sg):(dA l).length=3*l.length:=by
 induction l with
 | nil=>rfl
 | cons x r ih=>
  rw [NR];simp only [yaX,ih];omega
theorem Tryz.UO (l:List Sg) (i:Nat) (hi:i<l.length):(dA l)[3*i]? =some (.int .u64 l[i].bB)∧(dA l)[3*i+1]? =some (.int .u32 l[i].len)∧(dA l)[3*i+2]? =some (.bool l[i].wr):=by
 induction l generalizing i with
 | nil=>simp at hi
 | cons x r ih=>
  cases i with
  | zero=>exact ⟨rfl,rfl,rfl⟩
  | succ i=>
   have h:=ih i (by simpa using hi);rw [NR,show 3*(i+1)=3*i+1+1+1 by omega,show 3*i+1+1+1+1=(3*i+1)+1+1+1 by omega,show 3*i+1+1+1+2=(3*i+2)+1+1+1 by omega];simp only [yaG,ycp];exact h
theorem Tryz.Ep (l:List Sg): ∀v∈dA l,v.oneCell'=true:=fun v hv=>by
 simp only [dA,ydx,Sg.cells,yaj,yaq,yaZ] at hv;obtain ⟨x,_,rfl|rfl|rfl⟩:=hv<;>rfl
theorem Tryz.xq {w:World} {R o:Nat} {l:List Sg} (h:w.rangeAt R o (dA l)) (k:Nat) (hk:k<l.length):w.rangeAt R (o+3*k) l[k].cells:=fun j v hv=>by
 obtain ⟨h0,h1,h2⟩:=UO l k hk
 match j,hv with
 | 0,hv=>cases hv;exact h _ _ h0
 | 1,hv=>cases hv;have:=h _ _ h1;rwa [←ybn] at this
 | 2,hv=>cases hv;have:=h _ _ h2;rwa [←ybn] at this
 | j+3,hv=>cases hv
def Tryz.bC (A:Nat→Prop) (w:World) (v:Value) (l:List Sg):Prop:=
 ∃ (sa:Option Addr) (c:Nat),v= .slice sa l.length c∧(∀x∈l,x.ok)∧(l= []∨ ∃R o,sa=some ⟨R,o,none⟩∧ ¬A R∧w.rangeAt R o (dA l))
theorem Tryz.tO {w:World} {R o:Nat} {l:List Sg} (h:w.rangeAt R o (dA l)) (h0:l≠ []):R<w.heap.size:=by
 have h1:0<(dA l).length:=by
  rw [yY];have:=ybw.2 h0;omega
 exact yan w ⟨R,o+0,none⟩ (h 0 _ (yai h1))
theorem Tryz.bC.kept {A:Nat→Prop} {w w':World} {v:Value} {l:List Sg} (h:bC A w v l) (hk: ∀k,k<w.heap.size→ ¬A k→w'.heap[k]? =w.heap[k]?):bC A w' v l:=by
 obtain ⟨sa,c,rfl,hl,hr⟩:=h;refine ⟨sa,c,rfl,hl,?_⟩;rcases hr with h0|⟨R,o,rfl,hn,hr⟩
 ·exact Or.inl h0
 ·by_cases h0:l= []
  ·exact Or.inl h0
  ·exact Or.inr ⟨R,o,rfl,hn,aX hr (hk R (tO hr h0) hn)⟩
theorem Tryz.bC.below {A:Nat→Prop} {w w':World} {v:Value} {l:List Sg} (h:bC A w v l) (hb:Below w.heap.size w w'):bC A w' v l:=h.kept (fun k hk _=>hb.block k hk)
structure Tryz.SS where
 ev:Bool
 tb:Bool
 pk:Bool
 nx:Int
 us:Int
 tk:List (Int×List Sg)
 ph:Nat
 op:Int
 nn:Bool
 hd:Int
 sg:List Sg
 wr:Int
 it:Bool
 dn:Bool
 br:Bool
theorem Tryz.oO {w:World} {S:Nat} {ρ:Val} {j:J} {K:Nat→Prop} {g:bO} {row:List AV} {vals:List Value} (h:Own w S vals) (hr:RL ρ j row vals) (hK:K S):Cs ρ j (ng w K g) (S,0) (.own row):=by
 obtain ⟨arr,e,h1,h2⟩:=h;exact ⟨hK,rfl,vals,arr,e,h1,hr,h2⟩
theorem Tryz.bC.none {A:Nat→Prop} {w:World}:bC A w (.slice none 0 0) []:=⟨Option.none,0,rfl,fun _ h=>(by cases h),Or.inl rfl⟩
def Tryz.iM (pw:Bool) (sum:Int):List Sg→Int
 | [] => if 4294967296≤sum then 2 else 0
 | x::r=>if x.len<1∨18446744073709551615-x.bB<x.len-1∨(pw=true∧x.wr=false) then 2 else iM x.wr (sum+x.len) r
def Tryz.gJ (l:List Sg):Int:=if 64<l.length then 3 else iM false 0 l
theorem Tryz.mr {P:Program} {c c':Code} {Q:Exit→Act→World→Prop} {a:Act} {w:World} (e:c=c') (h:c'.wp P Q a w):c.wp P Q a w:=e▸h
structure Tryz.FQ (l:List Sg) (sa:Option Addr) (c E C:Nat) (w0:World) (k:Nat) (a:Act) (w:World):Prop where
 kl:k≤l.length
 size:a.tmps.size=53
 s0:a.tmps.getD 0 undef= .slice sa l.length c
 s2:a.tmps.getD 2 undef= .pointer (some ⟨E,0,none⟩)
 s3:a.tmps.getD 3 undef= .pointer (some ⟨C,0,none⟩)
 s10:a.tmps.getD 10 undef= .slice sa l.length c
 s11:a.tmps.getD 11 undef= .int .i64 l.length
 s12:a.tmps.getD 12 undef= .int .i64 k
 dH: ∃d,a.defers= [d]∧ ∃args cap,d.target= .fn (.func 150) cap∧d.args=args∧(args++cap).toList= [.pointer (some ⟨E,0,none⟩),.pointer (some ⟨C,0,none⟩)]
 mv:Dw.Mv (fun b=>b=E∨b=C) w0 w
 sum: ∃pw s,Own w E [.int .i64 0]∧Own w C [.int .u64 s]∧0≤s∧s≤k*4294967296∧iM pw s (l.drop k)=iM false 0 l∧(k=0→pw=false)∧(∀i,k=i+1→ ∃h:i<l.length,pw=l[i].wr)
def Tryz.eG (n k s:Int) (x y:Sg) (sl:Value):Val:=dO [n,k,s,x.bB,x.len,y.bB,y.len] [x.wr,y.wr] [sl]
theorem Tryz.xD {ρ:Val} {j:J} {E C:Nat} {ds:List Deferred} (h:vI ρ j (some vO) ds) (h1:j 1=some ⟨E,0,0,none⟩) (h2:j 2=some ⟨C,0,0,none⟩):
  ∃ d,ds= [d]∧ ∃args cap,d.target= .fn (.func 150) cap∧d.args=args∧(args++cap).toList= [.pointer (some ⟨E,0,none⟩),.pointer (some ⟨C,0,none⟩)]:=by
 cases ds with
 | nil=>cases h
 | cons d ds=>
  obtain ⟨g,args,rest,cap,e1,e2,e3,e4⟩:=h;unfold vO at e1;cases e1;cases ds with
  | cons d' ds'=>obtain ⟨_,_,_,_,e,_⟩:=e4;cases e
  | nil=>
   refine ⟨d,rfl,d.args,cap,e2,rfl,?_⟩;obtain ⟨v1,m1,q1,⟨L1,r1,rfl⟩,v2,m2,rfl,⟨L2,r2,rfl⟩,q3⟩:=e3;rw [h1] at r1;cases r1;rw [h2] at r2;cases r2;have q3:m2= []:=q3;rw [q1,q3]
theorem Tryz.FX {ρ:Val} {j:J} {E C:Nat} {ds:List Deferred} (h1:j 1=some ⟨E,0,0,none⟩) (h2:j 2=some ⟨C,0,0,none⟩)
  (h: ∃d,ds= [d]∧ ∃args cap,d.target= .fn (.func 150) cap∧d.args=args∧(args++cap).toList= [.pointer (some ⟨E,0,none⟩),.pointer (some ⟨C,0,none⟩)]):vI ρ j (some vO) ds:=by
 obtain ⟨d,rfl,args,cap,e1,rfl,e3⟩:=h;exact ⟨_,_,_,cap,rfl,e1,by rw [e3];exact ay (vG h1) (ay (vG h2) RL.nil),rfl⟩
theorem Tryz.zkL {w:World} {R o:Nat} {vs:List Value} (h:w.rangeAt R o vs) (h0:vs≠ []): ∃(arr:Array Value) (e:TypeId) (fr:Nat×Nat),w.heap[R]? =some (.cells arr e fr)∧o+vs.length≤arr.size∧ ∀(i:Nat) (y:Value),vs[i]? =some y→arr[o+i]? =some y:=by
 have hc: ∀(i:Nat) (y:Value),vs[i]? =some y→ ∃arr e fr,w.heap[R]? =some (.cells arr e fr)∧arr[o+i]? =some y:=fun i y hy=>by
  have:=h i y hy;unfold World.cell? at this;split at this
  ·rename_i arr e fr he;exact ⟨arr,e,fr,he,this⟩
  ·cases this
 obtain ⟨y0,hy0⟩: ∃y,vs[0]? =some y:=⟨vs[0]'(ybw.2 h0),yai (ybw.2 h0)⟩;obtain ⟨arr,e,fr,he,_⟩:=hc 0 y0 hy0;refine ⟨arr,e,fr,he,?_,fun i y hy=> ?_⟩
 ·have hl:vs.length-1<vs.length:=by have:=ybw.2 h0;omega
  obtain ⟨arr',e',fr',he',hy'⟩:=hc (vs.length-1) _ (yai hl);rw [he] at he';cases he';have:=(yax.1 hy').1;omega
 ·obtain ⟨arr',e',fr',he',hy'⟩:=hc i y hy;rw [he] at he';cases he';exact hy'
theorem Tryz.rG {w:World} {X o:Nat} {ρ:Val} {j:J} {K:Nat→Prop} {g:bO} {row:List AV} {vals:List Value} (h:w.rangeAt X o vals) (h0:vals≠ []) (hr:RL ρ j row vals) (hK: ¬K X):Cs ρ j (ng w K g) (X,o) (.ro row):=by
 obtain ⟨arr,e,fr,h1,h2,h3⟩:=zkL h h0;exact ⟨hK,vals,arr,e,fr,h1,hr,by rw [←RL.length hr];exact h2,h3⟩
structure Tryz.KG (E C:Nat) (w0:World) (e s:Int) (a:Act) (w:World):Prop where
 size:a.tmps.size=53
 s2:a.tmps.getD 2 undef= .pointer (some ⟨E,0,none⟩)
 dH: ∃d,a.defers= [d]∧ ∃args cap,d.target= .fn (.func 150) cap∧d.args=args∧(args++cap).toList= [.pointer (some ⟨E,0,none⟩),.pointer (some ⟨C,0,none⟩)]
 mv:Dw.Mv (fun b=>b=E∨b=C) w0 w
 oE:Own w E [.int .i64 e]
 oC:Own w C [.int .u64 s]
theorem Tryz.jZ {ρ:Val} {lc:Nat→Dw.Loc} {L:List Value} {vs:List AV} (h:Ending.returned (.tuple L.toArray)= .returned ((AV.aK vs).val ρ lc)):L=AV.bK ρ lc vs:=by
 injection h with h;unfold AV.val at h;injection h with h;simpa using yaB Array.toList h
theorem Tryz.zuP {l:List Sg} {sa:Option Addr} {c E C:Nat} {w0:World} {k:Nat} {a:Act} {w:World} (h:FQ l sa c E C w0 k a w) (hl:l.length≤64) (hok: ∀x∈l,x.ok) (hne:E≠C) (hE:E<w0.heap.size) (hC:C<w0.heap.size)
    (hr:l= []∨ ∃R o,sa=some ⟨R,o,none⟩∧R≠E∧R≠C∧w0.rangeAt R o (dA l)):
    (bS prog [0,0,1,0,1,1,1,1,106]).wp prog (fun ex a' w'=>match ex with
      | .normal=>k<l.length∧FQ l sa c E C w0 (k+1) a' w'
      | ex=>(ex= .ret∧iM false 0 l=2∧ ∃s,KG E C w0 2 s a' w')∨(ex= .exit 0∧ ∃s,0≤s∧s<18446744073709551616∧iM false 0 l=(if 4294967296≤s then 2 else 0)∧KG E C w0 0 s a' w')) a w:=by
  obtain ⟨kl,size,s0,s2,s3,s10,s11,s12,dH,mv,pw,s,oE,oC,hs0,hs1,hsw,hp0,hp1⟩:=h;have hEw:E<w.heap.size:=FD oE;have hCw:C<w.heap.size:=FD oC;have hK: ∀b,(b=E∨b=C)→b<w.heap.size:=fun b hb=>by rcases hb with rfl|rfl<;>assumption
  by_cases hkl:k<l.length
  · rcases hr with h0|⟨R,o,rfl,hRE,hRC,hr⟩
    · rw [h0] at hkl;simp at hkl
    have Lj:=tO hr (by intro h0;rw [h0] at hkl;simp at hkl);have hrw:w.rangeAt R o (dA l):=aX hr (mv.block R Lj (by rintro (e|e)<;>contradiction));have hx:=xq hrw k hkl;have hxo:=hok l[k] (yaA hkl);rw [ybx hkl] at hsw;have Le: ¬(R=E∨R=C):=by rintro (e|e)<;>contradiction
    generalize hX:l[k]=X at hx hxo hsw;obtain ⟨Uk,xa1,Ul,Um⟩:=hxo;rw [iM] at hsw;have fin: ∀ {a':Act} {w':World} {ρ:Val} {j:J},a'.tmps.size=53→vI ρ j (some vO) a'.defers→j 1=some ⟨E,0,0,none⟩→j 2=some ⟨C,0,0,none⟩→Dw.Mv (fun b=>b=E∨b=C) w w'→
        Own w' E [.int .i64 0]→Own w' C [.int .u64 (s+X.len)]→
        ([0,2,3,10,11,12].map fun t=>a'.tmps.getD t undef)= [.slice (some ⟨R,o,none⟩) l.length c,.pointer (some ⟨E,0,none⟩),.pointer (some ⟨C,0,none⟩),.slice (some ⟨R,o,none⟩) l.length c,.int .i64 l.length,.int .i64 (k+1)]→
        iM X.wr (s+X.len) (l.drop (k+1))=iM false 0 l→k<l.length∧FQ l (some ⟨R,o,none⟩) c E C w0 (k+1) a' w':=fun {a' w' ρ j} q1 q2 q3 q4 q5 q6 q7 q8 q9=>by
      simp only [yaU,ybM,ybb,ybq] at q8;obtain ⟨t0,t2,t3,t10,t11,t12⟩:=q8;refine ⟨hkl,⟨by omega,q1,t0,t2,t3,t10,t11,by rw [t12];norm_cast,xD q2 q3 q4,mv.trans q5,X.wr,s+X.len,q6,q7,by omega,by push_cast;omega,q9,by omega,fun i hi=> ?_⟩⟩;have:k=i:=by omega
      subst this;exact ⟨hkl,by rw [hX]⟩
    have hden: ∀(n k' s':Int) (x y:Sg) (sl:Value),n=l.length→0≤k'→k'<64→0≤s'→s'<18446744073709551616→x.ok→(ai 0).den (eG n k' s' x y sl)=l.length∧(ai 1).den (eG n k' s' x y sl)=k'∧(aP 2).den (eG n k' s' x y sl)=s'∧(aP 3).den (eG n k' s' x y sl)=x.bB∧(bV 4).den (eG n k' s' x y sl)=x.len:=fun n k' s' x y sl h1 h2 h3 h4 h5 h6=>by
      subst h1;exact ⟨lU (by show (0:Int)≤l.length;omega) (by show ((l.length:Nat):Int)<_;omega),lU h2 (by show k'<_;omega),lq h4 h5,lq h6.1 h6.2.1,xw h6.2.2.1 h6.2.2.2⟩
    have CX:X.ok:=⟨Uk,xa1,Ul,Um⟩;have hwl:IntKind.wrap .u64 (X.len-1)=(X.len-1)%18446744073709551616:=Xi _;have qW:IntKind.wrap .u64 (18446744073709551615-X.bB)=18446744073709551615-X.bB:=iN (by omega) (by omega);have hws:IntKind.wrap .u64 (s+X.len)=s+X.len:=iN (by omega) (by omega);rcases ybB k with hk0|hk0
    · subst hk0;have hpw:=hp0 rfl;subst hpw;obtain ⟨d0,d1,d2,d3,d4⟩:=hden l.length 0 s X X (.slice (some ⟨R,o,none⟩) l.length c) rfl (by omega) (by omega) hs0 (by omega) CX;have hj1:cB [(E,0),(C,0),(R,o)] 1=some ⟨E,0,0,none⟩:=rfl;have hj2:cB [(E,0),(C,0),(R,o)] 2=some ⟨C,0,0,none⟩:=rfl;have hj3:cB [(E,0),(C,0),(R,o)] 3=some ⟨R,o,0,none⟩:=rfl;have hsx:Dw.R (eG l.length 0 s X X (.slice (some ⟨R,o,none⟩) l.length c)) (cB [(E,0),(C,0),(R,o)]) (mZ [(.lit 0,3)]) (.slice (some ⟨R,o,none⟩) l.length c):=⟨rfl,_,_,_,rfl,d0.symm,⟨R,o,_,0,rfl,hj3,rfl,rfl,hkl,rfl⟩,trivial⟩;refine ybu (oN (ρ:=eG l.length 0 s X X (.slice (some ⟨R,o,none⟩) l.length c)) (K:=fun b=>b=E∨b=C) (g:=bO.none) (bl:= [(E,0),(C,0),(R,o)]) mixed zuN zxk hK
        ⟨oO oE (ay (aO rfl) RL.nil) (.inl rfl),oO oC (ay (aO d2) RL.nil) (.inr rfl),rG hx (by unfold Sg.cells;simp) (ay (aO d3) (ay (aO d4) (ay (dQ rfl) RL.nil))) Le,trivial⟩
        ⟨fun _ i b' s' h1 h2 h3=>(by match i,h1,h2 with|0,h1,_=>cases h1;exact hne|1,_,h2=>cases h2;cases h3|i+2,h1,_=>cases h1),fun _ i b' s' h1 h2 h3=>(by match i,h1,h2 with|0,_,h2=>cases h2;cases h3|i+1,h1,_=>cases h1),fun h=>(by cases h),trivial⟩
        ja trivial trivial trivial size (FX hj1 hj2 dH) ?_ (zap.2 trivial)) fun ex a' w' hh=> ?_
      · intro t ht;simp only [Io,BX,yaj,yaq,yaZ] at ht;rcases ht with rfl|rfl|rfl|rfl|rfl|rfl
        · rw [s0];exact hsx
        · rw [s2];exact vG hj1
        · rw [s3];exact vG hj2
        · rw [s10];exact hsx
        · rw [s11];exact aO d0
        · rw [s12];exact aO rfl
      · obtain ⟨q,hq,hto,lf,hlf,rfl,hsz,j,hdf,he⟩:=hh;have eU:=he.sub _ _ hj1;have gG:=he.sub _ _ hj2;unfold zsw at hq;simp only [yaj,yaq,yaZ] at hq;rcases hq with rfl|rfl|rfl|rfl
        all_goals
          simp only [bH,zap,rO,fD,j6,iL,bF,d0,d1,d2,d3,d4,hwl,qW,yaL,yaR,ybq] at hto;cases hlf
        · exact .inl ⟨rfl,by rw [←hsw,yak (by omega)],_,hsz,by have:=jZ he.ret;simpa [AV.bK,AV.val,gQ eU] using this,xD hdf eU gG,mv.trans he.mv,(he.rows.1 _ eU).2 (.inr (.inl rfl)) rfl,(he.rows.2.1 _ gG).2 (.inr (.inr rfl)) rfl⟩
        · exact .inl ⟨rfl,by rw [←hsw,yak (by omega)],_,hsz,by have:=jZ he.ret;simpa [AV.bK,AV.val,gQ eU] using this,xD hdf eU gG,mv.trans he.mv,(he.rows.1 _ eU).2 (.inr (.inl rfl)) rfl,(he.rows.2.1 _ gG).2 (.inr (.inr rfl)) rfl⟩
        · refine fin hsz hdf eU gG he.mv ((he.rows.1 _ eU).2 (.inr (.inl rfl)) rfl) ?_ ?_ ?_
          · have:=(he.rows.2.1 _ gG).2 (.inr (.inr rfl)) rfl;simpa only [AV.bK,AV.val,den_add,d2,d4,hws] using this
          · have:=jZ he.ret;rw [this];simp only [AV.bK,AV.val,gQ eU,gQ gG,d0,bF];rfl
          · rw [←hsw,yah (by rintro (h|h|⟨h,_⟩);omega;omega;cases h)]
        · omega
    · obtain ⟨i,rfl⟩: ∃i,k=i+1:=⟨k-1,by omega⟩;obtain ⟨hil,hpw⟩:=hp1 i rfl;have hy:=xq hrw i hil;have qY:=hok l[i] (yaA hil);generalize hY:l[i]=Y at hy qY hpw;subst hpw;have hkk:IntKind.wrap .i64 (((i+1:Nat):Int)+1)=((i+1:Nat):Int)+1:=dV (by omega) (by omega);have hk1:IntKind.wrap .i64 (((i+1:Nat):Int)-1)=(i:Int):=by rw [dV (by omega) (by omega)];omega
      obtain ⟨d0,d1,d2,d3,d4⟩:=hden l.length (i+1:Nat) s X Y (.slice (some ⟨R,o,none⟩) l.length c) rfl (by omega) (by omega) hs0 (by omega) CX;have hj1:cB [(E,0),(C,0),(R,o+3*(i+1)),(R,o+3*i)] 1=some ⟨E,0,0,none⟩:=rfl;have hj2:cB [(E,0),(C,0),(R,o+3*(i+1)),(R,o+3*i)] 2=some ⟨C,0,0,none⟩:=rfl;have hj3:cB [(E,0),(C,0),(R,o+3*(i+1)),(R,o+3*i)] 3=some ⟨R,o+3*(i+1),0,none⟩:=rfl;have hj4:cB [(E,0),(C,0),(R,o+3*(i+1)),(R,o+3*i)] 4=some ⟨R,o+3*i,0,none⟩:=rfl;have hsx:Dw.R (eG l.length (i+1:Nat) s X Y (.slice (some ⟨R,o,none⟩) l.length c)) (cB [(E,0),(C,0),(R,o+3*(i+1)),(R,o+3*i)]) (mZ [(ai 1,3),(.bin .sub .i64 (ai 1) (.lit 1),4)]) (.slice (some ⟨R,o,none⟩) l.length c):=⟨rfl,_,_,_,rfl,d0.symm,⟨R,o,_,i+1,rfl,hj3,rfl,d1,hkl,rfl⟩,⟨R,o,_,i,rfl,hj4,rfl,by rw [iL,d1,bF];exact hk1,hil,rfl⟩,trivial⟩;refine ybu (oN (ρ:=eG l.length (i+1:Nat) s X Y (.slice (some ⟨R,o,none⟩) l.length c)) (K:=fun b=>b=E∨b=C) (g:=bO.none) (bl:= [(E,0),(C,0),(R,o+3*(i+1)),(R,o+3*i)]) mixed zuL zxj hK
        ⟨oO oE (ay (aO rfl) RL.nil) (.inl rfl),oO oC (ay (aO d2) RL.nil) (.inr rfl),rG hx (by unfold Sg.cells;simp) (ay (aO d3) (ay (aO d4) (ay (dQ rfl) RL.nil))) Le,rG hy (by unfold Sg.cells;simp) (ay (aO (lq qY.1 qY.2.1)) (ay (aO (xw qY.2.2.1 qY.2.2.2)) (ay (dQ rfl) RL.nil))) Le,trivial⟩
        ⟨fun _ i b' s' h1 h2 h3=>(by match i,h1,h2 with|0,h1,_=>cases h1;exact hne|1,_,h2=>cases h2;cases h3|2,_,h2=>cases h2;cases h3|i+3,h1,_=>cases h1),fun _ i b' s' h1 h2 h3=>(by match i,h1,h2 with|0,_,h2=>cases h2;cases h3|1,_,h2=>cases h2;cases h3|i+2,h1,_=>cases h1),fun h=>(by cases h),fun h=>(by cases h),trivial⟩
        ja trivial trivial trivial size (FX hj1 hj2 dH) ?_ (bH.2 ⟨by rw [fD,d0,d1];simp only [yaL];omega,bH.2 ⟨by rw [rO,d1,bF];simp only [yaL];omega,zap.2 trivial⟩⟩)) fun ex a' w' hh=> ?_
      · intro t ht;simp only [Im,BX,yaj,yaq,yaZ] at ht;rcases ht with rfl|rfl|rfl|rfl|rfl|rfl
        · rw [s0];exact hsx
        · rw [s2];exact vG hj1
        · rw [s3];exact vG hj2
        · rw [s10];exact hsx
        · rw [s11];exact aO d0
        · rw [s12];exact aO d1
      · obtain ⟨q,hq,hto,lf,hlf,rfl,hsz,j,hdf,he⟩:=hh;have eU:=he.sub _ _ hj1;have gG:=he.sub _ _ hj2;unfold zsu at hq;simp only [yaj,yaq,yaZ] at hq;rcases hq with rfl|rfl|rfl|rfl|rfl
        all_goals
          simp only [bH,zap,rO,fD,j6,iL,bF,d0,d1,d2,d3,d4,hwl,qW,yaL,yaR,ybq] at hto;cases hlf
        · exact .inl ⟨rfl,by rw [←hsw,yak (by omega)],_,hsz,by have:=jZ he.ret;simpa [AV.bK,AV.val,gQ eU] using this,xD hdf eU gG,mv.trans he.mv,(he.rows.1 _ eU).2 (.inr (.inl rfl)) rfl,(he.rows.2.1 _ gG).2 (.inr (.inr rfl)) rfl⟩
        · exact .inl ⟨rfl,by rw [←hsw,yak (by omega)],_,hsz,by have:=jZ he.ret;simpa [AV.bK,AV.val,gQ eU] using this,xD hdf eU gG,mv.trans he.mv,(he.rows.1 _ eU).2 (.inr (.inl rfl)) rfl,(he.rows.2.1 _ gG).2 (.inr (.inr rfl)) rfl⟩
        · exact .inl ⟨rfl,by rw [←hsw,yak (.inr (.inr ⟨hto.2.2.1,hto.2.2.2⟩))],_,hsz,by have:=jZ he.ret;simpa [AV.bK,AV.val,gQ eU] using this,xD hdf eU gG,mv.trans he.mv,(he.rows.1 _ eU).2 (.inr (.inl rfl)) rfl,(he.rows.2.1 _ gG).2 (.inr (.inr rfl)) rfl⟩
        · refine fin hsz hdf eU gG he.mv ((he.rows.1 _ eU).2 (.inr (.inl rfl)) rfl) ?_ ?_ ?_
          · have:=(he.rows.2.1 _ gG).2 (.inr (.inr rfl)) rfl;simpa only [AV.bK,AV.val,den_add,d2,d4,hws] using this
          · have:=jZ he.ret;rw [this];simp only [AV.bK,AV.val,gQ eU,gQ gG,d0,d1,den_add,bF,hkk];rfl
          · rw [←hsw,yah (by rintro (h|h|⟨h,h'⟩);omega;omega;exact absurd (h'.symm.trans hto.2.2.2) (by decide))]
        · refine fin hsz hdf eU gG he.mv ((he.rows.1 _ eU).2 (.inr (.inl rfl)) rfl) ?_ ?_ ?_
          · have:=(he.rows.2.1 _ gG).2 (.inr (.inr rfl)) rfl;simpa only [AV.bK,AV.val,den_add,d2,d4,hws] using this
          · have:=jZ he.ret;rw [this];simp only [AV.bK,AV.val,gQ eU,gQ gG,d0,d1,den_add,bF,hkk];rfl
          · rw [←hsw,yah (by rintro (h|h|⟨h,h'⟩);omega;omega;exact absurd (h.symm.trans hto.2.2) (by decide))]
  · have hkk:k=l.length:=by omega
    subst hkk;rw [List.drop_length,iM] at hsw;have d0:(ai 0).den (eG l.length l.length s ⟨0,0,false⟩ ⟨0,0,false⟩ (.slice sa l.length c))=l.length:=lU (by show (0:Int)≤l.length;omega) (by show ((l.length:Nat):Int)<_;omega);have d1:(ai 1).den (eG l.length l.length s ⟨0,0,false⟩ ⟨0,0,false⟩ (.slice sa l.length c))=l.length:=lU (by show (0:Int)≤l.length;omega) (by show ((l.length:Nat):Int)<_;omega);have d2:(aP 2).den (eG l.length l.length s ⟨0,0,false⟩ ⟨0,0,false⟩ (.slice sa l.length c))=s:=lq hs0 (by show s<_;omega);have hj1:cB [(E,0),(C,0)] 1=some ⟨E,0,0,none⟩:=rfl;have hj2:cB [(E,0),(C,0)] 2=some ⟨C,0,0,none⟩:=rfl;have hsx:Dw.R (eG l.length l.length s ⟨0,0,false⟩ ⟨0,0,false⟩ (.slice sa l.length c)) (cB [(E,0),(C,0)]) (mZ []) (.slice sa l.length c):=⟨rfl,_,_,_,rfl,d0.symm,trivial⟩;refine ybu (oN (ρ:=eG l.length l.length s ⟨0,0,false⟩ ⟨0,0,false⟩ (.slice sa l.length c)) (K:=fun b=>b=E∨b=C) (g:=bO.none) (bl:= [(E,0),(C,0)]) mixed zuJ zxi hK
      ⟨oO oE (ay (aO rfl) RL.nil) (.inl rfl),oO oC (ay (aO d2) RL.nil) (.inr rfl),trivial⟩
      ⟨fun _ i b' s' h1 h2 h3=>(by match i,h1,h2 with|0,h1,_=>cases h1;exact hne|i+1,h1,_=>cases h1),fun _ i b' s' h1 h2 h3=>(by cases h1),trivial⟩
      ja trivial trivial trivial size (FX hj1 hj2 dH) ?_ (bH.2 ⟨by rw [fD,d0,d1];simp,zap.2 trivial⟩)) fun ex a' w' hh=> ?_
    · intro t ht;simp only [Il,BX,yaj,yaq,yaZ] at ht;rcases ht with rfl|rfl|rfl|rfl|rfl|rfl
      · rw [s0];exact hsx
      · rw [s2];exact vG hj1
      · rw [s3];exact vG hj2
      · rw [s10];exact hsx
      · rw [s11];exact aO d0
      · rw [s12];exact aO d1
    · obtain ⟨q,hq,hto,lf,hlf,rfl,hsz,j,hdf,he⟩:=hh;have eU:=he.sub _ _ hj1;have gG:=he.sub _ _ hj2;unfold zss at hq;simp only [yaj,yaq,yaZ] at hq;subst hq;cases hlf;refine .inr ⟨rfl,s,hs0,by omega,hsw.symm,hsz,by have:=jZ he.ret;simpa [AV.bK,AV.val,gQ eU] using this,xD hdf eU gG,mv.trans he.mv,(he.rows.1 _ eU).2 (.inr (.inl rfl)) rfl,?_⟩;have:=(he.rows.2.1 _ gG).2 (.inr (.inr rfl)) rfl;simpa only [AV.bK,AV.val,d2] using this
open Go.Maps Go.Sort
set_option maxRecDepth 100000 in
theorem Tryz.zkx (E C:Nat) (e sum:Int) (u:FrameMode) (w:World) (hE:w.cell? ⟨E,0,none⟩=some (.int .i64 e)) (fE:w.frozen? ⟨E,0,none⟩=false) (hC:w.cell? ⟨C,0,none⟩=some (.int .u64 sum)):
  CallsD prog 150 #[.pointer (some ⟨E,0,none⟩),.pointer (some ⟨C,0,none⟩)] u w fun ed u' w'=>u'=u∧ed= .returned (.tuple #[])∧w'=if e=0∧4294967296≤sum then w.setCell ⟨E,0,none⟩ (.int .i64 2) else w:=by
 refine callsD_of_wp func150 rfl ?_;simp only [ntmps150,ycb,yaX,ybm,Nat.reduceAdd,Nat.reduceSub,Array.replicate_succ,Array.replicate_zero,List.push_toArray,List.append_toArray,ydH,List.cons_append];by_cases h0:e=0
 ·subst h0;by_cases h1:4294967296≤sum
  ·rw [yak ⟨rfl,h1⟩];go_wp2;go_end0;exact ⟨rfl,rfl⟩
  ·rw [yah (fun h=>h1 h.2)];go_wp2;go_end0;exact ⟨rfl,rfl⟩
 ·rw [yah (fun h=>h0 h.1)];go_wp2;go_end0;exact ⟨rfl,rfl⟩
theorem Tryz.Zn {w:World} {b:Nat} {v:Value} (h:Own w b [v]):w.cell? ⟨b,0,none⟩=some v∧w.frozen? ⟨b,0,none⟩=false:=by
 obtain ⟨arr,e,h1,h2⟩:=h;exact ⟨by simp [World.cell?,h1,h2 0 v rfl],by simp [World.frozen?,h1]⟩
theorem Tryz.Pv (w:World) (cs:List Value) (t:TypeId):Own (w.alloc (.cells cs.toArray t)) w.heap.size cs:=⟨cs.toArray,t,by unfold World.alloc;exact Array.getElem?_push_size,fun i y h=>by rw [yay];exact h⟩
set_option maxRecDepth 100000 in
theorem Tryz.NK {A:Nat→Prop} {w:World} {v:Value} {l:List Sg} (h:bC A w v l):
  Calls prog 106 #[v] w fun e w'=>e= .returned (.int .i64 (gJ l))∧Below w.heap.size w w':=by
 obtain ⟨sa,c,rfl,hok,hr⟩:=h;unfold gJ;by_cases hlen:64<l.length
 ·rw [yak hlen];have hb0:=(yab w.heap.size w).alloc (yaa _) (.cells #[.int .i64 3] 31);go_enter_defers func106,ntmps106;go_wp2;have hE:(w.alloc (.cells #[.int .i64 3] 31)).cell? ⟨w.heap.size,0,none⟩=some (.int .i64 3):=by simp
  simp only [bodyPostD,Leaves];refine ⟨.int .i64 3,?_,rfl,hb0⟩;simp [results,results106,go_sem,hE]
 ·rw [yah hlen];go_enter_defers func106,ntmps106;go_wp2;have o1:=Pv w [.int .i64 0] 31;have o2:=Pv (w.alloc (.cells #[.int .i64 0] 31)) [.int .u64 0] 28;have hs1:(w.alloc (.cells #[.int .i64 0] 31)).heap.size=w.heap.size+1:=World.size_alloc _ _;rw [hs1] at o2;have o1':Own ((w.alloc (.cells #[.int .i64 0] 31)).alloc (.cells #[.int .u64 0] 28)) w.heap.size [.int .i64 0]:=o1.kept (ycd _ _ _ (by rw [hs1];omega));have hbb:=((yab w.heap.size w).alloc (yaa _) (.cells #[.int .i64 0] 31)).alloc (by rw [hs1];omega) (.cells #[.int .u64 0] 28);have hsz:((w.alloc (.cells #[.int .i64 0] 31)).alloc (.cells #[.int .u64 0] 28)).heap.size=w.heap.size+2:=by rw [World.size_alloc,hs1]
  have hr':l= []∨ ∃R o,sa=some ⟨R,o,none⟩∧R≠w.heap.size∧R≠w.heap.size+1∧((w.alloc (.cells #[.int .i64 0] 31)).alloc (.cells #[.int .u64 0] 28)).rangeAt R o (dA l):=by
   rcases hr with h0|⟨R,o,e,_,hr⟩
   ·exact .inl h0
   ·by_cases h0:l= []
    ·exact .inl h0
    ·have hR:=tO hr h0;exact .inr ⟨R,o,e,by omega,by omega,aX hr (hbb.block R hR)⟩
  generalize (w.alloc (.cells #[.int .i64 0] 31)).alloc (.cells #[.int .u64 0] 28)=W at*;refine mr (c':= .loop (bS prog [0,0,1,0,1,1,1,1,106])) (by kernel_rfl) ?_;refine IL (fun k a w'=>FQ l sa c w.heap.size (w.heap.size+1) W k a w') (fun k=>l.length-k) (fun k a w' hI=>ybu (zuP hI (by omega) hok (by omega) (by omega) (by omega) hr') fun ex a' w2 hh=> ?_) 0 _ _ ?_
  ·have leave: ∀ {e s:Int} {a':Act} {w2:World},KG w.heap.size (w.heap.size+1) W e s a' w2→iM false 0 l=(if e=0∧4294967296≤s then 2 else e)→
     bodyPostD prog f106 (fun e w'=>e=Ending.returned (Value.int IntKind.i64 (iM false 0 l))∧RowKit.Below w.heap.size w w') .ret a' w2:=fun {e s a' w2} ho hV=>by
    obtain ⟨d,hd,args,cap,e1,e2,e3⟩:=ho.dH;have hm2:RowKit.Below w.heap.size w w2:=⟨ho.mv.os.trans hbb.os,ho.mv.tape.trans hbb.tape,ho.mv.output.trans hbb.output,yas hbb.size ho.mv.size,fun k hk=>(ho.mv.block k (by omega) (by omega)).trans (hbb.block k hk)⟩;obtain ⟨cE,fE⟩:=Zn ho.oE;obtain ⟨cC,fC⟩:=Zn ho.oC;simp only [bodyPostD,hd,Leaves];have e3:args++cap= #[.pointer (some ⟨w.heap.size,0,none⟩),.pointer (some ⟨w.heap.size+1,0,none⟩)]:=by rw [←Array.toList_inj];exact e3
    refine ⟨by simp,.func 150,cap,150,#[.pointer (some ⟨w.heap.size,0,none⟩),.pointer (some ⟨w.heap.size+1,0,none⟩)],e1,by rw [e1,e2,←e3];simp [go_sem],?_⟩;refine (zkx w.heap.size (w.heap.size+1) e s .returning w2 cE fE cC).mono ?_;rintro ed u' w9 ⟨rfl,rfl,rfl⟩;simp only [Leaves,settle];have hp:a'.tmps.getD 2 undef= .pointer (some ⟨w.heap.size,0,none⟩):=ho.s2;by_cases h0:e=0∧4294967296≤s
    ·rw [yak h0] at hV ⊢;have dE2:(w2.setCell ⟨w.heap.size,0,none⟩ (.int .i64 2)).cell? ⟨w.heap.size,0,none⟩=some (.int .i64 2):=ybR _ _ _ (by rw [cE];rfl);refine ⟨.int .i64 2,?_,by rw [hV],hm2.setCell (p:=⟨w.heap.size,0,none⟩) (yaa _) _⟩;have hp':a'.tmps[2]?.getD undef= .pointer (some ⟨w.heap.size,0,none⟩):=by simpa using hp
     simp [results,results106,go_sem,hp',dE2]
    ·rw [yah h0] at hV ⊢;refine ⟨.int .i64 e,?_,by rw [hV],hm2⟩;have hp':a'.tmps[2]?.getD undef= .pointer (some ⟨w.heap.size,0,none⟩):=by simpa using hp
     simp [results,results106,go_sem,hp',cE]
   cases ex with
   | normal=>exact ⟨k+1,by omega,hh.2⟩
   | ret=>
    rcases hh with ⟨_,hV,s,ho⟩|⟨h,_⟩
    ·exact leave ho (by rw [hV];simp)
    ·cases h
   | exit i=>
    rcases hh with ⟨h,_⟩|⟨h,s,hq0,hq1,hV,ho⟩
    ·cases h
    ·cases h;simp only [Exit.inBlock,Exit.then,yak];rename_i K hK;refine hK _ _ (mr (c':=bS prog [1,1,1,1,1,106]) (by kernel_rfl) ?_);have hj1:cB [(w.heap.size,0),(w.heap.size+1,0)] 1=some ⟨w.heap.size,0,0,none⟩:=rfl;have hj2:cB [(w.heap.size,0),(w.heap.size+1,0)] 2=some ⟨w.heap.size+1,0,0,none⟩:=rfl;have d2:(aP 2).den (eG 0 0 s ⟨0,0,false⟩ ⟨0,0,false⟩ undef)=s:=lq hq0 hq1;refine ybu (oN (ρ:=eG 0 0 s ⟨0,0,false⟩ ⟨0,0,false⟩ undef) (K:=fun b=>b=w.heap.size∨b=w.heap.size+1) (g:=bO.none) (bl:= [(w.heap.size,0),(w.heap.size+1,0)]) mixed zxg zyf (fun b hb=>by rcases hb with rfl|rfl;exact FD ho.oE;exact FD ho.oC)
      ⟨oO ho.oE (ay (aO rfl) RL.nil) (.inl rfl),oO ho.oC (ay (aO d2) RL.nil) (.inr rfl),trivial⟩
      ⟨fun _ i b' s' h1 h2 h3=>(by match i,h1,h2 with|0,h1,_=>cases h1;show w.heap.size≠w.heap.size+1;omega|i+1,h1,_=>cases h1),fun _ i b' s' h1 h2 h3=>(by cases h1),trivial⟩
      ja trivial trivial trivial ho.size (FX hj1 hj2 ho.dH) ?_ (zap.2 trivial)) fun ex a3 w3 hh=> ?_
     ·intro t ht;simp only [IY,yaj,yaq,yaZ] at ht;subst ht;rw [ho.s2];exact vG hj1
     ·obtain ⟨q,hq,hto,lf,hlf,rfl,Dt,j,hdf,he⟩:=hh;have eU:=he.sub _ _ hj1;have gG:=he.sub _ _ hj2;unfold zvr at hq;simp only [yaj,yaq,yaZ] at hq;subst hq;cases hlf;have oC:=(he.rows.2.1 _ gG).2 (.inr (.inr rfl)) rfl;simp only [AV.bK,AV.val,d2] at oC;refine leave (e:=0) ⟨Dt,by have:=jZ he.ret;simpa [AV.bK,AV.val,gQ eU] using this,xD hdf eU gG,ho.mv.trans he.mv,(he.rows.1 _ eU).2 (.inr (.inl rfl)) rfl,oC⟩ (by rw [hV];simp)
   | _=>rcases hh with ⟨h,_⟩|⟨h,_⟩<;>cases h
  ·exact ⟨yar _,rfl,rfl,rfl,rfl,rfl,rfl,rfl,⟨_,rfl,_,_,rfl,rfl,rfl⟩,Dw.Mv.refl _ _,false,0,o1',o2,ybY _,by simp,rfl,fun _=>rfl,fun i hi=>by omega⟩
end Go.Proofs
namespace Go.Proofs
open Go.Dw Go.RowKit
def Tryz.sl1 (l:List (SE×Nat)):AV:= .sx 1 (ai 0) 3 l
open Go.Maps Go.Sort Go.Deep
def Tryz.xS (F:Nat→Prop) (w:World) (sa:Option Addr) (l:List Sg):Prop:=l= []∨ ∃R o,sa=some ⟨R,o,none⟩∧F R∧w.rangeAt R o (dA l)
theorem Tryz.xS.kept {F:Nat→Prop} {w w':World} {sa:Option Addr} {l:List Sg} (h:xS F w sa l) (hb: ∀b,F b→w'.heap[b]? =w.heap[b]?):xS F w' sa l:=by
 rcases h with h|⟨R,o,e,hF,hr⟩
 ·exact .inl h
 ·exact .inr ⟨R,o,e,hF,aX hr (hb R hF)⟩
theorem Tryz.xS.v {F:Nat→Prop} {w:World} {sa:Option Addr} {l:List Sg} (h:xS F w sa l) (hok: ∀x∈l,x.ok) (c:Nat):bC (fun _=>False) w (.slice sa l.length c) l:=by
 rcases h with h|⟨R,o,e,hF,hr⟩
 ·exact ⟨sa,c,rfl,hok,.inl h⟩
 ·exact ⟨sa,c,rfl,hok,.inr ⟨R,o,e,fun h=>h,hr⟩⟩
def Tryz.TT (sa:Option Addr) (l:List Sg):bO where
 fact k _ F w:=xS F w sa l
 loc:=fun k _ _ F w w' h _ hb hs=>h.kept hb
theorem Tryz.zu1 (k:Nat) (h:k<4611686018427387904):IntKind.wrap .i64 ((k:Int)+1)=((k+1:Nat):Int):=by rw [dV (by omega) (by omega)];omega
theorem Tryz.zpo {l:List Sg} (h:gJ l=0):l.length≤64:=by
 unfold gJ at h;split at h
 ·omega
 ·omega
theorem Tryz.zpn {A:Nat→Prop} {w:World} {sa:Option Addr} {c:Nat} {l:List Sg} (h:bC A w (.slice sa l.length c) l):(TT sa l).G 0 (cB []) w:=by
 obtain ⟨sa',c',e,hok,hr⟩:=h;injection e with e1 _ e3;subst e1;refine ⟨fun b=>b<w.heap.size,fun b hb=>⟨hb,fun hm=> ?_⟩,?_⟩
 ·obtain ⟨k,L,h1,_⟩:=hm;cases k<;>cases h1
 ·by_cases h0:l= []
  ·exact .inl h0
  ·rcases hr with h|⟨R,o,e,_,hr⟩
   ·exact .inl h
   ·exact .inr ⟨R,o,e,tO hr h0,hr⟩
theorem Tryz.zxA {ρ:Val} {j:J} {sa:Option Addr} {c:Nat} {l:List Sg} (hv:ρ.v 1= .slice sa l.length c) (d0:(ai 0).den ρ=l.length):Dw.R ρ j (sl1 []) (.slice sa l.length c):=⟨hv.symm,sa,_,c,rfl,d0.symm,trivial⟩
structure Tryz.EqT (a b:Int):Prop where
 eq:a=b
def Tryz.zA (N:Nat):List Sg→Bool
 | [] => true
 | x::r=>decide (1≤x.len∧x.bB+x.len≤N)&&zA N r
def Tryz.iB (N:Nat) (l:List Sg):Int:=if gJ l=0 then (if zA N l=true then 0 else 5) else gJ l
theorem Tryz.En {N:Nat}: ∀ {l:List Sg},zA N l=true↔ ∀x∈l,1≤x.len∧x.bB+x.len≤N
 | [] => by simp [zA]
 | y::r=>by
  unfold zA;rw [ybd,decide_eq_true_iff,En (l:=r)];constructor
  ·rintro ⟨h1,h2⟩ x hx;rcases yaj.1 hx with rfl|hx
   ·exact h1
   ·exact h2 x hx
  ·intro h;exact ⟨h y (by simp),fun x hx=>h x (by simp [hx])⟩
set_option maxRecDepth 100000 in
theorem Tryz.Qg {A:Nat→Prop} {w:World} {P L Bs B N:Nat} {g:Nat→Int} {sa:Option Addr} {c:Nat} {l:List Sg} (hm:GM w P L Bs B N g) (hN:N≤1048576) (h1:1≤N) (h:bC A w (.slice sa l.length c) l) (hln:l.length<4611686018427387904):
    Calls prog 63 #[.pointer (some ⟨P,0,none⟩),.slice sa l.length c] w fun e w'=>e= .returned (.int .i64 (iB N l))∧Below w.heap.size w w':=by
  have hck:=NK h;have hrd:=EB P L Bs B N 0 g w hm;obtain ⟨sa',c',e',hok,hr⟩:=h;cases e';unfold iB;by_cases he:gJ l=0
  · rw [yak he];rw [he] at hck;have hl:=zpo he;obtain ⟨z,hz⟩: ∃z,EqT z (if zA N l=true then 0 else 5):=⟨_,⟨rfl⟩⟩;rw [←hz.eq];go_enter func63,ntmps63;go_wp2_with (first
      | (go_at_call 53;refine hrd.mono ?_;rintro en w2 ⟨rfl,hw2⟩;have hw2:=hw2.symm;subst hw2)
      | (go_at_call 106;refine hck.mono ?_;rintro en w3 ⟨rfl,hb3⟩)
      | go_in)
    go_loopw [9,25] (fun z i wr=>Below w.heap.size w wr∧ ∃k:Nat,k≤l.length∧i= .int .i64 k∧ ∀(j:Nat) (hj:j<l.length),j<k→1≤l[j].len∧l[j].bB+l[j].len≤N) (fun _ i _=>l.length-(RowKit.intOf i).toNat)
    case atStart=>exact ⟨hb3,0,yar _,rfl,fun j _ hj=>absurd hj (by omega)⟩
    case round=>
      obtain ⟨hb2,k,hk,rfl,hall⟩:=hrel;by_cases hkl:k<l.length
      · have hkl':(k:Int)<l.length:=by omega
        rcases hr with hr|⟨R,o,rfl,je,hr⟩
        · subst hr;simp at hkl
        obtain ⟨d0,d1,d2⟩:=UO l k hkl;have g0:=hr _ _ d0;have g1:=hr _ _ d1;have g2:=hr _ _ d2;have hRl:R<w.heap.size:=yan w _ g1;replace g0:=(hb2.cell (p:=⟨R,o+3*k,none⟩) hRl).trans g0;replace g1:=(hb2.cell (p:=⟨R,o+(3*k+1),none⟩) hRl).trans g1;replace g2:=(hb2.cell (p:=⟨R,o+(3*k+2),none⟩) hRl).trans g2;rw [ybz 3 k] at g0;rw [show o+(3*k+1)=o+k*3+1 by omega] at g1;rw [show o+(3*k+2)=o+k*3+2 by omega] at g2;obtain ⟨q1,q2,q3,q4⟩:=hok l[k] (yaA hkl);have u0:IntKind.wrap .u64 l[k].len=l[k].len:=iN q3 (by omega);have hhas:=fun w4 (h4:Below w.heap.size w w4)=>Jz P L Bs B N l[k].bB l[k].len g w4 (hm.below h4) hN h1 q1 q2 q3;have hin2:zA N l=true→1≤l[k].len∧l[k].bB+l[k].len≤N:=fun h=>En.1 h l[k] (yaA hkl);clear hr d0 d1 d2 hck hrd;generalize hat:l[k].bB=a1 at*;generalize hln:l[k].len=n1 at*;have hA:=fun o:Obj=>hb2.alloc hb2.size o;by_cases hin:1≤n1∧a1+n1≤N
        · rw [yaH hin] at hhas;go_wp2_with (first
            | (go_at_call 55;refine (hhas _ (hA _)).mono ?_;rintro en w5 ⟨rfl,hb5⟩)
            | go_in)
          refine ⟨⟨(hA _).trans (hb5.mono (hA _).size),k+1,by omega,by push_cast;rfl,fun j hj hlt=> ?_⟩,by simp only [RowKit.intOf];omega⟩;by_cases hjk:j=k
          · subst hjk;rw [hat,hln];exact hin
          · exact hall j hj (by omega)
        · rw [yao hin] at hhas;go_wp2_with (first
            | (go_at_call 55;refine (hhas _ (hA _)).mono ?_;rintro en w5 ⟨rfl,hb5⟩)
            | go_in)
          go_ret;exact ⟨by rw [hz.eq,yah fun h=>hin (hin2 h)];rfl,(hA _).trans (hb5.mono (hA _).size)⟩
      · have hkl': ¬(k:Int)<l.length:=by omega
        go_wp2;go_ret;exact ⟨by
          rw [hz.eq,yak (En.2 fun x hx=>by
            obtain ⟨j,hj,rfl⟩:=List.getElem_of_mem hx;exact hall j hj (by omega))]
          rfl,hb2⟩
  · rw [yah he];have he2:(gJ l==0)=false:=by simpa using he
    go_enter func63,ntmps63;go_wp2_with (first
      | (go_at_call 53;refine hrd.mono ?_;rintro en w2 ⟨rfl,hw2⟩;have hw2:=hw2.symm;subst hw2)
      | (go_at_call 106;refine hck.mono ?_;rintro en w3 ⟨rfl,hb3⟩)
      | go_in)
    all_goals
      go_ret;exact ⟨rfl,hb3⟩
end Go.Proofs
namespace Go.Proofs
open Go.RowKit
structure Tryz.Cl (w:World) (b:Nat) (l:List Value):Prop where
 lt:b<w.heap.size
 cell: ∀(i:Nat) (v:Value),l[i]? =some v→w.cell? ⟨b,i,none⟩=some v
 free: ∀i,w.frozen? ⟨b,i,none⟩=false
theorem Tryz.Cl.below {w w':World} {b B:Nat} {l:List Value} (h:Cl w b l) (hb:Below B w w') (hB:b<B):Cl w' b l:=
 ⟨yae h.lt hb.size,fun i v hv=>(hb.cell (p:=⟨b,i,none⟩) hB).trans (h.cell i v hv),fun i=>(hb.frozen (p:=⟨b,i,none⟩) hB).trans (h.free i)⟩
theorem Tryz.Cl.at {w:World} {b:Nat} {arr:Array Value} {t:TypeId} (h:w.heap[b]? =some (.cells arr t (0,0))):Cl w b arr.toList:=
 ⟨(yax.1 h).1,fun i v hv=>by rw [ydm _ _ i _ _ (0,0) h,←ybp];exact hv,fun i=>by simp [World.frozen?,h]⟩
theorem Tryz.Cl.new (w:World) (arr:Array Value) (t:TypeId):Cl (w.alloc (.cells arr t)) w.heap.size arr.toList:=Cl.at (ycM w _)
theorem Tryz.Cl.new2 {w:World} {b:Nat} {arr:Array Value} {t:TypeId} (h:w.heap.size=b):Cl (w.alloc (.cells arr t)) b arr.toList:=h▸Cl.new w arr t
theorem Tryz.Cl.alloc {w:World} {b:Nat} {l:List Value} (h:Cl w b l) (o:Obj):Cl (w.alloc o) b l:=h.below ((yab _ w).alloc (yaa _) o) h.lt
theorem Tryz.Cl.set {w:World} {b:Nat} {l:List Value} (h:Cl w b l) (j:Nat) (v:Value) (hj:j<l.length):Cl (w.setCell ⟨b,j,none⟩ v) b (l.set j v):=by
 refine ⟨by have:=h.lt;simpa using this,fun i u hu=> ?_,fun i=>by rw [ydc];exact h.free i⟩;by_cases hij:i=j
 ·subst hij;rw [List.getElem?_set_self hj] at hu;cases hu;exact ybR _ _ _ (by rw [h.cell i _ (yai hj)];rfl)
 ·rw [List.getElem?_set_ne (fun e=>hij e.symm)] at hu;rw [yaN w ⟨b,j,none⟩ ⟨b,i,none⟩ v (fun e=>hij (yaB Addr.off e).symm)];exact h.cell i u hu
open Go.Dw Go.Maps Go.Sort Go.Deep
theorem Tryz.xg {ρ:Val} {i lo hi fr n sh:Nat} (h0:(lo:Int)≤ρ.i i) (h1:ρ.i i≤(hi:Int)):SE.den ρ (.bn [⟨i,lo,hi,fr,n,sh⟩] 0)=(ρ.i i/(2^fr:Nat)%(2^n:Nat))*(2^sh:Nat):=by
 obtain ⟨x,hx⟩:=yaM (Int.le_trans (ycO lo) h0);rw [hx] at h0 h1;simp only [SE.den,aJ,aL.den,hx,yaS,ydd];have e:max lo (min x hi)=x:=by omega
 rw [e,ydS,yc1];show ((x/2^fr%2^n*2^sh:Nat):Int)=_;push_cast;rfl
end Go.Proofs
namespace Go.Proofs
open Go.Dw Go.RowKit
structure Tryz.WS where
 aco:List Sg
 n:Int
 e:Int
def Tryz.fM (w:World) (b2:Nat) (v:Value) (l:List Sg):Prop:=w.ownsRow b2 137 3 v l.length (dA l)
theorem Tryz.fM.Bb {w:World} {b2:Nat} {v:Value} {l:List Sg} (h:fM w b2 v l) (hok: ∀x∈l,x.ok) {A:Nat→Prop} (hA: ∀b,b2≤b→ ¬A b):bC A w v l:=by
 obtain ⟨h1,h2⟩:=h;rcases h2 with ⟨rfl,h2⟩|⟨G,cap,cur,rfl,h3,h4,h5,h6,h7,h8⟩
 ·have:l= []:=ybG.1 h2;subst this;exact bC.none
 ·refine ⟨_,cap,rfl,hok,.inr ⟨G,0,rfl,hA G h3,fun i y hy=> ?_⟩⟩;have hlt:i<(dA l).length:=(yat.1 hy).1;rw [←h8] at hy;have hi:i<l.length*3:=by rw [yY] at hlt;omega
  rw [ybD hi] at hy;simp only [World.cell?,h4,yaf];simpa using hy
structure Tryz.V6 where
 E:Nat
 Mb:Nat
 Nn:Nat
 Tb:Nat
 Fb:Nat
 Lc:Nat
theorem Tryz.Bn: ∀ {bl:List (Nat×Nat)} {l:List Sh},(bl.map (·.1)).Nodup→apart bl l
 | [], _,_=>by unfold apart;trivial
 | b::bl,[],_=>by unfold apart;trivial
 | b::bl,s::l,h=>by
  rw [yaU,ycG] at h;refine ⟨fun _ i b' s' h1 _ _ e=>h.1 (e▸List.mem_map_of_mem (ya8 h1)),Bn h.2⟩
theorem Tryz.Zo {j:J} {n:Nat} {u:Value}:kP (jq j n [u]) n=some u:=by
 unfold kP jq;rw [yak ⟨yaa _,by simp⟩];simp
section
variable {ρ:Val} {P L Bs B N:Nat} {aG size k e n A Ln F Nx cnt x abr e3 n3:Int} {inner table:Bool} {v:Value} {g:Nat→Int} {b2 W0:Nat} {l l3:List Tryz.Sg} {a:Nat} {w0:World} {K:Nat→Prop}
theorem Tryz.Ff:(prog.info? 137).map (fun i=>(i.zero,i.size,i.bytes))=some (some (.agg #[.int .u64 0,.int .u32 0,.bool false]),3,16):=by kernel_rfl
end
end Go.Proofs
namespace Go.Proofs
open Go.Dw Go.RowKit
theorem Tryz.zud {bl:List (Nat×Nat)} {b:Nat} (h:Mine (cB bl) b):b∈bl.map (·.1):=by
 obtain ⟨k,L,h1,_,h3⟩:=h
 match k,h1 with
 | 0,h1=>cases h1
 | k+1,h1=>
  have h1:(bl[k]?).map (fun b=>(⟨b.1,b.2,0,none⟩:Dw.Loc))=some L:=h1;cases hk:bl[k]? with
  | none=>rw [hk] at h1;cases h1
  | some p=>
   rw [hk] at h1;cases h1;exact yaY.2 ⟨p,ya8 hk,h3⟩
section
variable {w:World} {a:Act} {P L Bs B N:Nat} {g:Nat→Int} {b2:Nat} {x:Tryz.V6} {table:Bool} {v:Value} {s:Tryz.WS} {M:Nat} {aG size k:Int} {inner:Bool} {seen:List Int} {ρ:Val} {A Ln F Nx cnt xx abr e3 n3:Int} {l3:List Tryz.Sg} {aa:Nat}
end
end Go.Proofs
namespace Go.Proofs
open Go.Dw Go.RowKit
section
variable {w:World} {a:Act} {P L Bs B N:Nat} {g:Nat→Int} {b2:Nat} {x:Tryz.V6} {table:Bool} {v:Value} {s:Tryz.WS} {M:Nat} {aG size k:Int} {inner:Bool} {seen:List Int} {f:Nat} {tab:Int→Int→Int→Tryz.WS→Tryz.WS}
theorem Tryz.zru {ρ:Val} {j:J} {n:Nat} {u:Value} (hu:kP j n=some u):(AV.opq n none).val ρ (fq j)=u:=by
 unfold kP at hu;show (fq j n).q.getD undef=u;unfold fq;cases hj:j n with
 | none=>rw [hj] at hu;cases hu
 | some Lq=>
  rw [hj] at hu;have hu:Lq.q=some u:=hu;show Lq.q.getD undef=u;rw [hu];rfl
end
end Go.Proofs
namespace Go.Proofs
open Go.Dw Go.RowKit
theorem Tryz.zqj (a m:Int) (hm:0<m):((if a.tmod m<0 then a.tmod m+m else a.tmod m)=a%m)∧ -m<a.tmod m∧a.tmod m<m:=by
 rw [Int.tmod_eq_emod];have h1:=ybI a (Int.ne_of_gt hm);have h2:=ybC a hm;have h3:((m.natAbs:Nat):Int)=m:=Int.natAbs_of_nonneg (Int.le_of_lt hm);by_cases h:0≤a∨m ∣ a
 ·rw [yak h];simp only [Int.sub_zero,Int.ofNat_zero];refine ⟨?_,?_,?_⟩<;>first|omega|(split<;>omega)
 ·rw [yah h,h3];have h4:a%m≠0:=fun h0=>h (.inr (Int.dvd_of_emod_eq_zero h0));refine ⟨?_,?_,?_⟩<;>first|omega|(split<;>omega)
set_option maxRecDepth 100000 in
theorem Tryz.ES (a m:Int) (hm:1≤m∧m≤1000000) (w:World):
  Calls prog 7 #[.int .i64 a,.int .i64 m] w fun e w'=>e= .returned (.int .i64 (a%m))∧w'=w:=by
 obtain ⟨hr,hlo,hhi⟩:=zqj a m (by omega);have hq:IntKind.i64.wrap (a.tmod m)=a.tmod m:=dV (by omega) (by omega);have hm0:m≠0:=by omega
 have hm1: ¬m<1:=by omega
 by_cases h0:a.tmod m<0
 ·rw [yak h0] at hr;have hq2:IntKind.i64.wrap (a.tmod m+m)=a.tmod m+m:=dV (by omega) (by omega);rw [←hr];go_enter func7,ntmps7;go_wp2;go_ret;exact ⟨rfl,rfl⟩
 ·rw [yah h0] at hr;rw [←hr];go_enter func7,ntmps7;go_wp2;go_ret;exact ⟨rfl,rfl⟩
theorem Tryz.fM.nil (w:World) (b2:Nat):fM w b2 (.slice none 0 0) []:=⟨rfl,.inl ⟨rfl,rfl⟩⟩
theorem Tryz.fM.slice {w:World} {b2:Nat} {v:Value} {l:List Sg} (h:fM w b2 v l): ∃sa c,v= .slice sa l.length c∧ ∀R o,sa=some ⟨R,o,none⟩→v.ownBlock=some R:=by
 obtain ⟨h1,h2⟩:=h;rcases h2 with ⟨rfl,h2⟩|⟨G,cap,cur,rfl,_⟩
 ·exact ⟨none,0,by rw [h2],fun R o h=>by cases h⟩
 ·exact ⟨_,cap,rfl,fun R o h=>by cases h;rfl⟩
open Go.Maps Go.Sort
section
variable {A:Nat→Prop} {w:World} {S P M:Nat} {r:Tryz.Rg} {s:Tryz.SS}
end
end Go.Proofs
namespace Go.Proofs
open Go.Dw Go.RowKit
section
variable {A:Nat→Prop} {w:World} {S P L Bs B M N:Nat} {r:Tryz.Rg} {s:Tryz.SS} {g:Nat→Int}
end
end Go.Proofs
namespace Go.Dw
abbrev KE:=SE×Nat×Nat
section
variable {P:Program} {ρ:Val} {w0:Cx} {j:J} {H:Heap} {w w':World}
structure zvv (P:Program) (f:FuncId):Prop where
 enters:Enters P f
 runs: ∀w,Calls P f #[] w fun e w'=>e= .returned (.bool true)∧RowKit.Below w.heap.size w w'
def WL:World:=default
theorem zps {P:Program} (hmo:P.follows .mixedOrders=true) {fP:FuncId→List AV→Heap→Option (List (AV×Heap))} (hor: ∀w,xP P Val.zero (Cx.plain w) fP) {n:Nat} {f:FuncId} (h:(ev P fP n (.call f [] og isTrue)).good=true):zvv P f:=
  ⟨((JC (ρ:=Val.zero) (w0:=Cx.plain WL) (hor WL) (fun n rec hg=>FB hmo hg) n).call f [] og isTrue (Ob.zW h)).1,
   fun w=>zp3 (ρ:=Val.zero) hmo (hor w) (inv0 w) RL.nil (Ob.zW h)⟩
end
end Go.Dw
end
