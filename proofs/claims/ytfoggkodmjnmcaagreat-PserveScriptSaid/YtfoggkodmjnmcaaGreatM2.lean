/-
  Proved: laws on the way to 'PserveScriptProof' (texts DwPlan2 DwLit DwPlan3 DwEnd DwOpen DwEnt DwWay DwDen SoA DwLoop WkA QaE0 QaA QaB QaC QaD WkB SoB SoC SoD SoF SoG SoH SoI SoJ SoK SoL SoM SoN WkC WkD WkE WkF0); no condition.
-/
import Derived.Test.YtfoggkodmjnmcaaGreatM1
import Derived.RowKit3
import Derived.ChangeSame
import Derived.KernelRfl
import Derived.Laws.IdiomCopy
import Derived.Maps.AppendAt
import Derived.Defers
import Derived.BigFrame
import Derived.Recover
set_option linter.unusedSimpArgs false
set_option linter.unusedVariables false
set_option maxHeartbeats 4000000
noncomputable section
namespace Go.Dw
def bU (ops:Array Oper) (i:Nat):Nat:=(kN ops.toList).getD i 0
def eZ (ops:Array Oper):List Nat:=pX ops.toList 0
def jR (ops:Array Oper) (i:Nat):Nat:=lF (bU ops i) (eZ ops) 0 0
def kz (ops:Array Oper):List PO:=posOf (eZ ops) ops.toList (kN ops.toList) 0
def iU (ops:Array Oper):List PO:=(kz ops).filter fun p=>jg p.o
structure PF (ops:Array Oper):Prop where
 wU:rX ops
 chain: ∀u h h',(eZ ops)[u]? =some h→(eZ ops)[u+1]? =some h'→(bU ops h').testBit h=true
 reads: ∀(p q:Nat) (o oq:Oper) (t:Tmp),ops[p]? =some o→ops[q]? =some oq→oq.dst=some t→t∈looks ops o→(bU ops p).testBit q=true∨(bU ops q).testBit p=true
 Bn: ∀(p q:Nat) (o oq:Oper) (t:Tmp),p≠q→ops[p]? =some o→ops[q]? =some oq→o.dst=some t→oq.dst≠some t
 abh: ∀(p:Nat) (o:Oper),ops[p]? =some o→D7 o=false
 rer: ∀(u h p q:Nat) (o oq:Oper) (t:Tmp),(eZ ops)[u]? =some h→ops[p]? =some o→D6 o=true→jR ops p≤u→(bU ops h).testBit p=false→
  ops[q]? =some oq→oq.dst=some t→t∈looks ops o→(bU ops p).testBit q=true∨u<jR ops q
theorem Gq: ∀(l:List Oper) (n i:Nat),i∈pX l n↔ ∃k o,i=n+k∧l[k]? =some o∧jg o=true
 | [], n,i=>by simp [pX]
 | o::l,n,i=>by
  unfold pX;split
  ·rename_i h;rw [yad,Gq l (Nat.succ n) i];constructor
   ·rintro (rfl|⟨k,o',h1,h2,h3⟩)
    ·exact ⟨0,o,rfl,rfl,h⟩
    ·exact ⟨k+1,o',by omega,by simpa using h2,h3⟩
   ·rintro ⟨k,o',h1,h2,h3⟩;cases k with
    | zero=>left;simpa using h1
    | succ k=>exact .inr ⟨k,o',by omega,by simpa using h2,h3⟩
  ·rename_i h;rw [Gq l (Nat.succ n) i];constructor
   ·rintro ⟨k,o',h1,h2,h3⟩;exact ⟨k+1,o',by omega,by simpa using h2,h3⟩
   ·rintro ⟨k,o',h1,h2,h3⟩;cases k with
    | zero=>
     simp only [yaz,ycd] at h2;subst h2;rw [h] at h3;cases h3
    | succ k=>exact ⟨k,o',by omega,by simpa using h2,h3⟩
theorem Dj: ∀(l:List Oper) (n:Nat),(pX l n).Pairwise (· < ·)
 | [], n=>List.Pairwise.nil
 | o::l,n=>by
  unfold pX;split
  ·refine List.Pairwise.cons (fun i hi=> ?_) (Dj l _);obtain ⟨k,_,h,_⟩:=(Gq l _ i).1 hi;omega
  ·exact Dj l _
theorem Dq {ops:Array Oper} {i:Nat}:(∃u:Nat,(eZ ops)[u]? =some i)↔ ∃o,ops[i]? =some o∧jg o=true:=by
 rw [←ydb];unfold eZ;rw [Gq];constructor
 ·rintro ⟨k,o,h1,h2,h3⟩;have e:i=k:=by omega
  subst e;exact ⟨o,by simpa using h2,h3⟩
 ·rintro ⟨o,h2,h3⟩;exact ⟨i,o,by omega,by simpa using h2,h3⟩
theorem O1 {ops:Array Oper} {u v x y:Nat} (h1:(eZ ops)[u]? =some x) (h2:(eZ ops)[v]? =some y) (h:x<y):u<v:=by
 apply ybr;intro hn;obtain ⟨hu,e1⟩:=yax.1 h1;obtain ⟨hv,e2⟩:=yax.1 h2;rcases Nat.lt_or_eq_of_le (Nat.le_of_not_lt hn) with hlt|heq
 ·have:=(ycV.1 (Dj ops.toList 0)) v u hv hu hlt;change (eZ ops)[v]<(eZ ops)[u] at this;omega
 ·subst heq;rw [h1] at h2;cases h2;exact ybX _ h
theorem zs3 {ops:Array Oper} {u v x:Nat} (h1:(eZ ops)[u]? =some x) (h2:(eZ ops)[v]? =some x):u=v:=by
 obtain ⟨hu,e1⟩:=yax.1 h1;obtain ⟨hv,e2⟩:=yax.1 h2;rcases Nat.lt_trichotomy u v with h|h|h
 ·have:=(ycV.1 (Dj ops.toList 0)) u v hu hv h;change (eZ ops)[u]<(eZ ops)[v] at this;omega
 ·exact h
 ·have:=(ycV.1 (Dj ops.toList 0)) v u hv hu h;change (eZ ops)[v]<(eZ ops)[u] at this;omega
theorem Hu {ops:Array Oper} {i x:Nat} (h:ops[i]? =none):(bU ops i).testBit x=false:=by
 unfold bU;rw [yaO,ya1 (by rw [CY];simpa using h)];simp
theorem DX {ops:Array Oper} (he:rX ops): ∀(i x:Nat),(bU ops i).testBit x=true→x<i:=by
 intro i
 induction i using Nat.strongRecOn with
 | _ i ih=>
  intro x hx;cases ho:ops[i]? with
  | none=>rw [Hu ho] at hx;cases hx
  | some o=>
   obtain ⟨e,h1,h2,h3⟩:=Gn ops.toList [] i x o (by simpa using ho) (by simpa [bU,kN] using hx);have hlt:=he i o ho e (by simpa using h1) h2;rcases h3 with rfl|⟨h3,h4⟩
   ·exact hlt
   ·have:=ih e.on hlt x (by simpa [bU,kN] using h4);omega
theorem WI {ms:List Nat}: ∀ {l:List Edge} {x:Nat} {e:Edge},e∈l→Region.binds .any e=true→(x=e.on∨(ms.getD e.on 0).testBit x=true)→(nN ms l).testBit x=true
 | [], x,e,h,_,_=>by cases h
 | e'::l,x,e,h,hb,hx=>by
  unfold nN;rcases yad.1 h with rfl|h
  ·rw [hb];show (((2^e.on)|||(ms.getD e.on 0))|||nN ms l).testBit x=true;rw [yaU,yaU,ycq];rcases hx with rfl|hx
   ·simp
   ·rw [hx];simp
  ·have ih:=WI h hb hx;split
   ·show (((2^e'.on)|||(ms.getD e'.on 0))|||nN ms l).testBit x=true;rw [yaU,ih];simp
   ·exact ih
theorem WG: ∀(l:List Oper) (ms:List Nat) (i x:Nat) (o:Oper),l[i]? =some o→ ∀e∈o.after.toList,Region.binds .any e=true→e.on<ms.length+i→
  (x=e.on∨((nQ l ms).getD e.on 0).testBit x=true)→((nQ l ms).getD (ms.length+i) 0).testBit x=true
 | [], ms,i,x,o,h,_,_,_,_,_=>by simp at h
 | o'::l,ms,0,x,o,h,e,he,hb,hlt,hx=>by
  simp at h;subst h;unfold nQ at hx ⊢;rw [yaO,CU l _ _ (by simp),yaW (by simp)];simp only [ybk,yb8,yaz,yb0];refine WI he hb (hx.imp id fun hx=> ?_);rw [yaO,CU l _ _ (by simp;omega),yaV (by omega),←yaO] at hx;exact hx
 | o'::l,ms,i+1,x,o,h,e,he,hb,hlt,hx=>by
  unfold nQ at hx ⊢;have:=WG l (ms++ [nN ms o'.after.toList]) i x o (by simpa using h) e he hb (by simp;omega) hx;simpa [ybf,yc8 1 i] using this
theorem zxK {ops:Array Oper} (he:rX ops) {i x:Nat} {o:Oper} (ho:ops[i]? =some o) {e:Edge} (h1:e∈o.after) (h2:Region.binds .any e=true) (hx:x=e.on∨(bU ops e.on).testBit x=true):
  (bU ops i).testBit x=true:=by
 have:=WG ops.toList [] i x o (by simpa using ho) e (by simpa using h1) h2 (by simpa using he i o ho e h1 h2) (by simpa [bU,kN] using hx);simpa [bU,kN] using this
theorem zuS {ops:Array Oper} (he:rX ops): ∀(i x y:Nat),(bU ops i).testBit x=true→(bU ops x).testBit y=true→(bU ops i).testBit y=true:=by
 intro i
 induction i using Nat.strongRecOn with
 | _ i ih=>
  intro x y hx hy;cases ho:ops[i]? with
  | none=>rw [Hu ho] at hx;cases hx
  | some o=>
   obtain ⟨e,h1,h2,h3⟩:=Gn ops.toList [] i x o (by simpa using ho) (by simpa [bU,kN] using hx);have hlt:=he i o ho e (by simpa using h1) h2;refine zxK he ho (by simpa using h1) h2 (.inr ?_);rcases h3 with rfl|⟨h3,h4⟩
   ·exact hy
   ·exact ih e.on hlt x y (by simpa [bU,kN] using h4) hy
theorem Ow {ops:Array Oper} {i u x:Nat} (hu:(eZ ops)[u]? =some x) (hx:(bU ops i).testBit x=true):u+1≤jR ops i:=by
 have:=NC (m:=bU ops i) (eZ ops) 0 0 u x (yab _) hu hx;unfold jR;omega
theorem IB {ops:Array Oper} (i:Nat):jR ops i=0∨ ∃u x,(eZ ops)[u]? =some x∧(bU ops i).testBit x=true∧jR ops i=u+1:=by
 rcases MX (m:=bU ops i) (eZ ops) 0 0 (yab _) with h|⟨u,x,h1,h2,h3⟩
 ·exact .inl h
 ·exact .inr ⟨u,x,h1,h2,by unfold jR;omega⟩
theorem OW {ops:Array Oper} (he:rX ops) {i x:Nat} (hx:(bU ops i).testBit x=true):jR ops x≤jR ops i:=by
 rcases IB (ops:=ops) x with h|⟨u,y,h1,h2,h3⟩
 ·omega
 ·have:=Ow (i:=i) h1 (zuS he i x y hx h2);omega
def DD (ops:Array Oper) (s n i:Nat):Prop:=
 ∃ o,ops[i]? =some o∧((jg o=false∧(jR ops i<s∨jR ops i=s∧i<n))∨(jg o=true∧ ∃u,u<s∧(eZ ops)[u]? =some i))
theorem zoD {ops:Array Oper} (he:rX ops) {i x:Nat} (hx:(bU ops i).testBit x=true): ∃o,ops[x]? =some o:=by
 have hlt:=DX he i x hx;cases ho:ops[i]? with
 | none=>rw [Hu ho] at hx;cases hx
 | some o=>
  have:=(yap.1 ho).1;exact ⟨ops[x],yaL (by omega)⟩
theorem zyT {ops:Array Oper} (he:rX ops) {s n i x:Nat} (h:DD ops s n i) (hx:(bU ops i).testBit x=true):DD ops s n x:=by
 obtain ⟨o,ho,h⟩:=h;obtain ⟨ox,hox⟩:=zoD he hx;have hlt:=DX he i x hx;refine ⟨ox,hox,?_⟩;cases hh:jg ox with
 | true=>
  obtain ⟨u,hu⟩:=Dq.2 ⟨ox,hox,hh⟩;refine .inr ⟨rfl,u,?_,hu⟩;rcases h with ⟨_,h⟩|⟨_,v,hv,h⟩
  ·have:=Ow (i:=i) hu hx;omega
  ·have:=O1 hu h hlt;omega
 | false=>
  refine .inl ⟨rfl,?_⟩;rcases h with ⟨_,h⟩|⟨_,v,hv,h⟩
  ·have:=OW he hx;omega
  ·rcases IB (ops:=ops) x with h0|⟨u,y,h1,h2,h3⟩
   ·omega
   ·have:=DX he x y h2;have:=O1 h1 h (by omega);omega
theorem zEq {ops:Array Oper} (he:rX ops) {s i x:Nat} (hs:jR ops i=s) (hx:(bU ops i).testBit x=true):DD ops s i x:=by
 obtain ⟨ox,hox⟩:=zoD he hx;have hlt:=DX he i x hx;refine ⟨ox,hox,?_⟩;cases hh:jg ox with
 | true=>
  obtain ⟨u,hu⟩:=Dq.2 ⟨ox,hox,hh⟩;have:=Ow (i:=i) hu hx;exact .inr ⟨rfl,u,by omega,hu⟩
 | false=>
  have:=OW he hx;exact .inl ⟨rfl,by omega⟩
theorem zEn {ops:Array Oper} {s n:Nat} {o:Oper} (ho:ops[n]? =some o) (hv:jg o=false) (hs:jR ops n=s) (i:Nat):(DD ops s n i∨i=n)↔DD ops s (n+1) i:=by
 constructor
 ·rintro (⟨o',h1,h2⟩|rfl)
  ·refine ⟨o',h1,h2.imp (fun h=>⟨h.1,?_⟩) id⟩;have:=h.2;omega
  ·exact ⟨o,ho,.inl ⟨hv,by omega⟩⟩
 ·rintro ⟨o',h1,h2|h2⟩
  ·by_cases hi:i=n
   ·exact .inr hi
   ·exact .inl ⟨o',h1,.inl ⟨h2.1,by have:=h2.2;omega⟩⟩
  ·exact .inl ⟨o',h1,.inr h2⟩
theorem zEo {ops:Array Oper} {s n:Nat} {o:Oper} (ho:ops[n]? =some o) (h:jg o=true∨jR ops n≠s) (i:Nat):DD ops s n i↔DD ops s (n+1) i:=by
 constructor
 ·rintro ⟨o',h1,h2⟩;refine ⟨o',h1,h2.imp (fun h=>⟨h.1,?_⟩) id⟩;have:=h.2;omega
 ·rintro ⟨o',h1,h2|h2⟩
  ·refine ⟨o',h1,.inl ⟨h2.1,?_⟩⟩;by_cases hi:i=n
   ·subst hi;rw [ho] at h1;cases h1;rcases h with h|h
    ·rw [h] at h2;cases h2.1
    ·have:=h2.2;omega
   ·have:=h2.2;omega
  ·exact ⟨o',h1,.inr h2⟩
theorem zEp {ops:Array Oper} {s n:Nat} (hn:ops.size≤n) (i:Nat):DD ops s n i↔DD ops s ops.size i:=by
 constructor<;>rintro ⟨o',h1,h2⟩<;>have hlt:=(yap.1 h1).1<;>
  exact ⟨o',h1,h2.imp (fun h=>⟨h.1,by have:=h.2;omega⟩) id⟩
theorem zA6 {ops:Array Oper} {s h:Nat} {o:Oper} (hu:(eZ ops)[s]? =some h) (ho:ops[h]? =some o) (hv:jg o=true) (i:Nat):(DD ops s ops.size i∨i=h)↔DD ops (s+1) 0 i:=by
 constructor
 ·rintro (⟨o',h1,h2⟩|rfl)
  ·refine ⟨o',h1,h2.imp (fun h=>⟨h.1,by have:=h.2;omega⟩) fun ⟨a,u,b,c⟩=>⟨a,u,by omega,c⟩⟩
  ·exact ⟨o,ho,.inr ⟨hv,s,by omega,hu⟩⟩
 ·rintro ⟨o',h1,h2|⟨h2,u,h3,h4⟩⟩
  ·have hlt:=(yap.1 h1).1;exact .inl ⟨o',h1,.inl ⟨h2.1,by have:=h2.2;omega⟩⟩
  ·by_cases dG:u=s
   ·subst dG;rw [hu] at h4;cases h4;exact .inr rfl
   ·exact .inl ⟨o',h1,.inr ⟨h2,u,by omega,h4⟩⟩
theorem zxI {ops:Array Oper} {p:PO}:p∈kz ops↔ops[p.i]? =some p.o∧p.m=bU ops p.i∧p.s=jR ops p.i:=by
 unfold kz;rw [zoC (by rw [CY])];constructor
 ·rintro ⟨i,h1,h2,h3,h4⟩;have e:p.i=i:=by omega
  have hm:p.m=bU ops i:=by unfold bU;rw [yaO,h3];rfl
  rw [e];exact ⟨by simpa using h1,hm,by rw [h4,hm];rfl⟩
 ·rintro ⟨h1,h2,h3⟩;have hlt:=(yap.1 h1).1;have hm:(kN ops.toList)[p.i]? =some p.m:=by
   rw [h2];unfold bU;rw [yaO,yao (by rw [CY];simpa using hlt)];rfl
  exact ⟨p.i,by simpa using h1,by omega,hm,by rw [h3,h2];rfl⟩
theorem wo {ops:Array Oper} {i:Nat} {o:Oper} (h:ops[i]? =some o):(⟨o,i,bU ops i,jR ops i⟩:PO)∈kz ops:=zxI.2 ⟨h,rfl,rfl⟩
theorem ZG {ms:List Nat}: ∀ {l:List Nat} {u h h':Nat},chained ms l=true→l[u]? =some h→l[u+1]? =some h'→(ms.getD h' 0).testBit h=true
 | [], u,h,h',_,h1,_=>by simp at h1
 | x::l,u,h,h',hc,h1,h2=>by
  unfold chained at hc;cases l with
  | nil=>simp at h2
  | cons y l=>
   simp only at hc;split at hc
   ·rename_i hb;cases u with
    | zero=>simp at h1 h2;subst h1 h2;exact hb
    | succ u=>exact ZG hc (by simpa using h1) (by simpa using h2)
   ·cases hc
theorem Zx: ∀ {l:List PO},Eb l=true→ ∀p∈l,∀e∈p.o.after,Region.binds .any e=true→e.on<p.i
 | [], _,p,hp,_,_,_=>by cases hp
 | q::l,h,p,hp,e,he,hb=>by
  unfold Eb at h;split at h
  case h_2=>cases h
  rename_i hq;rcases yad.1 hp with rfl|hp
  ·have:=ybj.1 hq e (by simpa using he);rw [hb] at this;rw [yaF] at this;exact this
  ·exact Zx h p hp e he hb
theorem PI {hs:List Nat}: ∀ {l:List Oper} {ms:List Nat} {n:Nat},l.length=ms.length→((posOf hs l ms n).filter fun p=>jg p.o).map (·.i)=pX l n
 | [], ms,n,_=>by simp [posOf,pX]
 | o::l,[],n,h=>by simp at h
 | o::l,m::ms,n,h=>by
  unfold posOf pX;rw [List.filter_cons];cases hv:jg o with
  | true=>simp [hv,PI (hs:=hs) (l:=l) (ms:=ms) (n:=n+1) (by simpa using h)]
  | false=>simp [hv,PI (hs:=hs) (l:=l) (ms:=ms) (n:=n+1) (by simpa using h)]
theorem zs4 (ops:Array Oper):(iU ops).map (·.i)=eZ ops:=PI (by rw [CY])
theorem zx6 {ops:Array Oper} {u:Nat} {p:PO} (h:(iU ops)[u]? =some p):(eZ ops)[u]? =some p.i∧ops[p.i]? =some p.o∧p.m=bU ops p.i∧jg p.o=true:=by
 have hm:=ya5 h;unfold iU at hm;rw [List.mem_filter,zxI] at hm;refine ⟨?_,hm.1.1,hm.1.2.1,hm.2⟩;rw [←zs4,ybb,h];rfl
theorem Nt (ops:Array Oper):(iU ops).length=(eZ ops).length:=by rw [←zs4];simp
theorem Gb {s hm:Nat} {p:PO}: ∀ {l:List PO},p∈vW s hm l↔p∈l∧D6 p.o=true∧p.s≤s∧hm.testBit p.i=false
 | [] => by simp [vW]
 | q::l=>by
  unfold vW;split
  ·rename_i h1 h2 h3;rw [yad,yad,Gb];constructor
   ·rintro (rfl|h)
    ·exact ⟨.inl rfl,h1,yal h2,h3⟩
    ·exact ⟨.inr h.1,h.2⟩
   ·rintro ⟨rfl|h,h'⟩
    ·exact .inl rfl
    ·exact .inr ⟨h,h'⟩
  ·rename_i hne;rw [yad,Gb];constructor
   ·rintro ⟨h,h'⟩;exact ⟨.inr h,h'⟩
   ·rintro ⟨rfl|h,h1,h2,h3⟩
    ·exact absurd h3 (hne h1 (by rw [Nat.ble_eq];exact h2))
    ·exact ⟨h,h1,h2,h3⟩
theorem WT {o:Oper}: ∀ {l:List PO},o∈DL l↔ ∃p∈l,p.o=o
 | [] => by simp [DL]
 | q::l=>by
  unfold DL;rw [yad,WT];constructor
  ·rintro (rfl|⟨p,h,rfl⟩)
   ·exact ⟨q,yav ..,rfl⟩
   ·exact ⟨p,yam _ h,rfl⟩
  ·rintro ⟨p,h,rfl⟩;rcases yad.1 h with rfl|h
   ·exact .inl rfl
   ·exact .inr ⟨p,h,rfl⟩
theorem Wo {ops:Array Oper} {all:List PO}: ∀ {l:List PO} {s u:Nat} {p:PO},Dl ops all s l=true→l[u]? =some p→(vW (s+u) p.m all).all (OD ops all (s+u))=true
 | [], s,u,p,_,h=>by simp at h
 | q::l,s,u,p,h,hp=>by
  unfold Dl at h;split at h
  case h_2=>cases h
  rename_i hq;cases u with
  | zero=>simp at hp;subst hp;exact hq
  | succ u=>
   have:=Wo (s:=s+1) (u:=u) (p:=p) h (by simpa using hp);rw [show s+(u+1)=s+1+u by omega];exact this
theorem Zj {l:List Nat} {t:Nat} (h:t∈l):l.any (Nat.beq t)=true:=ydu.2 ⟨t,h,yb9 t⟩
theorem znY {ops:Array Oper} {l:List qR} (h:Pz ops=some l):PF ops∧l=vS (kz ops) 0 (iU ops):=by
 unfold Pz at h;simp only at h;split at h
 case h_2=>cases h
 rename_i hc;change (chained (kN ops.toList) (eZ ops)&&Eb (kz ops)&&(kz ops).all (zwd ops (kz ops))&& !(ops.toList.any D7)&&Dl ops (kz ops) 0 (iU ops))=true at hc;rw [ybe,ybe,ybe,ybe] at hc;obtain ⟨⟨⟨⟨c1,c2⟩,c3⟩,c4⟩,c5⟩:=hc;refine ⟨⟨fun i o ho e he hb=>Zx c2 _ (wo ho) e he hb,fun u h h' h1 h2=>ZG c1 h1 h2,fun p q o oq t hp hq hd ht=> ?_,fun p q o oq t hne hp hq hd hdq=> ?_,fun p o hp=> ?_,fun u h p q o oq t hu hp hl hs hb hq hd ht=> ?_⟩,(yaC h).symm⟩
 ·have:=ybj.1 (ybj.1 c3 _ (wo hp)) _ (wo hq);simp only [hd,Zj ht] at this;cases hb:(bU ops p).testBit q with
  | true=>exact .inl rfl
  | false=>
   cases hb':(bU ops q).testBit p with
   | true=>exact .inr rfl
   | false=>simp [hb,hb'] at this
 ·have:=ybj.1 (ybj.1 c3 _ (wo hp)) _ (wo hq);simp only [hdq,hd] at this;have e1:Nat.beq p q=false:=by cases e:Nat.beq p q with
   | false=>rfl
   | true=>exact absurd (yda e) hne
  split at this
  ·cases this
  ·simp [e1] at this
 ·have:=c4;simp only [Bool.not_eq_true',List.any_eq_false] at this;have:=this o (by have:=Array.mem_of_getElem? hp;simpa using this);simpa using this
 ·obtain ⟨hlt,_⟩:=yax.1 hu;rw [←Nt] at hlt;have hpo:(iU ops)[u]? =some (iU ops)[u]:=yao hlt;obtain ⟨g1,g2,g3,g4⟩:=zx6 hpo;rw [hu] at g1;have e:h=(iU ops)[u].i:=yaC g1;have hall:=Wo c5 hpo;rw [yau,g3,←e] at hall;have:=ybj.1 hall ⟨o,p,bU ops p,jR ops p⟩ (Gb.2 ⟨wo hp,hl,hs,hb⟩);unfold OD at this;have:=ybj.1 this _ (wo hq);simp only [hd,Zj ht] at this;cases hb:(bU ops p).testBit q with
  | true=>exact .inl rfl
  | false=>
   cases hb':Nat.blt u (jR ops q) with
   | true=>rw [yaF] at hb';exact .inr hb'
   | false=>simp [hb,hb'] at this
theorem Wx {ops:Array Oper} (he:rX ops) {v x:Nat} (hv:(eZ ops)[v]? =some x):jR ops x≤v:=by
 rcases IB (ops:=ops) x with h|⟨u,y,h1,h2,h3⟩
 ·omega
 ·have:=O1 h1 hv (DX he x y h2);omega
section
variable {P:Program} {ρ:Val} {w0:Cx} {j:J} {H:Heap} {w:World} {N:Nat} {env:T AV} {a:Act} {o:Oper} {ops:Array Oper} {Q:Exit→Act→World→Prop}
theorem count_set {listed:Array Bool} {i:Nat} (h:listed.getD i true=false):(listed.setIfInBounds i true).count false+1=listed.count false:=by
 have hlt:i<listed.size:=by
  apply ybr;intro hn;rw [yay,ya4 (by omega)] at h;cases h
 have hf:listed[i]=false:=by
  rw [yay,yaL hlt] at h;exact h
 have hpos:0<listed.count false:=Array.count_pos_iff.2 (by rw [←hf];exact Array.getElem_mem hlt);rw [Array.setIfInBounds_def,ydB hlt,Array.count_set];simp [hf];omega
end
end Go.Dw
namespace Go.Dw
def GV (ρ:Val):G→Bool→Prop
 | .yes,g=>g=true
 | .no,g=>g=false
 | .test _ b want,g=>(b.den ρ==want)=g
 | .none,_=>False
def yR (N:Nat) (env:T AV) (o:Oper) (v:AV):Prop:= ∀d,o.dst=some d→d<N∧env.get d=some v
section
variable {P:Program} {ρ:Val} {w0:Cx} {ops:Array Oper} {N:Nat} {iw:T AV} {H0:Heap} {j0:J}
variable {D listed:Nat→Prop} {bO env env':T AV} {j j':J} {H H':Heap} {w w':World} {a:Act} {nm pJ:Nat→Option Nat} {rec:Task→Ob} {n:Nat} {Q:Exit→Act→World→Prop}
theorem zDw {x:Operand} (h: ∀t,x= .tmp t→env.get t=env'.get t):bf env x=bf env' x:=by
 cases x with
 | tmp t=>simp only [bf];rw [h t rfl]
 | _=>rfl
theorem NJ {o:Oper} (h: ∀t∈looks ops o,env.get t=env'.get t): ∀x∈o.op.operands,bf env x=bf env' x:=fun x hx=>zDw fun t e=>h t (by
 subst e;unfold looks;exact ych _ (List.mem_filterMap.2 ⟨.tmp t,by simpa using hx,rfl⟩))
theorem M7 {o:Oper} (h: ∀t∈looks ops o,env.get t=env'.get t):lV ops env o=lV ops env' o:=by
 unfold lV;cases hg:o.guard with
 | none=>rfl
 | some gw=>
  obtain ⟨i,want⟩:=gw;simp only;cases hi:ops[i]? with
  | none=>rfl
  | some oj=>
   simp only;cases hd:oj.dst with
   | none=>rfl
   | some t=>
    simp only;rw [h t (by unfold looks;refine ycc _ ?_;simp [hg,hi,hd])]
theorem zoX (he:ER ρ j N env a) {o:Oper} {g:Bool} (h:GV ρ (lV ops env o) g):Region.wanted o (yielded ops a.tmps)=g:=by
 have hs:=zjp he ops o;cases hG:lV ops env o with
 | yes=>rw [hG] at h hs;have h:g=true:=h;rw [h];exact hs
 | no=>rw [hG] at h hs;have h:g=false:=h;rw [h];exact hs
 | none=>rw [hG] at h;exact h.elim
 | test t b want=>
  rw [hG] at h hs;have hb:=(NR he hs).2;have h:(b.den ρ==want)=g:=h;unfold lV at hG;split at hG
  ·cases hG
  rename_i i want' hg;split at hG
  ·cases hG
  rename_i oj hi;split at hG
  ·cases hG
  rename_i t' hd;split at hG
  ·cases hG
  ·split at hG<;>cases hG
  ·split at hG<;>cases hG
  ·cases hG;unfold Region.wanted;rw [hg];simp only [yielded,hi,ybC,hd,hb];rw [←h];cases b.den ρ<;>cases want<;>rfl
  ·cases hG
  ·cases hG
  ·cases hG
def Told (ρ:Val) (l:List (SB×Bool)):Prop:= ∀c∈l,c.1.den ρ=c.2
theorem rP {ρ:Val} {c:SB}: ∀ {l:List (SB×Bool)} {b:Bool},Told ρ l→uF c l=some b→c.den ρ=b
 | [], _,_,h=>by cases h
 | p::l,b,ht,h=>by
  unfold uF at h;split at h
  ·rename_i he;cases h;rw [SB.sM he];exact ht p (by simp)
  ·exact rP (fun c hc=>ht c (by simp [hc])) h
theorem NZ {ρ:Val} {l:List (SB×Bool)} {c:SB} {b:Bool} (h:Told ρ l) (hc:c.den ρ=b):Told ρ ((c,b)::l):=fun x hx=>by
 rcases yad.1 hx with rfl|hx
 ·exact hc
 ·exact h x hx
def MH (ρ:Val) (z:AV):Prop:= ∀j,R ρ j z undef
theorem zFJ {ρ:Val} {G:G} {a b:Bool} (h:GV ρ G a) (k:GV ρ G b):a=b:=by
 cases G with
 | yes=>exact ydw (show a=true from h) (show b=true from k).symm
 | no=>exact ydw (show a=false from h) (show b=false from k).symm
 | test t c want=>exact ydw (show (c.den ρ==want)=a from h).symm k
 | none=>exact h.elim
theorem zoY {fs:List (SB×Bool)} (hf:Told ρ fs) {o:Oper}:(uE fs ops env o= .yes→GV ρ (lV ops env o) true)∧(uE fs ops env o= .no→GV ρ (lV ops env o) false∧MH ρ (MB ops env o))∧
  (∀ t b want,uE fs ops env o= .test t b want→lV ops env o= .test t b want):=by
 unfold uE MB;cases hG:lV ops env o with
 | yes=>exact ⟨fun _=>rfl,fun h=>by (simp at h),fun _ _ _ h=>by (simp at h)⟩
 | no=>exact ⟨fun h=>by (simp at h),fun _=>⟨rfl,fun j=>qM⟩,fun _ _ _ h=>by (simp at h)⟩
 | none=>exact ⟨fun h=>by (simp at h),fun h=>by (simp at h),fun _ _ _ h=>by (simp at h)⟩
 | test t b want=>
  simp only;split
  ·rename_i ht;have hb:=rP hf ht;cases want with
   | true=>exact ⟨fun _=>by (show (b.den ρ==true)=true;rw [hb];rfl),fun h=>by (simp at h),fun _ _ _ h=>by (simp at h)⟩
   | false=>exact ⟨fun h=>by (simp at h),fun _=>⟨by (show (b.den ρ==false)=false;rw [hb];rfl),fun j=>(show undef=undef∧b.den ρ= !_ from ⟨rfl,hb⟩)⟩,fun _ _ _ h=>by (simp at h)⟩
  ·rename_i ht;have hb:=rP hf ht;cases want with
   | true=>exact ⟨fun h=>by (simp at h),fun _=>⟨by (show (b.den ρ==true)=false;rw [hb];rfl),fun j=>(show undef=undef∧b.den ρ= !_ from ⟨rfl,hb⟩)⟩,fun _ _ _ h=>by (simp at h)⟩
   | false=>exact ⟨fun _=>by (show (b.den ρ==false)=true;rw [hb];rfl),fun h=>by (simp at h),fun _ _ _ h=>by (simp at h)⟩
  ·exact ⟨fun h=>by (simp at h),fun h=>by (simp at h),fun _ _ _ h=>h⟩
theorem WU {o:Oper} {k:T AV→Heap→Ob} {rest:List qR} {fs:List (SB×Bool)} (hf:Told ρ fs) (h:Ob.den ρ (gU P rec ops N k (.run o::rest) fs env H)):
  ∃ g z fs',GV ρ (lV ops env o) g∧(g=false→MH ρ z)∧Told ρ fs'∧Ob.den ρ (Eg P rec o N (gU P rec ops N k rest fs') env H g z):=by
 obtain ⟨e1,e2,e3⟩:=zoY (ops:=ops) (env:=env) hf (o:=o);unfold gU at h;cases hG:uE fs ops env o with
 | yes=>rw [hG] at h;exact ⟨true,_,fs,e1 hG,(fun hh=>by cases hh),hf,h⟩
 | no=>rw [hG] at h;exact ⟨false,_,fs,(e2 hG).1,fun _=>(e2 hG).2,hf,h⟩
 | none=>rw [hG] at h;exact h.elim
 | test t b want=>
  rw [hG] at h;rw [e3 _ _ _ hG];obtain ⟨h1,h2⟩:=h;cases hb:b.den ρ with
  | true=>exact ⟨want,.iM b want,_,by show (b.den ρ==want)=want;rw [hb];cases want<;>rfl,fun hw j=>(show undef=undef∧b.den ρ= !want from ⟨rfl,by rw [hb,hw];rfl⟩),NZ hf hb,h1 hb⟩
  | false=>
   cases want with
   | true=>exact ⟨false,.iM b true,_,by show (b.den ρ==true)=false;rw [hb];rfl,fun _ j=>(show undef=undef∧b.den ρ= !true from ⟨rfl,by rw [hb];rfl⟩),NZ hf hb,h2 hb⟩
   | false=>exact ⟨true,_,_,by show (b.den ρ==false)=true;rw [hb];rfl,(fun hh=>by cases hh),NZ hf hb,h2 hb⟩
theorem zqi {os:List Oper} {k:T AV→Heap→Ob} {rest:List qR} {fs:List (SB×Bool)} (h:Ob.den ρ (gU P rec ops N k (.sI os::rest) fs env H)):
  uT P fs ops env H os=true∧Ob.den ρ (gU P rec ops N k rest fs env H):=by
 unfold gU at h;split at h
 ·rename_i hc;exact ⟨hc,h⟩
 ·exact h.elim
theorem Ic {dst:Option Tmp} {v:AV} {kk:T AV→Ob} (h:Ob.den ρ (nI dst N env v kk)):
  ∃ env',Ob.den ρ (kk env')∧(∀d,dst=some d→d<N∧env'.get d=some v)∧(∀t,dst≠some t→env'.get t=env.get t):=by
 unfold nI at h;split at h
 ·exact ⟨env,h,⟨fun d e=>(by cases e),fun _ _=>rfl⟩⟩
 ·rename_i d;split at h
  ·rename_i hb;rw [yaF] at hb;refine ⟨_,h,fun d' e=> ?_,fun t ht=> ?_⟩
   ·cases e;exact ⟨hb,by rw [T.lI,yaj rfl]⟩
   ·rw [T.lI,yai (fun e=>ht (by rw [e]))]
  ·exact h.elim
theorem zyC {fs:List (SB×Bool)}: ∀ {os:List Oper},uT P fs ops env H os=true→ ∀o∈os,uE fs ops env o= .no∨(uE fs ops env o= .yes∧ ∃v,light P o.op env H=some v∧ ∀d,o.dst=some d→env.get d=some v)
 | [], _,o,ho=>by cases ho
 | q::os,h,o,ho=>by
  unfold uT at h;have hrest:uT P fs ops env H os=true:=by
   split at h
   ·exact h
   ·split at h
    ·split at h
     ·split at h
      ·exact h
      ·cases h
     ·cases h
    ·exact h
    ·cases h
   ·cases h
  rcases yad.1 ho with rfl|ho
  ·split at h
   ·rename_i hg;exact .inl hg
   ·rename_i hg;refine .inr ⟨hg,?_⟩;split at h
    ·rename_i v d hl hd;split at h
     ·rename_i u hu;split at h
      ·rename_i hb;refine ⟨v,hl,fun d' e=> ?_⟩;rw [hd] at e;cases e;rw [hu,AV.beq_eq hb]
      ·cases h
     ·cases h
    ·rename_i v hl hd;exact ⟨v,hl,fun d' e=>by rw [hd] at e;cases e⟩
    ·cases h
   ·cases h
  ·exact zyC hrest o ho
theorem ER.FE (he:ER ρ j N bO a) {o:Oper} {v:AV} {u:Value} (hR:R ρ j v u) (hd: ∀d,o.dst=some d→d<N):
  ∃ iJ,ER ρ j N iJ (a.put o.dst u)∧(∀d,o.dst=some d→iJ.get d=some v)∧(∀t,o.dst≠some t→iJ.get t=bO.get t):=by
 cases hdst:o.dst with
 | none=>exact ⟨bO,he,⟨fun d e=>(by cases e),fun _ _=>rfl⟩⟩
 | some d=>
  refine ⟨bO.set d v,he.put (hd d hdst) hR,fun d' e=> ?_,fun t ht=> ?_⟩
  ·cases e;rw [T.lI,yaj rfl]
  ·rw [T.lI,yai (fun e=>ht (by rw [e]))]
def Done (P:Program) (ρ:Val) (N:Nat) (H0:Heap) (env kF:T AV) (H:Heap) (j:J) (nm:Option Nat) (o:Oper) (g:Bool):Prop:=
 (g=true∧oL o.op= .light∧ ∃v,light P o.op kF H=some v∧yR N env o v)∨
 (g=true∧oL o.op= .alloc∧ ∃v ob nx,nm=some nx∧ng P o.op kF nx=some (v,ob)∧H.m.get nx=some ob∧j nx=none∧H0.nx≤nx∧yR N env o v)∨
 (g=false∧ ∃z,MH ρ z∧yR N env o z)
def P9 (ops:Array Oper) (iw env kF:T AV) (i:Nat) (o:Oper):Prop:=
 ∀ t∈looks ops o,(∀q oq,(bU ops i).testBit q=true→ops[q]? =some oq→oq.dst=some t→kF.get t=env.get t)∧
  ((∀ q oq,(bU ops i).testBit q=true→ops[q]? =some oq→oq.dst≠some t)→kF.get t=iw.get t)
def Vp (P:Program) (ρ:Val) (ops:Array Oper) (N:Nat) (iw:T AV) (H0:Heap) (env:T AV) (H:Heap) (j:J) (nm:Option Nat) (i:Nat) (o:Oper):Prop:=
 ∃ kF g,GV ρ (lV ops kF o) g∧P9 ops iw env kF i o∧Done P ρ N H0 env kF H j nm o g
theorem zpt (op:Op) (env:T AV) (nx:Nat) (v:AV) (k:Nat):ng P op env nx≠some (v,.gs k):=fun h=>by
 cases op<;>simp only [ng,JJ] at h<;>try cases h
 case alloc=>unfold Es kK at h;split at h<;>cases h
 case box=>unfold yU kK at h;split at h<;>cases h
 case buildSlice=>unfold Aa kK at h;(repeat' split at h)<;>cases h
 case makeMap=>unfold Ao at h;(repeat' split at h)<;>cases h
 case makeSlice=>unfold zY at h;(repeat' split at h)<;>cases h
structure CI (P:Program) (ρ:Val) (w0:Cx) (ops:Array Oper) (N:Nat) (iw:T AV) (H0:Heap) (j0:J) (D listed:Nat→Prop) (bO env:T AV) (j:J) (H:Heap) (w:World) (nm:Nat→Option Nat):Prop where
 inv:Inv ρ w0 j H w
 st:St j0 H0 j H
 sub: ∀i,listed i→D i
 e0: ∀t,(∀i o,D i→ops[i]? =some o→o.dst≠some t)→env.get t=iw.get t
 s0: ∀t,(∀i o,listed i→ops[i]? =some o→o.dst≠some t)→bO.get t=iw.get t
 s1: ∀t i o,listed i→ops[i]? =some o→o.dst=some t→bO.get t=env.get t
 FH: ∀i o,D i→ ¬listed i→ops[i]? =some o→Vp P ρ ops N iw H0 env H j (nm i) i o
 bnd: ∀i nx,nm i=some nx→nx<H.nx
 inj: ∀i i' nx,nm i=some nx→nm i'=some nx→i=i'
theorem CI.congr {D':Nat→Prop} (h: ∀i,D i↔D' i) (ci:CI P ρ w0 ops N iw H0 j0 D listed bO env j H w nm):CI P ρ w0 ops N iw H0 j0 D' listed bO env j H w nm:=by
 have e:D=D':=funext fun i=>propext (h i);rw [←e];exact ci
theorem CI.put (pf:PF ops) (ci:CI P ρ w0 ops N iw H0 j0 D listed bO env j H w nm) {p:Nat} {o:Oper} (ho:ops[p]? =some o) (hp: ¬D p)
  (hcl: ∀i x,D i→(bU ops i).testBit x=true→D x) (hinv:Inv ρ w0 j H' w) (hst:St j0 H0 j H') (hext:Ext H H') (hnx:H.nx≤H'.nx)
  (QZ: ∀t,o.dst≠some t→env'.get t=env.get t) (hnm: ∀i,i≠p→pJ i=nm i) (aay: ∀i nx,pJ i=some nx→nx<H'.nx) (hinj: ∀i i' nx,pJ i=some nx→pJ i'=some nx→i=i')
  (hrec:P9 ops iw env' env p o→Vp P ρ ops N iw H0 env' H' j (pJ p) p o) (hm: ∀x,(bU ops p).testBit x=true→D x):
  CI P ρ w0 ops N iw H0 j0 (fun x=>D x∨x=p) listed bO env' j H' w pJ:=by
 have hne: ∀i,D i→i≠p:=fun i hi e=>hp (e▸hi);have hkeep: ∀i oi t,D i→ops[i]? =some oi→oi.dst=some t→env'.get t=env.get t:=fun i oi t hi hoi hd=>
  QZ t (pf.Bn i p oi o t (hne i hi) hoi ho hd)
 refine ⟨hinv,hst,fun i hi=> .inl (ci.sub i hi),fun t ht=> ?_,ci.s0,fun t i oi hi hoi hd=> ?_,fun i oi hi hl hoi=> ?_,aay,hinj⟩
 ·rw [QZ t (ht p o (.inr rfl) ho)];exact ci.e0 t fun i oi hi hoi=>ht i oi (.inl hi) hoi
 ·rw [ci.s1 t i oi hi hoi hd,hkeep i oi t (ci.sub i hi) hoi hd]
 ·by_cases ic:i=p
  ·subst ic;rw [ho] at hoi;cases hoi;refine hrec fun t ht=>⟨fun q oq hq hoq hd=>(hkeep q oq t (hm q hq) hoq hd).symm,fun hno=>ci.e0 t fun q oq hq hoq hd=> ?_⟩;rcases pf.reads i q o oq t ho hoq hd ht with h|h
   ·exact hno q oq h hoq hd
   ·exact hp (hcl q i hq h)
  ·have uY:D i:=hi.resolve_right ic;obtain ⟨kF,g,h1,h2,h3⟩:=ci.FH i oi uY hl hoi;have hdst: ∀v,yR N env oi v→yR N env' oi v:=fun v hv d hd=>⟨(hv d hd).1,by rw [hkeep i oi d uY hoi hd];exact (hv d hd).2⟩;refine ⟨kF,g,h1,fun t ht=>⟨fun q oq hq hoq hd=> ?_,(h2 t ht).2⟩,?_⟩
   ·rw [(h2 t ht).1 q oq hq hoq hd,hkeep q oq t (hcl i q uY hq) hoq hd]
   ·rw [hnm i ic];rcases h3 with ⟨g1,g2,v,g3,g4⟩|⟨g1,g2,v,ob,nx,g3,g4,g5,g6,g7,g8⟩|⟨g1,g2⟩
    ·exact .inl ⟨g1,g2,v,zuZ hext g3,hdst v g4⟩
    ·exact .inr (.inl ⟨g1,g2,v,ob,nx,g3,g4,hext.m _ _ g5,g6,g7,hdst v g8⟩)
    ·exact (.inr (.inr ⟨g1,g2.elim fun z hz=>⟨z,hz.1,hdst _ hz.2⟩⟩))
theorem zyf {o:Obj} (hi:Inv ρ w0 j H w):Ext H (H.alloc o):=by
 rw [Heap.alloc_eq];refine ⟨fun n o' h=> ?_,rfl⟩;have:=hi.used n o' h;show (H.m.set H.nx o).get n=_;rw [T.lI,yai (by omega)];exact h
theorem zxP {o:Oper} (h:oL o.op= .light):D6 o=true:=by unfold D6;rw [h]
theorem zys {o:Oper} (h:jg o=true) (hd:D7 o=false):oL o.op= .heavy:=by
 unfold jg at h;unfold D7 at hd;cases hc:oL o.op<;>rw [hc] at h hd<;>first|rfl|exact absurd hd Bool.noConfusion|exact absurd h Bool.noConfusion
theorem zyr {o:Oper} (h:jg o=false):oL o.op= .light∨oL o.op= .alloc:=by
 unfold jg at h;cases hc:oL o.op<;>rw [hc] at h<;>first|exact .inl rfl|exact .inr rfl|exact absurd h (by simp)
theorem zps {op:Op} {nx:Nat} {v:AV} {ob:Obj} (h:ng P op env nx=some (v,ob)): ∀v' e g t sh ow,ob≠ .cells v' e g (some t) sh ow:=by
 intro v' e g t sh ow iK;subst iK;cases op<;>simp only [ng,JJ] at h<;>try (cases h;done)
 case alloc t'=>unfold Es kK at h;split at h<;>cases h
 case box t' x=>unfold yU kK at h;split at h<;>cases h
 case buildSlice t' len parts=>
  unfold Aa kK at h;split at h
  ·split at h
   ·split at h
    ·split at h<;>cases h
    ·cases h
   ·cases h
  ·cases h
 case makeMap t' r=>
  unfold Ao at h;split at h
  ·cases h
  ·split at h<;>cases h
 case makeSlice t' l c=>
  unfold zY at h;split at h
  ·split at h
   ·split at h
    ·split at h<;>cases h
    ·cases h
   ·cases h
  ·cases h
theorem CI.aaf (pf:PF ops) (ci:CI P ρ w0 ops N iw H0 j0 D listed bO env j H w nm) {p:Nat} {o:Oper} (ho:ops[p]? =some o) (hv:jg o=false) (hp: ¬D p)
  (hcl: ∀i x,D i→(bU ops i).testBit x=true→D x) (hm: ∀x,(bU ops p).testBit x=true→D x) {k:T AV→Heap→Ob} {rest:List qR}
  {fs:List (SB×Bool)} (hf:Told ρ fs) (h:Ob.den ρ (gU P rec ops N k (.run o::rest) fs env H)):
  ∃ env' H' pJ fs',CI P ρ w0 ops N iw H0 j0 (fun x=>D x∨x=p) listed bO env' j H' w pJ∧Told ρ fs'∧Ob.den ρ (gU P rec ops N k rest fs' env' H'):=by
 obtain ⟨g,z,fs',hg,hz,hf',hd⟩:=WU hf h;cases g with
 | false=>
  obtain ⟨env',h1,h2,h3⟩:=Ic (kk:=fun env'=>gU P rec ops N k rest fs' env' H) hd;exact ⟨env',H,nm,fs',ci.put pf ho hp hcl ci.inv ci.st (Ext.refl H) (yab _) h3 (fun _ _=>rfl) ci.bnd ci.inj (fun hl=>⟨env,false,hg,hl,.inr (.inr ⟨rfl,z,hz rfl,h2⟩)⟩) hm,hf',h1⟩
 | true=>
  have hd:Ob.den ρ (uW P rec o env H fun env v H=>nI o.dst N env v fun env'=>gU P rec ops N k rest fs' env' H):=hd;unfold uW at hd;rcases zyr hv with hc|hc
  ·rw [hc] at hd;have hd:Ob.den ρ (LA o H (fun v H=>nI o.dst N env v fun env'=>gU P rec ops N k rest fs' env' H) (light P o.op env H)):=hd;cases hl:light P o.op env H with
   | none=>rw [hl] at hd;exact hd.elim
   | some v=>
    rw [hl] at hd;obtain ⟨env',h1,h2,h3⟩:=Ic (kk:=fun env'=>gU P rec ops N k rest fs' env' H) hd;exact ⟨env',H,nm,fs',ci.put pf ho hp hcl ci.inv ci.st (Ext.refl H) (yab _) h3 (fun _ _=>rfl) ci.bnd ci.inj (fun hlk=>⟨env,true,hg,hlk,.inl ⟨rfl,hc,v,hl,h2⟩⟩) hm,hf',h1⟩
  ·rw [hc] at hd;have hd:Ob.den ρ (Lx o H (fun v H=>nI o.dst N env v fun env'=>gU P rec ops N k rest fs' env' H) (ng P o.op env H.nx)):=hd;cases hl:ng P o.op env H.nx with
   | none=>rw [hl] at hd;exact hd.elim
   | some q=>
    obtain ⟨v,ob⟩:=q;rw [hl] at hd;obtain ⟨env',h1,h2,h3⟩:=Ic (kk:=fun env'=>gU P rec ops N k rest fs' env' (H.alloc ob)) hd;have hnx:(H.alloc ob).nx=H.nx+1:=by rw [Heap.alloc_eq]
    have hinv:Inv ρ w0 j (H.alloc ob) w:=ci.inv.extend ob (fun v' e g t sh ow iK=>absurd iK (zps hl v' e g t sh ow));refine ⟨env',H.alloc ob,fun i=>if i=p then some H.nx else nm i,fs',ci.put pf ho hp hcl hinv (ci.st.trans (St.extend ci.inv ob)) (zyf ci.inv) (by omega) h3 (fun i hi=>yai hi) (fun i nx hi=> ?_) (fun i i' nx h1 h2=> ?_) (fun hlk=>⟨env,true,hg,hlk,.inr (.inl ⟨rfl,hc,v,ob,H.nx,yaj rfl,hl,?_,ci.inv.fresh,ci.st.nx,h2⟩)⟩) hm,hf',h1⟩
    ·by_cases ic:i=p
     ·rw [yaj ic] at hi;cases hi;omega
     ·rw [yai ic] at hi;have:=ci.bnd i nx hi;omega
    ·by_cases ic:i=p<;>by_cases zB:i'=p
     ·rw [ic,zB]
     ·rw [yaj ic] at h1;rw [yai zB] at h2;cases h1;exact absurd (ci.bnd i' _ h2) (ybX _)
     ·rw [yai ic] at h1;rw [yaj zB] at h2;cases h2;exact absurd (ci.bnd i _ h1) (ybX _)
     ·rw [yai ic] at h1;rw [yai zB] at h2;exact ci.inj i i' nx h1 h2
    ·rw [Heap.alloc_eq];show (H.m.set H.nx ob).get H.nx=_;rw [T.lI,yaj rfl]
theorem HV (pf:PF ops) {k:T AV→Heap→Ob} {rest:List qR} {s:Nat}: ∀(l:List Oper) (ms:List Nat) (n:Nat) (fs:List (SB×Bool)) (env:T AV) (H:Heap) (nm:Nat→Option Nat),Told ρ fs→l=ops.toList.drop n→ms=(kN ops.toList).drop n→
  CI P ρ w0 ops N iw H0 j0 (DD ops s n) listed bO env j H w nm→Ob.den ρ (gU P rec ops N k (yD s (posOf (eZ ops) l ms n)++rest) fs env H)→
  ∃ env' H' pJ fs',CI P ρ w0 ops N iw H0 j0 (DD ops s ops.size) listed bO env' j H' w pJ∧Told ρ fs'∧Ob.den ρ (gU P rec ops N k rest fs' env' H')
 | [], ms,n,fs,env,H,nm,hf,hl,hms,ci,h=>by
  have hn:ops.size≤n:=by have:=hl.symm;rw [ydd] at this;simpa using this
  have e:posOf (eZ ops) [] ms n= []:=by simp [posOf]
  rw [e] at h;exact ⟨env,H,nm,fs,ci.congr (zEp hn),hf,h⟩
 | o::l,ms,n,fs,env,H,nm,hf,hl,hms,ci,h=>by
  have ho:ops[n]? =some o:=by
   have:=yaI (·[0]?) hl;simp only [yaz,yb5,ybk] at this;simpa using this.symm
  have hlt:=(yap.1 ho).1;have hl':l=ops.toList.drop (n+1):=by
   have:=yaI List.tail hl;simpa using this
  cases Rx:ms with
  | nil=>
   rw [Rx] at hms;have:=hms.symm;rw [ydd,CY] at this;simp at this;omega
  | cons m ms'=>
   rw [Rx] at hms h;have hm:m=bU ops n:=by
    have:=yaI (·[0]?) hms;simp only [yaz,yb5,ybk] at this;unfold bU;rw [yaO,←this];rfl
   have Rv:ms'=(kN ops.toList).drop (n+1):=by
    have:=yaI List.tail hms;simpa using this
   unfold posOf at h;unfold yD at h;have hst:lF m (eZ ops) 0 0=jR ops n:=by rw [hm];rfl
   simp only [hst] at h;split at h
   ·rename_i hv hs;have hs:=yda hs;have hnD: ¬DD ops s n n:=by
     rintro ⟨o',h1,h2⟩;rw [ho] at h1;cases h1;rcases h2 with ⟨_,h2⟩|⟨h2,_⟩
     ·omega
     ·rw [hv] at h2;cases h2
    obtain ⟨env',H',pJ,fs',h1,hf',h2⟩:=ci.aaf pf ho hv hnD (fun i x hi hx=>zyT pf.wU hi hx) (fun x hx=>zEq pf.wU hs hx) hf h;exact HV pf l ms' (n+1) fs' env' H' pJ hf' hl' Rv (h1.congr (zEn ho hv hs)) h2
   ·rename_i hne;refine HV pf l ms' (n+1) fs env H nm hf hl' Rv (ci.congr (zEo ho ?_)) h;cases hv:jg o with
    | true=>exact .inl rfl
    | false=>exact .inr fun e=>hne hv (by rw [e];exact yb9 s)
theorem CI.list (pf:PF ops) (ci:CI P ρ w0 ops N iw H0 j0 D listed bO env j H w nm) {i:Nat} {o:Oper} {iJ:T AV} (ho:ops[i]? =some o) (hD:D i)
  (hinv:Inv ρ w0 j' H w') (hst:St j0 H0 j' H) (hd: ∀d,o.dst=some d→iJ.get d=env.get d) (hn: ∀t,o.dst≠some t→iJ.get t=bO.get t)
  (hj: ∀i' nx,i'≠i→nm i'=some nx→j nx=none→j' nx=none):
  CI P ρ w0 ops N iw H0 j0 D (fun x=>listed x∨x=i) iJ env j' H w' nm:=by
 refine ⟨hinv,hst,fun x hx=>hx.elim (ci.sub x) fun e=>e▸hD,ci.e0,fun t ht=> ?_,fun t x ox hx hox KI=> ?_,fun x ox hx hl hox=> ?_,ci.bnd,ci.inj⟩
 ·rw [hn t (ht i o (.inr rfl) ho)];exact ci.s0 t fun x ox hx hox=>ht x ox (.inl hx) hox
 ·by_cases hxi:x=i
  ·subst hxi;rw [ho] at hox;cases hox;exact hd t KI
  ·rw [hn t (pf.Bn x i ox o t hxi hox ho KI)];exact ci.s1 t x ox (hx.resolve_right hxi) hox KI
 ·have hxi:x≠i:=fun e=>hl (.inr e);obtain ⟨kF,g,h1,h2,h3⟩:=ci.FH x ox hx (fun h=>hl (.inl h)) hox;refine ⟨kF,g,h1,h2,?_⟩;rcases h3 with h3|⟨g1,g2,v,ob,nx,g3,g4,g5,g6,g7,g8⟩|h3
  ·exact .inl h3
  ·exact .inr (.inl ⟨g1,g2,v,ob,nx,g3,g4,g5,hj x nx hxi g3 g6,g7,g8⟩)
  ·exact .inr (.inr h3)
theorem CI.late (pf:PF ops) (ci:CI P ρ w0 ops N iw H0 j0 D listed bO env j H w nm) (he:ER ρ j N bO a) {i:Nat} {o:Oper} (ho:ops[i]? =some o) (hD:D i) (hl: ¬listed i)
  (hm: ∀x,(bU ops i).testBit x=true→listed x) (hlc: ∀q x,listed q→(bU ops q).testBit x=true→listed x) {K:Act→World→Prop}
  (hK: ∀iJ j' a' w',CI P ρ w0 ops N iw H0 j0 D (fun x=>listed x∨x=i) iJ env j' H w' nm→ER ρ j' N iJ a'→K a' w'):wpOp P ops Q i K a w:=by
 obtain ⟨kF,g,hg,Ro,hdone⟩:=ci.FH i o hD hl ho;have hag: ∀t∈looks ops o,bO.get t=kF.get t:=fun t ht=>by
  by_cases hw: ∃q oq,(bU ops i).testBit q=true∧ops[q]? =some oq∧oq.dst=some t
  ·obtain ⟨q,oq,h1,h2,h3⟩:=hw;rw [ci.s1 t q oq (hm q h1) h2 h3,(Ro t ht).1 q oq h1 h2 h3]
  ·rw [(Ro t ht).2 (fun q oq h1 h2 h3=>hw ⟨q,oq,h1,h2,h3⟩)];refine ci.s0 t fun q oq h1 h2 h3=> ?_;rcases pf.reads i q o oq t ho h2 h3 ht with h4|h4
   ·exact hw ⟨q,oq,h4,h2,h3⟩
   ·exact hl (hlc q i h1 h4)
 rw [←M7 hag] at hg;have hwant:=zoX he hg;have hops:=NJ hag;unfold wpOp;simp only [ho];rw [hwant];rcases hdone with ⟨rfl,hc,v,hv,hd⟩|⟨rfl,hc,v,ob,nx,hnm,hv,hH,hj,hnx,hd⟩|⟨rfl,hd⟩
 ·rw [yaj rfl];left;rw [←Ya hops] at hv;obtain ⟨u,h1,h2⟩:=Nq ci.inv he hv;unfold Oper.wp;rw [h1,Oper.upon_value];obtain ⟨iJ,e1,e2,e3⟩:=he.FE h2 (fun d hh=>(hd d hh).1);exact hK iJ j _ _ (ci.list pf ho hD ci.inv ci.st (fun d hh=>by rw [e2 d hh,(hd d hh).2]) e3 (fun _ _ _ _ h=>h)) e1
 ·rw [yaj rfl];left;rw [←zpu hops] at hv;obtain ⟨⟨u,obj,h1,h2,h3⟩,h4⟩:=WK (P:=P) (w:=w) he hv;unfold Oper.wp;rw [h1,Oper.upon_value];have hinv:=ci.inv.JL hH hj h2 (fun v e g cl sh iK=>by subst iK;exact .inl h4);have hst:St j0 H0 (iV j nx ⟨w.heap.size,0,0,none⟩) H:=by
   refine ⟨ci.st.sub.trans (pR hj),fun m L e e0=> ?_,ci.st.keep,ci.st.nx⟩;by_cases hm:m=nx
   ·omega
   ·rw [lu _ _ hm] at e;exact ci.st.fresh m L e e0
  obtain ⟨iJ,e1,e2,e3⟩:=(he.mono (pR hj)).FE h3 (fun d hh=>(hd d hh).1);refine hK iJ _ _ _ (ci.list pf ho hD hinv hst (fun d hh=>by rw [e2 d hh,(hd d hh).2]) e3 (fun i' nx' hne hnm' hj'=> ?_)) e1;rw [lu _ _ (fun e=>hne (ci.inj i' i nx' hnm' (by rw [e];exact hnm)))];exact hj'
 ·rw [yai (by simp)];obtain ⟨z,hz,hd⟩:=hd;obtain ⟨iJ,e1,e2,e3⟩:=he.FE (o:=o) (hz j) (fun d hh=>(hd d hh).1);exact hK iJ j _ _ (ci.list pf ho hD ci.inv ci.st (fun d hh=>by rw [e2 d hh,(hd d hh).2]) e3 (fun _ _ _ _ h=>h)) e1
theorem CI.heavy (hgood:Good P ρ w0 n rec) (pf:PF ops) (ci:CI P ρ w0 ops N iw H0 j0 D listed bO env j H w nm) (he:ER ρ j N bO a) {h u:Nat} {o:Oper} (ho:ops[h]? =some o) (hv:jg o=true) (hD: ¬D h)
  (hcl: ∀i x,D i→(bU ops i).testBit x=true→D x) (hm: ∀x,(bU ops h).testBit x=true→listed x) (hu:(eZ ops)[u]? =some h)
  (hDs: ∀i oi,D i→ops[i]? =some oi→jR ops i≤u) {k:T AV→Heap→Ob} {rest:List qR}
  {fs:List (SB×Bool)} (hf:Told ρ fs) (hden:Ob.den ρ (gU P rec ops N k (.run o:: .sI (vZ u (bU ops h) (kz ops))::rest) fs env H)) {K:Act→World→Prop}
  (hK: ∀iJ env' j' H' a' w' fs',CI P ρ w0 ops N iw H0 j0 (fun x=>D x∨x=h) (fun x=>listed x∨x=h) iJ env' j' H' w' nm→ER ρ j' N iJ a'→Told ρ fs'→Ob.den ρ (gU P rec ops N k rest fs' env' H')→K a' w'):
  wpOp P ops Q h K a w:=by
 have hag: ∀t∈looks ops o,bO.get t=env.get t:=fun t ht=>by
  by_cases hw: ∃q oq,listed q∧ops[q]? =some oq∧oq.dst=some t
  ·obtain ⟨q,oq,h1,h2,h3⟩:=hw;exact ci.s1 t q oq h1 h2 h3
  ·rw [ci.s0 t fun q oq h1 h2 h3=>hw ⟨q,oq,h1,h2,h3⟩,ci.e0 t fun q oq h1 h2 h3=> ?_];rcases pf.reads h q o oq t ho h2 h3 ht with h4|h4
   ·exact hw ⟨q,oq,hm q h4,h2,h3⟩
   ·exact hD (hcl q h h1 h4)
 obtain ⟨g,z,fs',hgv,hz,hf',hd⟩:=WU hf hden;have hwant:=zoX he (by rw [M7 hag];exact hgv);have main: ∀(v:AV) (x:Value) (H':Heap) (j':J) (w':World),R ρ j' v x→Inv ρ w0 j' H' w'→St j H j' H'→
   Ob.den ρ (nI o.dst N env v fun env'=>gU P rec ops N k (.sI (vZ u (bU ops h) (kz ops))::rest) fs' env' H')→K (a.put o.dst x) w':=by
  intro v x H' j' w' hR hinv hst hput;obtain ⟨env',h5,h6,h7⟩:=Ic hput;obtain ⟨aaB,h8⟩:=zqi h5;obtain ⟨iJ,e1,e2,e3⟩:=(he.mono hst.sub).FE hR (fun d hh=>(h6 d hh).1);have hne: ∀i,D i→i≠h:=fun i hi e=>hD (e▸hi);have hkeep: ∀i oi t,D i→ops[i]? =some oi→oi.dst=some t→env'.get t=env.get t:=fun i oi t hi hoi hdd=>h7 t (pf.Bn i h oi o t (hne i hi) hoi ho hdd);have he0: ∀t,(∀i oi,(D i∨i=h)→ops[i]? =some oi→oi.dst≠some t)→env'.get t=iw.get t:=fun t ht=>by
   rw [h7 t (ht h o (.inr rfl) ho)];exact ci.e0 t fun i oi hi hoi=>ht i oi (.inl hi) hoi
  refine hK iJ env' j' H' _ w' fs' ⟨hinv,ci.st.trans hst,fun i hi=>hi.imp (ci.sub i) id,he0,fun t ht=> ?_,fun t i oi hi hoi hdd=> ?_,fun i oi hi hl hoi=> ?_,fun i nx hi=>yae (ci.bnd i nx hi) hst.nx,ci.inj⟩ e1 hf' h8
  ·rw [e3 t (ht h o (.inr rfl) ho)];exact ci.s0 t fun i oi hi hoi=>ht i oi (.inl hi) hoi
  ·by_cases hih:i=h
   ·subst hih;rw [ho] at hoi;cases hoi;rw [e2 t hdd,(h6 t hdd).2]
   ·have BO:=hi.resolve_right hih;rw [e3 t (pf.Bn i h oi o t hih hoi ho hdd),hkeep i oi t (ci.sub i BO) hoi hdd];exact ci.s1 t i oi BO hoi hdd
  ·have hih:i≠h:=fun e=>hl (.inr e);have uY:D i:=hi.resolve_right hih;have BO: ¬listed i:=fun e=>hl (.inl e);obtain ⟨kF,g',q1,q2,q3⟩:=ci.FH i oi uY BO hoi;have hdst: ∀v,yR N env oi v→yR N env' oi v:=fun v hv d hd=>⟨(hv d hd).1,by rw [hkeep i oi d uY hoi hd];exact (hv d hd).2⟩;have q2':P9 ops iw env' kF i oi:=fun t ht=>⟨fun q oq hq hoq hdd=>by rw [(q2 t ht).1 q oq hq hoq hdd,hkeep q oq t (hcl i q uY hq) hoq hdd],(q2 t ht).2⟩;refine ⟨kF,g',q1,q2',?_⟩;rcases q3 with ⟨rfl,g2,v',g3,g4⟩|⟨g1,g2,v',ob,nx,g3,g4,g5,g6,g7,g8⟩|⟨g1,g2⟩
   ·have Rn:=zxP g2;have hbit:(bU ops h).testBit i=false:=by
     cases hb:(bU ops h).testBit i with
     | false=>rfl
     | true=>exact absurd (hm i hb) BO
    have hst':=hDs i oi uY hoi;have hag': ∀t∈looks ops oi,env'.get t=kF.get t:=fun t ht=>by
     by_cases hw: ∃(q:Nat) (oq:Oper),ops[q]? =some oq∧oq.dst=some t
     ·obtain ⟨q,oq,w1,w2⟩:=hw;rcases pf.rer u h i q oi oq t hu hoi Rn hst' hbit w1 w2 ht with hq|hq
      ·exact ((q2' t ht).1 q oq hq w1 w2).symm
      ·have uniq: ∀q' tH,ops[q']? =some tH→tH.dst=some t→q'=q:=fun q' tH x1 x2=>ybr fun hn=>pf.Bn q' q tH oq t hn x1 w1 x2 w2;rw [(q2' t ht).2 fun q' tH x0 x1 x2=> ?_]
       ·refine he0 t fun q' tH x0 x1 x2=> ?_;have:=uniq q' tH x1 x2;subst this;rcases x0 with x0|rfl
        ·have:=hDs q' tH x0 x1;omega
        ·have:=Wx pf.wU hu;omega
       ·have:=uniq q' tH x1 x2;subst this;have:=OW pf.wU x0;omega
     ·rw [(q2' t ht).2 fun q oq _ w1 w2=>hw ⟨q,oq,w1,w2⟩];exact he0 t fun q oq _ w1 w2=>hw ⟨q,oq,w1,w2⟩
    have hmem:oi∈vZ u (bU ops h) (kz ops):=WT.2 ⟨_,Gb.2 ⟨wo hoi,Rn,hst',hbit⟩,rfl⟩;rw [←M7 hag'] at q1;rcases zyC aaB oi hmem with hno|⟨acp,v1,c1,c2⟩
    ·have:=((zoY (ops:=ops) (env:=env') hf' (o:=oi)).2.1 hno).1;exact absurd (zFJ this q1) (by simp)
    ·exact .inl ⟨rfl,g2,v1,by rw [←Ya (NJ hag')];exact c1,fun d hh=>⟨(g4 d hh).1,c2 d hh⟩⟩
   ·have hlt:=ci.inv.used nx ob g5;have aaW:0<nx:=by
     rcases ybm nx with h0|h0
     ·subst h0;obtain ⟨kk,rfl⟩:=ci.inv.z0 _ g5;exact absurd g4 (zpt _ _ _ _ _)
     ·exact h0
    refine .inr (.inl ⟨g1,g2,v',ob,nx,g3,g4,by rw [(hst.keep nx aaW g6 hlt).1];exact g5,?_,g7,hdst v' g8⟩);cases hj':j' nx with
    | none=>rfl
    | some L=>have:=hst.fresh nx L hj' g6;omega
   ·exact (.inr (.inr ⟨g1,g2.elim fun z hz=>⟨z,hz.1,hdst _ hz.2⟩⟩))
 unfold wpOp;simp only [ho];rw [hwant];cases g with
 | true=>
  rw [yaj rfl];have hd:Ob.den ρ (uW P rec o env H fun env v H=>nI o.dst N env v fun env'=>gU P rec ops N k (.sI (vZ u (bU ops h) (kz ops))::rest) fs' env' H):=hd;unfold uW at hd;rw [zys hv (pf.abh h o ho)] at hd;have hd:Ob.den ρ (Dw.heavy P rec o.op env H fun v H=>nI o.dst N env v fun env'=>gU P rec ops N k (.sI (vZ u (bU ops h) (kz ops))::rest) fs' env' H):=hd;rw [←zq1 (NJ hag)] at hd;refine .inl (Oper.wp_mono (fun a' w' hp=> ?_) (zs5 (Q:=Q) hgood ci.inv he hd));obtain ⟨x,rfl,v,H',j',h1,h2,h3,h4⟩:=hp;exact main v x H' j' w' h1 h2 h3 h4
 | false=>
  rw [yai (by simp)];exact main z undef H j w (hz rfl j) ci.inv (St.refl j H) hd
def Ed (ops:Array Oper) (s:Nat):List PO→List qR
 | [] => []
 | h::rest=> .run h.o:: .sI (vZ s h.m (kz ops))::vS (kz ops) (Nat.succ s) rest
theorem WV (ops:Array Oper) (s:Nat) (l:List PO):vS (kz ops) s l=yD s (kz ops)++Ed ops s l:=by
 cases l with
 | nil=>simp [vS,Ed]
 | cons h l=>simp [vS,Ed]
theorem zz5 (hgood:Good P ρ w0 n rec) (pf:PF ops) {k:T AV→Heap→Ob} (hQ: ∀a' w',yT ρ w0 j0 H0 N k a' w'→Q Exit.normal a' w'):
  ∀ (fuel:Nat) (listed:Array Bool) (s:Nat) (fs:List (SB×Bool)) (bO env:T AV) (j:J) (H:Heap) (a:Act) (w:World) (nm:Nat→Option Nat),listed.size=ops.size→Er ops listed→listed.count false≤fuel→
   (∀ u h,(eZ ops)[u]? =some h→(listed.getD h false=true↔u<s))→CI P ρ w0 ops N iw H0 j0 (DD ops s ops.size) (fun i=>listed.getD i false=true) bO env j H w nm→ER ρ j N bO a→
   Ob.den ρ (gU P rec ops N k (Ed ops s ((iU ops).drop s)) fs env H)→Told ρ fs→wpAny P .any ops Q fuel listed a w:=by
 have fin: ∀(listed:Array Bool) (s:Nat) (fs:List (SB×Bool)) (bO env:T AV) (j:J) (H:Heap) (a:Act) (w:World) (nm:Nat→Option Nat),listed.size=ops.size→Er ops listed→
   (∀ u h,(eZ ops)[u]? =some h→(listed.getD h false=true↔u<s))→CI P ρ w0 ops N iw H0 j0 (DD ops s ops.size) (fun i=>listed.getD i false=true) bO env j H w nm→ER ρ j N bO a→
   Ob.den ρ (gU P rec ops N k (Ed ops s ((iU ops).drop s)) fs env H)→Region.ready .any ops listed= []→Q .normal a w:=by
  intro listed s fs bO env j H a w nm hsz hcl hh ci he hden hr;have hall:=zvl pf.wU hsz hr;have hdrop:(iU ops).drop s= []:=by
   rw [ydd,Nt];apply ybr;intro hn;have hx:(eZ ops)[s]? =some (eZ ops)[s]:=yao (by omega);obtain ⟨o,ho,_⟩:=Dq.1 ⟨s,hx⟩;have:=(hh s _ hx).1 (hall _ (yap.1 ho).1);omega
  rw [hdrop] at hden;refine hQ a w ⟨env,H,j,⟨he.size,he.le,fun t ht=> ?_,?_⟩,ci.inv,ci.st,hden⟩
  all_goals
   have heq: ∀t,bO.get t=env.get t:=fun t=>by
    by_cases hw: ∃(q:Nat) (oq:Oper),ops[q]? =some oq∧oq.dst=some t
    ·obtain ⟨q,oq,h1,h2⟩:=hw;exact ci.s1 t q oq (hall q (yap.1 h1).1) h1 h2
    ·rw [ci.s0 t fun q oq _ h1 h2=>hw ⟨q,oq,h1,h2⟩,ci.e0 t fun q oq _ h1 h2=>hw ⟨q,oq,h1,h2⟩]
  ·have:=he.get t ht;unfold dI at this ⊢;rw [heq t] at this;exact this
  ·have:=he.eT;unfold dI at this ⊢;rw [heq bM] at this;exact this
 intro fuel
 induction fuel with
 | zero=>
  intro listed s fs bO env j H a w nm hsz hcl hc hh ci he hden hf;have hr:Region.ready .any ops listed= []:=by
   rw [List.eq_nil_iff_forall_not_mem];intro i hi;have:=count_set (mem_ready.1 hi).1;omega
  exact ⟨hr,fin listed s fs bO env j H a w nm hsz hcl hh ci he hden hr⟩
 | succ fuel ih=>
  intro listed s fs bO env j H a w nm hsz hcl hc hh ci he hden hf;refine ⟨fin listed s fs bO env j H a w nm hsz hcl hh ci he hden,fun i hi=> ?_⟩;obtain ⟨hun,o,ho,aaF⟩:=mem_ready.1 hi;have hlt:=(yap.1 ho).1;have hun': ¬listed.getD i false=true:=by
   rw [yay,yaL (by omega)] at hun ⊢;simp only [yb0] at hun ⊢;rw [hun];simp
  have Fh: ∀x,(bU ops i).testBit x=true→listed.getD x false=true:=fun x hx=>X6 hcl i o ho aaF x hx;have hlc: ∀q x,listed.getD q false=true→(bU ops q).testBit x=true→listed.getD x false=true:=fun q x hq hx=>by
   cases hoq:ops[q]? with
   | none=>rw [Hu hoq] at hx;cases hx
   | some oq=>exact X6 hcl q oq hoq (fun e h1 h2=>hcl q oq hoq hq e h1 h2) x hx
  have hnew:(fun x=>listed.getD x false=true∨x=i)=fun x=>(listed.setIfInBounds i true).getD x false=true:=funext fun x=>propext (by
   by_cases hx:x=i
   ·subst hx;constructor
    ·intro _;rw [yay,ycw,yaj (by omega)];rfl
    ·intro _;exact .inr rfl
   ·rw [ydT false (ydl hx)];exact ⟨fun h=>h.resolve_right hx,.inl⟩)
  have hsz':(listed.setIfInBounds i true).size=ops.size:=by simp [hsz]
  have hcl':=zva hcl hi;have hc':(listed.setIfInBounds i true).count false≤fuel:=by have:=count_set hun;omega
  cases hv:jg o with
  | false=>
   have hD:DD ops s ops.size i:=by
    refine ⟨o,ho,.inl ⟨hv,?_⟩⟩;rcases IB (ops:=ops) i with h0|⟨u,x,h1,h2,h3⟩
    ·omega
    ·have:=(hh u x h1).1 (Fh x h2);omega
   refine ci.late pf he ho hD hun' Fh hlc fun iJ j' a' w' Bj he'=> ?_;rw [hnew] at Bj;refine ih _ s fs iJ env j' H a' w' nm hsz' hcl' hc' (fun u h hu=> ?_) Bj he' hden hf;have hne:i≠h:=fun e=>by
    subst e;obtain ⟨o',h1,h2⟩:=Dq.1 ⟨u,hu⟩;rw [ho] at h1;cases h1;rw [hv] at h2;cases h2
   rw [ydT false hne];exact hh u h hu
  | true=>
   obtain ⟨u,hu⟩:=Dq.2 ⟨o,ho,hv⟩;have dG:u=s:=by
    have h1: ¬u<s:=fun h=>hun' ((hh u i hu).2 h);apply ybr;intro hne;obtain ⟨v,rfl⟩: ∃v,u=v+1:=⟨u-1,by omega⟩;have tq:v<(eZ ops).length:=by have:=(yax.1 hu).1;omega
    have hx:(eZ ops)[v]? =some (eZ ops)[v]:=yao tq;have:=(hh v _ hx).1 (Fh _ (pf.chain v _ i hx hu));omega
   subst dG;have RS:u<(iU ops).length:=by rw [Nt];exact (yax.1 hu).1
   have hp:(iU ops)[u]? =some (iU ops)[u]:=yao RS;obtain ⟨p1,p2,p3,p4⟩:=zx6 hp;have hpi:(iU ops)[u].i=i:=by rw [hu] at p1;exact (yaC p1).symm
   have hpo:(iU ops)[u].o=o:=by rw [hpi,ho] at p2;exact (yaC p2).symm
   have hpm:(iU ops)[u].m=bU ops i:=by rw [p3,hpi]
   have hdrop:(iU ops).drop u=(iU ops)[u]::(iU ops).drop (u+1):=ycl RS;rw [hdrop] at hden;have hden:Ob.den ρ (gU P rec ops N k (.run (iU ops)[u].o:: .sI (vZ u (iU ops)[u].m (kz ops))::vS (kz ops) (u+1) ((iU ops).drop (u+1))) fs env H):=hden;rw [hpo,hpm] at hden;have hD: ¬DD ops u ops.size i:=by
    rintro ⟨o',h1,h2⟩;rw [ho] at h1;cases h1;rcases h2 with ⟨h2,_⟩|⟨_,v,h3,h4⟩
    ·rw [hv] at h2;cases h2
    ·have:=zs3 hu h4;omega
   refine ci.heavy hgood pf he ho hv hD (fun x y hx hy=>zyT pf.wU hx hy) Fh hu (fun x ox hx hox=> ?_) hf hden fun iJ env' j' H' a' w' fs' Bj he' hf' QT=> ?_
   ·obtain ⟨o',h1,h2⟩:=hx;rcases h2 with ⟨_,h2⟩|⟨_,v,h2,h3⟩
    ·omega
    ·have:=Wx pf.wU h3;omega
   ·rw [hnew] at Bj;rw [WV] at QT;obtain ⟨Bo,H2,Lv,J5,JR,hf2,KG⟩:=HV pf ops.toList (kN ops.toList) 0 fs' env' H' nm hf' (by simp) (by simp) (Bj.congr (zA6 hu ho hv)) QT;refine ih _ (u+1) J5 iJ Bo j' H2 a' w' Lv hsz' hcl' hc' (fun v x hx=> ?_) JR he' KG hf2;by_cases hxi:x=i
    ·subst hxi;have:=zs3 hu hx;subst this;constructor
     ·intro _;omega
     ·intro _;rw [yay,ycw,yaj (by omega)];rfl
    ·rw [ydT false (ydl hxi),hh v x hx];have:v≠u:=fun e=>by subst e;rw [hu] at hx;exact hxi (yaC hx).symm
     omega
theorem AL (hmo:P.follows .mixedOrders=true) (hgood:Good P ρ w0 n rec):Jk P ρ w0 rec:=by
 intro id ops N env H k j a w h hi he;unfold OY at h;simp only at h;split at h
 case h_2=>exact h.elim
 rename_i l hl;obtain ⟨pf,rfl⟩:=znY hl;rw [WV] at h;refine wp_region_any hmo ?_;have hfalse: ∀i,((Array.replicate ops.size false).getD i false=true)↔False:=fun i=>by
  rw [yay,ydV];split<;>simp
 have ci0:CI P ρ w0 ops N env H j (DD ops 0 0) (fun i=>(Array.replicate ops.size false).getD i false=true) env env j H w.drew (fun _=>none):=by
  refine ⟨hi.drew,St.refl j H,fun i h=>((hfalse i).1 h).elim,fun _ _=>rfl,fun _ _=>rfl,fun t i o h=>((hfalse i).1 h).elim,fun i o hD=> ?_,fun i nx h=>(by cases h),fun i i' nx h=>(by cases h)⟩;obtain ⟨o',_,h2⟩:=hD;rcases h2 with ⟨_,h2⟩|⟨_,u,h2,_⟩<;>omega
 obtain ⟨Bo,H2,Lv,J5,JR,hf2,KG⟩:=HV pf ops.toList (kN ops.toList) 0 [] env H (fun _=>none) (fun _ h=>by cases h) (by simp) (by simp) ci0 h;refine zz5 (k:=k .normal) (j0:=j) (H0:=H) hgood pf (fun a' w' hh=> ?_) ops.size _ 0 J5 env Bo j H2 a w.drew Lv (by simp) ?_ ?_ (fun u h hu=> ?_) JR he (by simpa using KG) hf2
 ·obtain ⟨env',H',j',h1,h2,h3,h4⟩:=hh;exact ⟨.normal,env',H',j',rfl,h1,h2,h3,h4⟩
 ·intro i o ho hl;exact ((hfalse i).1 hl).elim
 ·exact yaw (Array.count_le_size) (by simp)
 ·constructor
  ·intro h;exact ((hfalse _).1 h).elim
  ·intro h;omega
end
end Go.Dw
namespace Go.Dw
mutual
theorem Ob.yX {ρ:Val}: ∀ {o:Ob},o.good=true→o.den ρ
 | .ok,_=>trivial
 | .bad _ _,h=>by cases h
 | .all l,h=>Ob.Ql (l:=l) h
 | .ite c t e,h=>by
  unfold Ob.good at h;split at h
  ·rename_i ht;exact ⟨fun _=>Ob.yX ht,fun _=>Ob.yX h⟩
  ·cases h
theorem Ob.Ql {ρ:Val}: ∀ {l:List Ob},Ob.EP l=true→Ob.EK ρ l
 | [], _=>trivial
 | o::l,h=>by
  unfold Ob.EP at h;split at h
  ·rename_i ho;exact ⟨Ob.yX ho,Ob.Ql h⟩
  ·cases h
end
theorem inv0 {ρ:Val} (w:World):Inv ρ (Cx.plain w) (fun _=>none) nX w:=
 ⟨Fr.refl (Cx.plain w),(fun _ _ h=>by cases h),(fun _ _ h=>by cases h),(fun n o h=>by rw [show nX.m.get n=none from rfl] at h;cases h),(fun _ _ h=>by cases h),(fun _ _ _ _ _ h=>by cases h),
  (fun n v e g t sh ow h=>by rw [show nX.m.get n=none from rfl] at h;cases h),(fun g x h=>by rw [show nX.gw.get g=none from rfl] at h;cases h),(fun _ _ _ _ _ _ _ h=>by cases h),(fun _ _ h=>by cases h),(fun _ _ _ _ _ _ h=>by cases h),rfl,Nat.zero_lt_one,(fun o h=>by rw [show nX.m.get 0=none from rfl] at h;cases h),trivial⟩
theorem zAm {P:Program} {ρ:Val} {w0:Cx}:nk P ρ w0 Ba:=fun f args H l h=>by cases h
theorem zoS {ρ:Val} {j:J} {v:AV} {u:Value} {H:Heap} (hR:R ρ j v u) (h:Ob.den ρ (isTrue v H)):u= .bool true:=by
 unfold isTrue at h;split at h
 ·exact hR
 ·exact h.elim
 ·rename_i b _ _;have hR:u= .bool (b.den ρ):=hR;cases hb:b.den ρ with
  | true=>rw [hR,hb]
  | false=>exact (h.2 hb).elim
 ·exact h.elim
theorem zve {P:Program} (hmo:P.follows .mixedOrders=true) {gD:FuncId→List AV→Heap→Option (List (AV×Heap))} {ρ:Val} {w:World} (hor:nk P ρ (Cx.plain w) gD) {n:Nat} {f:FuncId} {args:List AV} {vals:List Value} {H:Heap} {j:J}
  (hi:Inv ρ (Cx.plain w) j H w) (ha:RL ρ j args vals) (h:Ob.den ρ (ev P gD n (.call f args H isTrue))):Calls P f vals.toArray w fun e w'=>e= .returned (.bool true)∧RowKit.Below w.heap.size w w':=by
 have hg:=IL (w0:=Cx.plain w) hor (fun n rec hg=>AL hmo hg) n;refine yaq ((hg.call f args H isTrue h).2 j w vals hi ha) fun e w' he=> ?_;obtain ⟨u,rfl,v,H',j',h1,h2,h3,h4⟩:=he;rw [zoS h1 h4];exact ⟨rfl,h2.fr.below⟩
open Go.RowKit Go.WideShapes Go.ChangeShapes in
theorem abq {H:Type} {enc:TypeId×Value→H} {P:Program} {f:Func} {s:ChangeSpec} {apart fresh handsOn again:Bool} {W W':World} {args:Array Value} {v:Value} {ds gs:List (DataW H)} {before pa pv:List MemPlace}
  (hW:DataW.Whole enc P f.params.toList s.vars apart W args.toList ds gs before)
  (hres: ∀(b:Nat) (sp:Nat→Bool) (hd:Bool),DataW.TrodAll enc P W' b sp hd f.resultTypes.toList (v.resultList f.resultTypes.size) (s.fn H (ds++gs)).results [])
  (hargs: ∀sp:Nat→Bool,(∀p∈before,sp p.block=true)→DataW.TrodAll enc P W' 0 sp true f.params.toList args.toList (s.fn H (ds++gs)).args pa)
  (hvars: ∀sp:Nat→Bool,(∀p∈before,sp p.block=true)→DataW.TrodVars enc P W' sp s.vars (s.fn H (ds++gs)).vars pv)
  (hps:before=pa++pv) (hb:Below W.heap.size W W')
  (hok: ∀(j:Nat) (t:TypeId) (r:Value),f.resultTypes[j]? =some t→(v.resultList f.resultTypes.size)[j]? =some r→Value.okWide P W' .any 0 t r):
  s.post enc P f apart fresh handsOn again W args v W':=by
 have hlt: ∀p∈before,p.block<W.heap.size:=fun p hp=>hW.lt p hp;have hold: ∀p∈before,(fun b=>decide (b<W.heap.size)) p.block=true:=fun p hp=>by simpa using hlt p hp
 refine ⟨ds,gs,before,[],pa,pv,hW,hres _ _ _,hargs _ hold,hvars _ hold,World.keptBut_mono (fun p hp=>⟨hp,?_⟩) (hb.frame (· ∈before)),fun _=> ?_⟩
 ·rw [hps,yaR] at hp;exact Or.inr hp
 ·obtain ⟨_,_,_,_,_,hz,hn⟩:=hW;refine ⟨hok,_,_,([]++pa)++pv,⟨[]++pa,pv,trodAll_append (hargs _ (fun _ _=>rfl)) (hres _ _ _),hvars _ (fun _ _=>rfl),rfl,?_,?_⟩,?_⟩
  ·intro b off hp;have hin:MemPlace.cell b off∈before:=by rw [hps];simpa using hp
   rw [hb.frozen (hlt _ hin)];exact hz b off hin
  ·intro ha;have:=hn ha;rw [hps] at this;simpa using this
  ·intro p hp _;rw [hps];simpa using hp
open Go.RowKit
def Val.mark (ρ:Val) (m:Nat→Bool):Val:=⟨ρ.i,fun n=>if n<1000000 then ρ.b n else m n,ρ.v⟩
def SB.small:SB→Bool
 | .lit _=>true
 | .var n=>Nat.blt n 1000000
 | .cmp _ _ _=>true
 | .not a=>a.small
 | .beq a b=>match a.small with|true=>b.small|false=>false
 | .and a b=>match a.small with|true=>b.small|false=>false
theorem zo1 (ρ:Val) (m:Nat→Bool): ∀(l:List aO) (c:Nat),aN (ρ.mark m) l c=aN ρ l c
 | [], c=>rfl
 | f::l,c=>by
  unfold aN;rw [zo1 ρ m l c];rfl
theorem SE.jP (ρ:Val) (m:Nat→Bool): ∀a:SE,a.den (ρ.mark m)=a.den ρ
 | .lit n=>rfl
 | .var i=>rfl
 | .bin o k a b=>by unfold SE.den;rw [SE.jP ρ m a,SE.jP ρ m b]
 | .wrap k a=>by unfold SE.den;rw [SE.jP ρ m a]
 | .aQ l c=>by unfold SE.den;rw [zo1]
theorem SB.jP (ρ:Val) (m:Nat→Bool): ∀b:SB,b.small=true→b.den (ρ.mark m)=b.den ρ
 | .lit b,_=>rfl
 | .var n,h=>by
  have h:Nat.blt n 1000000=true:=h;rw [yaF] at h;show (if n<1000000 then ρ.b n else m n)=ρ.b n;rw [yaj h]
 | .cmp o a b,_=>by unfold SB.den;rw [SE.jP,SE.jP]
 | .not a,h=>by unfold SB.den;rw [SB.jP ρ m a h]
 | .beq a b,h=>by
  unfold SB.small at h;split at h
  ·rename_i ha;unfold SB.den;rw [SB.jP ρ m a ha,SB.jP ρ m b h]
  ·cases h
 | .and a b,h=>by
  unfold SB.small at h;split at h
  ·rename_i ha;unfold SB.den;rw [SB.jP ρ m a ha,SB.jP ρ m b h]
  ·cases h
structure Leaf where
 v:AV
 rows:List (Nat×List AV)
 maps:List (Nat×List (AV×Option AV))
 gs:Nat
 own:List Nat
def wI (H:Heap) (n:Nat) (l:List AV):Bool:=
 match H.m.get n with
 | some (.cells v _ g c _ _)=>(match alive H.gw g c,Nat.beq v.n l.length with
  | true,true=>AV.o6 (v.list 0 v.n) l
  | _,_=>false)
 | _=>false
def PK:Option AV→Option AV→Bool
 | none,none=>true
 | some a,some b=>AV.beq a b
 | _,_=>false
def Jd:List (AV×Option AV)→List (AV×Option AV)→Bool
 | [], [] => true
 | a::l,b::m=>(match AV.beq a.1 b.1,PK a.2 b.2 with
  | true,true=>Jd l m
  | _,_=>false)
 | _,_=>false
def Bb (H:Heap) (n:Nat) (l:List (AV×Option AV)):Bool:=
 match H.m.get n with
 | some (.dB _ log)=>Jd log l
 | _=>false
def wK (H:Heap) (n:Nat):Nat:=
 match H.m.get n with
 | some (.cells _ _ g _ _ _)=>g
 | _=>0
def F9 (H:Heap) (g:Nat):List (Nat×List AV)→Bool
 | [] => false
 | p::l=>match Nat.beq (wK H p.1) g with|true=>true|false=>F9 H g l
def oH (H:Heap):List (Nat×List AV)→Bool
 | [] => true
 | p::l=>match wI H p.1 p.2,F9 H (wK H p.1) l with|true,false=>oH H l|_,_=>false
theorem OI {H:Heap} {g:Nat}: ∀ {l:List (Nat×List AV)},F9 H g l=false→ ∀ {r:Nat×List AV},r∈l→wK H r.1≠g
 | [], _,_,h=>by cases h
 | x::l,ha,r,h=>by
  unfold F9 at ha;split at ha
  ·cases ha
  rename_i h1;rcases yad.1 h with rfl|h
  ·intro e;rw [e] at h1;simp [yb9] at h1
  ·exact OI ha h
theorem VO {H:Heap}: ∀ {l:List (Nat×List AV)},oH H l=true→ ∀ {r r':Nat×List AV},r∈l→r'∈l→r.1≠r'.1→wK H r.1≠wK H r'.1
 | [], _,_,_,h,_,_=>by cases h
 | x::l,ha,r,r',h,h',hne=>by
  unfold oH at ha;split at ha
  case h_2=>cases ha
  rename_i h1 h2;rcases yad.1 h with h3|h3
  ·rcases yad.1 h' with h4|h4
   ·exact absurd (by rw [h3,h4]) hne
   ·rw [h3];exact fun e=>OI h2 h4 e.symm
  ·rcases yad.1 h' with h4|h4
   ·rw [h4];exact OI h2 h3
   ·exact VO ha h3 h4 hne
def yu (H:Heap):List (Nat×List (AV×Option AV))→Bool
 | [] => true
 | p::l=>match Bb H p.1 p.2 with|true=>yu H l|false=>false
def Vs (H:Heap) (n:Nat):Bool:=
 match H.m.get n with
 | some (.cells _ _ g _ _ true)=>Nat.beq g n
 | _=>false
def DK (H:Heap):List Nat→Bool
 | [] => true
 | n::l=>match Vs H n with|true=>DK H l|false=>false
theorem WR {H:Heap}: ∀ {l:List Nat},DK H l=true→ ∀ {n:Nat},n∈l→ ∃v e c sh,H.m.get n=some (.cells v e n c sh true)
 | [], _,_,h=>by cases h
 | x::l,ha,n,h=>by
  unfold DK at ha;split at ha
  case h_2=>cases ha
  rename_i h1;rcases yad.1 h with rfl|h
  ·unfold Vs at h1;split at h1
   ·rename_i hm;have h1:=bC h1;subst h1;exact ⟨_,_,_,_,hm⟩
   ·cases h1
  ·exact WR ha h
def Leaf.fits (l:Leaf) (v:AV) (H:Heap):Bool:=
 match AV.beq v l.v,oH H l.rows,yu H l.maps,Nat.beq H.gs l.gs with
 | true,true,true,true=>DK H l.own
 | _,_,_,_=>false
def cK:List Leaf→Nat→AV→Heap→Ob
  | [], _, _, _ => .bad 95 ""
  | l::r,i,v,H=>match l.fits v H with
    | true => qb (Nat.add 1000000 i) fun n => .ite (.var n) .ok (.bad 96 "")
    | false=>cK r (Nat.succ i) v H
def PY:SB→Option Nat
 | .var n=>(match Nat.ble 1000000 n with|true=>some (Nat.sub n 1000000)|false=>none)
 | _=>none
def MC:BinOp→Option BinOp
 | .eql=>some .neq| .neq=>some .eql| .lss=>some .geq| .geq=>some .lss| .leq=>some .gtr| .gtr=>some .leq
 | _=>none
def Pv:BinOp→BinOp
 | .lss=> .gtr| .gtr=> .lss| .leq=> .geq| .geq=> .leq
 | o=>o
def PZ:BinOp→Bool
 | .eql| .neq| .lss| .leq| .gtr| .geq=>true
 | _=>false
def Jw (pre:List (SB×Bool)) (o:BinOp) (a b:SE):Option Bool:=
 match uF (.cmp o a b) pre with
 | some c=>some c
 | none=>match MC o with
  | some o'=>(match uF (.cmp o' a b) pre with|some true=>some false|some false=>some true|none=>none)
  | none=>none
def qc (pre:List (SB×Bool)):SB→Option Bool
 | .lit b=>some b
 | .not a=>(match uF (.not a) pre with
  | some b=>some b
  | none=>match qc pre a with|some true=>some false|some false=>some true|none=>none)
 | .and a b=>(match uF (.and a b) pre with
  | some c=>some c
  | none=>match qc pre a with
   | some false=>some false
   | some true=>qc pre b
   | none=>match qc pre b with|some false=>some false|_=>none)
 | .cmp o a b=>(match Jw pre o a b with
  | some c=>some c
  | none=>match PZ o with
   | true=>Jw pre (Pv o) b a
   | false=>none)
 | c=>uF c pre
def r9 (pre:List (SB×Bool)):SB→SB
 | .lit b=> .lit b
 | .not a=>(match qc pre (.not a) with
  | some b=> .lit b
  | none=>mkNot (r9 pre a))
 | .and a b=>(match qc pre (.and a b) with
  | some c=> .lit c
  | none=>mkAnd (r9 pre a) (r9 pre b))
 | c=>(match qc pre c with
  | some b=> .lit b
  | none=>c)
def tell (pre:List (SB×Bool)):SB→Bool→List (SB×Bool)
 | .not a,b=>tell pre a (match b with|true=>false|false=>true)
 | .and a b,true=>tell (tell pre a true) b true
 | c,b=>pre++ [(c,b)]
mutual
def Ob.paths (pre:List (SB×Bool)):Ob→Option (List (List (SB×Bool)×Nat))
 | .ok=>none
 | .bad _ _=>none
 | .all l=>Ob.FB pre l
 | .ite c t e=>match PY c with
  | some i=>(match t,e with
   | .ok,.bad _ _=>some [(pre,i)]
   | _,_=>none)
  | none=>match c.small with
   | false=>none
   | true=>match r9 pre c with
    | .lit true=>Ob.paths pre t
    | .lit false=>Ob.paths pre e
    | c=>match qc pre c with
     | some true=>Ob.paths pre t
     | some false=>Ob.paths pre e
     | none=>match Ob.paths (tell pre c true) t,Ob.paths (tell pre c false) e with
      | some a,some b=>some (a++b)
      | _,_=>none
def Ob.FB (pre:List (SB×Bool)):List Ob→Option (List (List (SB×Bool)×Nat))
 | [] => some []
 | o::l=>match Ob.paths pre o,Ob.FB pre l with
  | some a,some b=>some (a++b)
  | _,_=>none
end
theorem zuT {n:Nat} (h:Nat.ble 1000000 n=true):1000000+Nat.sub n 1000000=n∧ ¬n<1000000:=by
 have h:=yal h;have e:Nat.sub n 1000000=n-1000000:=rfl;rw [e];omega
theorem zxX {c:SB} {i:Nat} (h:PY c=some i): ∃n,c= .var n∧1000000+i=n∧ ¬n<1000000:=by
 unfold PY at h;split at h
 case h_2=>cases h
 rename_i n;split at h
 case h_2=>cases h
 rename_i hn;have h:=yaC h;obtain ⟨h1,h2⟩:=zuT hn;exact ⟨n,rfl,by rw [←h];exact h1,h2⟩
theorem zoA {ρ:Val} {o o':BinOp} {a b:SE} (h:MC o=some o'):SB.den ρ (.cmp o a b)= !(SB.den ρ (.cmp o' a b)):=by
 cases o<;>simp only [MC] at h<;>cases h<;>simp only [SB.den,mG]
 ·cases hh:(a.den ρ==b.den ρ)<;>simp_all [bne]
 ·cases hh:(a.den ρ==b.den ρ)<;>simp_all [bne]
 all_goals
  rw [←decide_not];congr 1;exact propext (by omega)
theorem ztP {ρ:Val} {o:BinOp} {a b:SE} (h:PZ o=true):SB.den ρ (.cmp (Pv o) b a)=SB.den ρ (.cmp o a b):=by
 have he:(b.den ρ==a.den ρ)=(a.den ρ==b.den ρ):=by
  rw [ycL,ya7,ya7];exact ⟨Eq.symm,Eq.symm⟩
 cases o<;>simp only [PZ] at h<;>first|cases h|skip
 all_goals simp only [Pv,SB.den,mG]
 ·exact he
 ·unfold bne;rw [he]
theorem ZY {ρ:Val} {pre:List (SB×Bool)} (ht:Told ρ pre) {o:BinOp} {x y:SE} {b':Bool} (h:Jw pre o x y=some b'):SB.den ρ (.cmp o x y)=b':=by
 unfold Jw at h;split at h
 ·rename_i hb;cases h;exact rP ht hb
 ·split at h
  ·rename_i o' ho;split at h
   ·rename_i hb;cases h;rw [zoA ho,rP ht hb];rfl
   ·rename_i hb;cases h;rw [zoA ho,rP ht hb];rfl
   ·cases h
  ·cases h
theorem oF {ρ:Val} {pre:List (SB×Bool)} (ht:Told ρ pre): ∀ {c:SB} {b:Bool},qc pre c=some b→c.den ρ=b
 | .lit b,b',h=>by cases h;rfl
 | .var n,b',h=>rP ht h
 | .beq x y,b',h=>rP ht h
 | .not a,b',h=>by
  unfold qc at h;split at h
  ·rename_i hb;cases h;exact rP ht hb
  ·split at h
   ·rename_i ha;cases h;show (!(a.den ρ))=false;rw [oF ht ha];rfl
   ·rename_i ha;cases h;show (!(a.den ρ))=true;rw [oF ht ha];rfl
   ·cases h
 | .and x y,b',h=>by
  unfold qc at h;split at h
  ·rename_i hb;cases h;exact rP ht hb
  ·split at h
   ·rename_i ha;cases h;show (x.den ρ&&y.den ρ)=false;rw [oF ht ha];rfl
   ·rename_i ha;show (x.den ρ&&y.den ρ)=b';rw [oF ht ha,oF ht h];rfl
   ·split at h
    ·rename_i ha;cases h;show (x.den ρ&&y.den ρ)=false;rw [oF ht ha];simp
    ·cases h
 | .cmp o x y,b',h=>by
  unfold qc at h;split at h
  ·rename_i hb;cases h;exact ZY ht hb
  ·split at h
   ·rename_i ho;rw [←ztP ho];exact ZY ht h
   ·cases h
theorem C9 {ρ:Val} {l:List (SB×Bool)} {c:SB} {b:Bool} (h:Told ρ l) (hc:c.den ρ=b):Told ρ (l++ [(c,b)]):=fun x hx=>by
 rcases yaR.1 hx with hx|hx
 ·exact h x hx
 ·rw [yaD] at hx;subst hx;exact hc
theorem HZ {ρ:Val} {pre:List (SB×Bool)} (ht:Told ρ pre): ∀c:SB,(r9 pre c).den ρ=c.den ρ
 | .lit b=>rfl
 | .not a=>by
  unfold r9;split
  ·rename_i h;exact (oF ht h).symm
  ·rw [qK,HZ ht a];rfl
 | .and a b=>by
  unfold r9;split
  ·rename_i h;exact (oF ht h).symm
  ·rw [vX,HZ ht a,HZ ht b];rfl
 | .var n=>by
  unfold r9;split
  ·rename_i h;exact (oF ht h).symm
  ·rfl
 | .cmp o a b=>by
  unfold r9;split
  ·rename_i h;exact (oF ht h).symm
  ·rfl
 | .beq a b=>by
  unfold r9;split
  ·rename_i h;exact (oF ht h).symm
  ·rfl
theorem Da {ρ:Val}: ∀(c:SB) (pre:List (SB×Bool)) (b:Bool),Told ρ pre→c.den ρ=b→Told ρ (tell pre c b)
 | .not a,pre,b,ht,h=>by
  unfold tell;refine Da a pre _ ht ?_;have h:(!(a.den ρ))=b:=h;cases b<;>cases ha:a.den ρ<;>simp_all
 | .and a b,pre,true,ht,h=>by
  unfold tell;have h:(a.den ρ&&b.den ρ)=true:=h;rw [ybe] at h;exact Da b _ _ (Da a pre _ ht h.1) h.2
 | .and a b,pre,false,ht,h=>C9 ht h
 | .lit _,pre,b,ht,h=>by unfold tell;exact C9 ht h
 | .var _,pre,b,ht,h=>by unfold tell;exact C9 ht h
 | .cmp _ _ _,pre,b,ht,h=>by unfold tell;exact C9 ht h
 | .beq _ _,pre,b,ht,h=>by unfold tell;exact C9 ht h
mutual
theorem rG {ρ:Val} {m:Nat→Bool} {ps:List (List (SB×Bool)×Nat)} (hm: ∀p∈ps,Told ρ p.1→m (1000000+p.2)=true):
  ∀ {o:Ob} {pre:List (SB×Bool)} {qs:List (List (SB×Bool)×Nat)},o.paths pre=some qs→(∀q∈qs,q∈ps)→Told ρ pre→o.den (ρ.mark m)
 | .ok,pre,qs,h,_,_=>by unfold Ob.paths at h;cases h
 | .bad _ _,pre,qs,h,_,_=>by unfold Ob.paths at h;cases h
 | .all l,pre,qs,h,hq,ht=>by
  unfold Ob.paths at h;exact SK (l:=l) hm h hq ht
 | .ite c t e,pre,qs,h,hq,ht=>by
  unfold Ob.paths at h;split at h
  ·rename_i i hi;split at h
   ·cases h;obtain ⟨n,rfl,e1,e2⟩:=zxX hi;have:=hm (pre,i) (hq _ (by simp)) ht;rw [e1] at this;have hd:SB.den (ρ.mark m) (.var n)=true:=by
     show (if n<1000000 then ρ.b n else m n)=true;rw [yai e2];exact this
    exact ⟨fun _=>trivial,fun hf=>by rw [hd] at hf;cases hf⟩
   ·cases h
  ·split at h
   ·cases h
   ·rename_i hs;have hd:=SB.jP ρ m c hs;have hsi:=HZ ht c;split at h
    ·rename_i hl;rw [hl] at hsi;have hc:c.den ρ=true:=hsi.symm;exact ⟨fun _=>rG hm h hq ht,fun hf=>(by rw [hd,hc] at hf;cases hf)⟩
    ·rename_i hl;rw [hl] at hsi;have hc:c.den ρ=false:=hsi.symm;exact ⟨fun hf=>(by rw [hd,hc] at hf;cases hf),fun _=>rG hm h hq ht⟩
    ·split at h
     ·rename_i Lb;have hc:=oF ht Lb;rw [hsi] at hc;exact ⟨fun _=>rG hm h hq ht,fun hf=>(by rw [hd,hc] at hf;cases hf)⟩
     ·rename_i Lb;have hc:=oF ht Lb;rw [hsi] at hc;exact ⟨fun hf=>(by rw [hd,hc] at hf;cases hf),fun _=>rG hm h hq ht⟩
     ·split at h
      ·rename_i a b h1 h2;cases h;exact ⟨fun hc=>rG hm h1 (fun q hq'=>hq q (by simp [hq'])) (Da _ _ _ ht (by rw [hsi,←hd];exact hc)),fun hc=>rG hm h2 (fun q hq'=>hq q (by simp [hq'])) (Da _ _ _ ht (by rw [hsi,←hd];exact hc))⟩
      ·cases h
theorem SK {ρ:Val} {m:Nat→Bool} {ps:List (List (SB×Bool)×Nat)} (hm: ∀p∈ps,Told ρ p.1→m (1000000+p.2)=true):
  ∀ {l:List Ob} {pre:List (SB×Bool)} {qs:List (List (SB×Bool)×Nat)},Ob.FB pre l=some qs→(∀q∈qs,q∈ps)→Told ρ pre→Ob.EK (ρ.mark m) l
 | [], _,_,_,_,_=>trivial
 | o::l,pre,qs,h,hq,ht=>by
  unfold Ob.FB at h;split at h
  ·rename_i a b h1 h2;cases h;exact ⟨rG hm h1 (fun q hq'=>hq q (by simp [hq'])) ht,SK hm h2 (fun q hq'=>hq q (by simp [hq'])) ht⟩
  ·cases h
end
theorem Nz {ρ:Val} {v:AV} {H:Heap}: ∀ {ls:List Leaf} {i:Nat},Ob.den ρ (cK ls i v H)→ ∃k l,ls[k]? =some l∧l.fits v H=true∧ρ.b (1000000+(i+k))=true
 | [], i,h=>h.elim
 | l::r,i,h=>by
  unfold cK at h;split at h
  ·rename_i hf;rw [tZ] at h;refine ⟨0,l,rfl,hf,?_⟩;cases hb:ρ.b (1000000+(i+0)) with
   | true=>rfl
   | false=>exact (h.2 hb).elim
  ·obtain ⟨k,l',h1,h2,h3⟩:=Nz h;refine ⟨k+1,l',h1,h2,?_⟩;rw [show i+(k+1)=Nat.succ i+k by omega];exact h3
theorem zAi {P:Program} (hmo:P.follows .mixedOrders=true) {gD:FuncId→List AV→Heap→Option (List (AV×Heap))} {x:Cx} {ρ:Val} {w:World} {n:Nat} {f:FuncId} {args:List AV} {vals:List Value} {H:Heap} {j:J} {ls:List Leaf} {asm:List (SB×Bool)} {ps:List (List (SB×Bool)×Nat)}
  (hor: ∀m,nk P (ρ.mark m) x gD) (hi: ∀m,Inv (ρ.mark m) x j H w) (ha: ∀m,RL (ρ.mark m) j args vals) (ht:Told ρ asm)
  (h:(ev P gD n (.call f args H (cK ls 0))).paths asm=some ps):
  Calls P f vals.toArray w fun e w'=> ∃p∈ps,Told ρ p.1∧ ∃l,ls[p.2]? =some l∧ ∃m u v j' H',e= .returned u∧R (ρ.mark m) j' v u∧Inv (ρ.mark m) x j' H' w'∧St j H j' H'∧l.fits v H'=true:=by
 classical
 let m:Nat→Bool:=fun k=>decide (∃p∈ps,1000000+p.2=k∧Told ρ p.1)
 have hm: ∀p∈ps,Told ρ p.1→m (1000000+p.2)=true:=fun p hp ht=>by
  show decide _=true;exact yaG ⟨p,hp,rfl,ht⟩
 have hd:=rG hm h (fun q hq=>hq) ht;have hg:=IL (w0:=x) (hor m) (fun n rec hg=>AL hmo hg) n;refine yaq ((hg.call f args H (cK ls 0) hd).2 j w vals (hi m) (ha m)) fun e w' he=> ?_;obtain ⟨u,rfl,v,H',j',h1,h2,h3,h4⟩:=he;obtain ⟨k,l,h5,h6,h7⟩:=Nz h4;have h7:(if 1000000+(0+k)<1000000 then ρ.b (1000000+(0+k)) else m (1000000+(0+k)))=true:=h7;rw [yai (by omega)] at h7;obtain ⟨p,hp,hk,hto⟩:=ybQ h7;have:p.2=k:=by omega
 subst this;exact ⟨p,hp,hto,l,h5,m,u,v,j',H',rfl,h1,h2,h3,h6⟩
theorem zFp {l:Leaf} {v:AV} {H:Heap} (h:l.fits v H=true):v=l.v∧oH H l.rows=true∧yu H l.maps=true∧H.gs=l.gs∧DK H l.own=true:=by
 unfold Leaf.fits at h;split at h
 ·rename_i h1 h2 h3 h4;exact ⟨AV.beq_eq h1,h2,h3,bC h4,h⟩
 ·cases h
theorem Ap {H:Heap} {n:Nat} {l:List AV} (h:wI H n l=true): ∃v e g c s o,H.m.get n=some (.cells v e g c s o)∧alive H.gw g c=true∧v.n=l.length∧ ∀i (hi:i<l.length),v.get i=l[i]:=by
 unfold wI at h;split at h
 case h_2=>cases h
 rename_i v e g c s o hm;split at h
 case h_2=>cases h
 rename_i ha hn;have hn:=bC hn;have hb:=AV.qW h;refine ⟨v,e,g,c,s,o,hm,ha,hn,fun i hi=> ?_⟩;have h1:=Vec.zb v.n v 0 i (by omega);rw [hb,yao hi] at h1;rw [yaC h1,yau]
theorem Inv.FI {ρ:Val} {x:Cx} {j:J} {H:Heap} {w:World} (hi:Inv ρ x j H w) {n:Nat} {L:Loc} {l:List AV} (hj:j n=some L) (hr:wI H n l=true):
  ∃ vals arr e fr,w.heap[L.blk]? =some (.cells arr e fr)∧RL ρ j l vals∧(∀(i:Nat) (y:Value),vals[i]? =some y→arr[L.off+i]? =some y)∧L.q=none∧(x.own L.blk→fr=(0,0)):=by
 obtain ⟨v,e,gr,c,s,o,hm,ha,hn,hg⟩:=Ap hr;have hrow:H.row n=some v:=by unfold Heap.row;rw [hm];simp only [ha]
 obtain ⟨arr,e',fr,h1,h2,h3⟩:=hi.row hj hrow;have hq:=hi.kZ hj hm;refine ⟨(List.range l.length).map fun i=>arr.getD (L.off+i) undef,arr,e',fr,h1,RL.zQ (by simp) fun i a hia=> ?_,fun i y hy=> ?_,hq,fun ho=>hi.fz n L hj hq ho _ _ _ h1⟩
 ·have hlt:i<l.length:=by
   rcases ybT i l.length with h'|h'
   ·exact h'
   ·rw [ya1 h'] at hia;cases hia
  obtain ⟨y,h4,h5⟩:=h3 i (by omega);refine ⟨y,by simp [hlt,h4],?_⟩;rw [hg i hlt] at h5;rw [yao hlt] at hia;cases hia;exact h5
 ·have hlt:i<l.length:=by
   rcases ybT i l.length with h'|h'
   ·exact h'
   ·rw [ya1 (by simpa using h')] at hy;cases hy
  obtain ⟨z,h4,_⟩:=h3 i (by omega);simp [hlt,h4] at hy;rw [h4,hy]
theorem Inv.abB {ρ:Val} {x:Cx} {j:J} {H:Heap} {w:World} (hi:Inv ρ x j H w) {n m:Nat} {L M:Loc} {l k:List AV} (hne:n≠m) (hgr:wK H n≠wK H m) (hn:j n=some L) (hm:j m=some M) (hl:wI H n l=true) (hk:wI H m k=true) (hb:L.blk=M.blk): ¬x.own L.blk:=by
 obtain ⟨v,e,g0,c,s,o,h1,_⟩:=Ap hl;obtain ⟨v',e',g0',c',s',o',h2,_⟩:=Ap hk;unfold wK at hgr;rw [h1,h2] at hgr;obtain ⟨_,_,_,_,_,_,_,_,_,_,_,_,h3,h4,h5,h6⟩:=hi.sep n m L M hne hn hm (hi.kZ hn h1) (hi.kZ hm h2) hb;rw [h1] at h3;cases h3;rw [h2] at h4;cases h4;cases o with
 | true=>exact absurd (h6 rfl).1 hgr
 | false=>
  obtain ⟨ob,g1,g2⟩:=hi.obj n L hn;rw [h1] at g1;cases g1;have:=g2.2.1
  rwa [yai (by decide)] at this
theorem Inv.abA {ρ:Val} {x:Cx} {j:J} {H:Heap} {w:World} (hi:Inv ρ x j H w) {n m:Nat} {L M:Loc} {l:List AV} {k:List (AV×Option AV)} (hn:j n=some L) (hm:j m=some M) (hl:wI H n l=true) (hk:Bb H m k=true):L.blk≠M.blk:=fun hb=>by
 obtain ⟨v,e,g0,c,s,o,h1,_⟩:=Ap hl;unfold Bb at hk;split at hk
 case h_2=>cases hk
 rename_i kn log h2;have hne:n≠m:=fun e=>by subst e;rw [h1] at h2;cases h2
 obtain ⟨_,_,_,_,_,_,_,_,_,_,_,_,h3,h4,h5,h6⟩:=hi.sep n m L M hne hn hm (hi.kZ hn h1) (hi.q hm h2 (by intro e;cases e)) hb;rw [h2] at h4;cases h4
theorem zxz {a b:Option AV} (h:PK a b=true):a=b:=by
 cases a<;>cases b<;>simp only [PK] at h<;>first|rfl|rw [AV.beq_eq h]|cases h
theorem zoH: ∀ {a b:List (AV×Option AV)},Jd a b=true→a=b
 | [], [], _=>rfl
 | [], _::_,h=>by cases h
 | _::_,[],h=>by cases h
 | x::a,y::b,h=>by
  unfold Jd at h;split at h
  ·rename_i h1 h2;rw [zoH h,Prod.ext (AV.beq_eq h1) (zxz h2)]
  ·cases h
theorem Inv.abe {ρ:Val} {x:Cx} {j:J} {H:Heap} {w:World} (hi:Inv ρ x j H w) {n:Nat} {L:Loc} {l:List (AV×Option AV)} (hj:j n=some L) (hr:Bb H n l=true):
  ∃ arr clock dm eU m1,w.heap[L.blk]? =some (.map arr clock)∧x.w.heap[L.blk]? =some (.map dm eU)∧(jV arr∧lG arr clock)∧RX ρ j l m1∧ ∀k,dz arr k=nG (dz dm) m1 k:=by
 unfold Bb at hr;split at hr
 case h_2=>cases hr
 rename_i kn log hm;rw [←zoH hr];obtain ⟨ob,h1,h2⟩:=hi.obj n L hj;rw [hm] at h1;cases h1;obtain ⟨_,_,_,arr,clock,dm,eU,m0,m1,h3,h4,h5,_,h7,_,h9⟩:=h2;exact ⟨arr,clock,dm,eU,m1,h3,h4,⟨h5.1,h5.2.1⟩,h7,h9⟩
inductive Sh where
 | own (row:List AV)
 | ro (row:List AV)
 | dB (kn:List (AV×Option AV))
def Sh.obj (s:Sh) (n:Nat):Obj:=
 match s with
 | .own row=> .cells (Vec.ofList row) 0 n none false true
 | .ro row=> .cells (Vec.ofList row) 0 n none false false
 | .dB kn=> .dB kn []
def Sh.xK:Sh→Bool
 | .ro _=>true
 | _=>false
def AR:List Sh→Nat→T Obj→T Obj
 | [], _,t=>t
 | s::l,n,t=>AR l (Nat.succ n) (t.set n (s.obj n))
def bn (k:Nat) (l:List Sh):Heap:=⟨AR l 1 (T.set .leaf 0 (.gs k)),Nat.succ l.length,.leaf⟩
def aT (l:List (Nat×Nat)):J:=fun n=>match n with|0=>none|k+1=>(l[k]?).map fun b=>⟨b.1,b.2,0,none⟩
theorem Zt: ∀(l:List Sh) (n:Nat) (t:T Obj) (i:Nat),(AR l n t).get i=if n≤i∧i<n+l.length then (l[i-n]?).map (·.obj i) else t.get i
 | [], n,t,i=>by
  unfold AR;rw [yai (by simp)]
 | s::l,n,t,i=>by
  unfold AR;rw [Zt l,T.lI];by_cases h1:n+1≤i∧i<n+1+l.length
  ·rw [yaj h1,yaj (by simp only [ya6];omega),show i-n=(i-(n+1))+1 by omega,yaQ]
  ·rw [yai h1];by_cases h2:i=n
   ·subst h2;rw [yaj rfl,yaj (by simp only [ya6];omega),yb8];rfl
   ·rw [yai h2,yai (by simp only [ya6];omega)]
def wQ (ρ:Val) (j:J) (x:Cx) (b:Nat×Nat):Sh→Prop
 | .own row=>x.K b.1∧b.2=0∧ ∃(vals:List Value) (arr:Array Value) (e:TypeId),x.w.heap[b.1]? =some (.cells arr e (0,0))∧RL ρ j row vals∧ ∀(i:Nat) (y:Value),vals[i]? =some y→arr[i]? =some y
 | .ro row=> ¬x.K b.1∧ ∃(vals:List Value) (arr:Array Value) (e:TypeId) (fr:Nat×Nat),x.w.heap[b.1]? =some (.cells arr e fr)∧RL ρ j row vals∧b.2+row.length≤arr.size∧ ∀(i:Nat) (y:Value),vals[i]? =some y→arr[b.2+i]? =some y
 | .dB kn=>x.K b.1∧b.2=0∧ ∃arr clock m0,x.w.heap[b.1]? =some (.map arr clock)∧(jV arr∧lG arr clock)∧RX ρ j kn m0∧ ∀k o,(k,o)∈m0→dz arr k=o
def qj (ρ:Val) (j:J) (x:Cx):List (Nat×Nat)→List Sh→Prop
 | [], [] => True
 | b::bl,s::l=>wQ ρ j x b s∧qj ρ j x bl l
 | _,_=>False
def apart:List (Nat×Nat)→List Sh→Prop
 | b::bl,s::l=>(s.xK=false→ ∀(i:Nat) (b':Nat×Nat) (s':Sh),bl[i]? =some b'→l[i]? =some s'→s'.xK=false→b.1≠b'.1)∧apart bl l
 | _,_=>True
theorem qj.get {ρ:Val} {j:J} {x:Cx}: ∀ {bl:List (Nat×Nat)} {l:List Sh},qj ρ j x bl l→bl.length=l.length∧ ∀(i:Nat) (b:Nat×Nat) (s:Sh),bl[i]? =some b→l[i]? =some s→wQ ρ j x b s
 | [], [], _=>⟨rfl,fun i b s h=>by cases h⟩
 | [], _::_,h=>h.elim
 | _::_,[],h=>h.elim
 | b::bl,s::l,h=>by
  obtain ⟨h1,h2⟩:=qj.get h.2;refine ⟨by simp [h1],fun i b' s' e1 e2=> ?_⟩;cases i with
  | zero=>cases e1;cases e2;exact h.1
  | succ i=>exact h2 i b' s' (by simpa using e1) (by simpa using e2)
theorem apart.get: ∀ {bl:List (Nat×Nat)} {l:List Sh},apart bl l→ ∀(i i':Nat) (b b':Nat×Nat) (s s':Sh),i<i'→bl[i]? =some b→l[i]? =some s→bl[i']? =some b'→l[i']? =some s'→s.xK=false→s'.xK=false→b.1≠b'.1
 | [], l,_,i,i',b,b',s,s',_,h,_,_,_,_,_=>by cases h
 | b0::bl,[],_,i,i',b,b',s,s',_,_,h,_,_,_,_=>by cases h
 | b0::bl,s0::l,h,0,i'+1,b,b',s,s',_,h1,h2,h3,h4,h5,h6=>by
  cases h1;cases h2;exact h.1 h5 i' b' s' (by simpa using h3) (by simpa using h4) h6
 | b0::bl,s0::l,h,i+1,i'+1,b,b',s,s',hlt,h1,h2,h3,h4,h5,h6=>
  apart.get h.2 i i' b b' s s' (by omega) (by simpa using h1) (by simpa using h2) (by simpa using h3) (by simpa using h4) h5 h6
theorem vT {bl:List (Nat×Nat)} {n:Nat} {L:Loc} (h:aT bl n=some L): ∃k b,n=k+1∧bl[k]? =some b∧L=⟨b.1,b.2,0,none⟩:=by
 cases n with
 | zero=>cases h
 | succ k=>
  have h:(bl[k]?).map (fun b=>(⟨b.1,b.2,0,none⟩:Loc))=some L:=h;rw [yb3] at h;obtain ⟨b,h1,h2⟩:=h;exact ⟨k,b,rfl,h1,h2.symm⟩
theorem Oe {ρ:Val} {x:Cx} {k:Nat} {bl:List (Nat×Nat)} {l:List Sh} (hK: ∀b,x.K b→b<x.w.heap.size) (ho:qj ρ (aT bl) x bl l) (ha:apart bl l) (hG:x.G k (aT bl) x.w):Inv ρ x (aT bl) (bn k l) x.w:=by
 obtain ⟨hlen,hok⟩:=ho.get;have hget: ∀i,(bn k l).m.get i=if 1≤i∧i<1+l.length then (l[i-1]?).map (·.obj i) else if i=0 then some (.gs k) else none:=fun i=>by
  show (AR l 1 (T.set .leaf 0 (.gs k))).get i=_;rw [Zt,T.lI];rfl
 have hat: ∀(q:Nat) (b:Nat×Nat),bl[q]? =some b→ ∃s,l[q]? =some s∧(bn k l).m.get (q+1)=some (s.obj (q+1)):=fun q b hb=>by
  have hq:q<l.length:=by
   rw [←hlen];exact (yax.1 hb).1
  refine ⟨l[q],yao hq,?_⟩;rw [hget,yaj (by omega),Nat.add_sub_cancel,yao hq];rfl
 have hblk: ∀(q:Nat) (b:Nat×Nat) (s:Sh),bl[q]? =some b→l[q]? =some s→b.1<x.w.heap.size:=fun q b s hb hs=>by
  have:=hok q b s hb hs;cases s with
  | own row=>obtain ⟨_,_,_,_,_,h,_⟩:=this;exact (yap.1 h).1
  | ro row=>obtain ⟨_,_,_,_,_,h,_⟩:=this;exact (yap.1 h).1
  | dB kn=>obtain ⟨_,_,_,_,_,h,_⟩:=this;exact (yap.1 h).1
 have KW: ∀(q:Nat) (b:Nat×Nat) (s:Sh),bl[q]? =some b→l[q]? =some s→mH ρ (aT bl) x x.w .leaf ⟨b.1,b.2,0,none⟩ (s.obj (q+1)):=fun q b s hb hs=>by
  have:=hok q b s hb hs;cases s with
  | own row=>
   obtain ⟨h1,h2,vals,arr,e,h3,h4,h5⟩:=this;refine ⟨rfl,by rw [yaj rfl];exact .inr h1,fun _=>⟨arr,e,(0,0),h3,?_,⟨?_,fun hh=>by cases hh⟩,fun i hi=> ?_⟩⟩
   ·show b.2+(Vec.ofList row).n≤arr.size;rw [Vec.lQ,h2,yau];have hl:=h4.length;rcases ybm row.length with h0|h0
    ·omega
    ·have h6:=h5 (row.length-1) _ (yao (by omega));have:=(yap.1 h6).1;omega
   ·show b.2+0*0≤arr.size;omega
   ·rw [Vec.lQ] at hi;rw [Vec.sN row i hi];obtain ⟨y,h6,h7⟩:=h4.get i _ (yao hi);exact ⟨y,by show arr[b.2+i]? =_;rw [h2,yau];exact h5 i y h6,h7⟩
  | ro row=>
   obtain ⟨h1,vals,arr,e,fr,h3,h4,h6,h5⟩:=this;refine ⟨rfl,?_,fun _=>⟨arr,e,fr,h3,?_,⟨?_,fun hh=>by cases hh⟩,fun i hi=> ?_⟩⟩
   ·rw [yai (by decide)];have:=(yap.1 h3).1;rintro (h|h)
    ·have:x.w.heap.size≤b.1:=h;omega
    ·exact h1 h
   ·show b.2+(Vec.ofList row).n≤arr.size;rw [Vec.lQ];exact h6
   ·show b.2+0*0≤arr.size;omega
   ·rw [Vec.lQ] at hi;rw [Vec.sN row i hi];obtain ⟨y,h7,h8⟩:=h4.get i _ (yao hi);exact ⟨y,h5 i y h7,h8⟩
  | dB kn=>
   obtain ⟨h1,h2,arr,clock,m0,h3,h4,h5,h6⟩:=this;obtain ⟨e1,e2⟩:=ND h5;exact ⟨rfl,.inr h1,h2,arr,clock,arr,clock,m0,[],h3,h3,⟨h4.1,h4.2,e2 _⟩,by rw [e1];exact h5,rfl,h6,fun _=>rfl⟩
 refine ⟨Fr.refl x,fun n L h=> ?_,fun n L h _=> ?_,fun n o h=> ?_,fun n L h=> ?_,fun n m Ln Lm hne h1 h2 _ _ hb=> ?_,fun n v e g t sh ow h=> ?_,fun g y h=>(by cases h),fun n L v e g c sh h1 h2=> ?_,fun n L h _ how c e fr hc=> ?_,fun n L v e c sh h1 h2=> ?_,rfl,ydq _,fun o h=> ?_,?_⟩
 ·obtain ⟨q,b,rfl,hb,rfl⟩:=vT h;show q+1<l.length+1;have:=(yax.1 hb).1;omega
 ·obtain ⟨q,b,rfl,hb,rfl⟩:=vT h;obtain ⟨s,hs,_⟩:=hat q b hb;exact hblk q b s hb hs
 ·show n<l.length+1;rw [hget] at h;split at h
  ·omega
  ·split at h
   ·omega
   ·cases h
 ·obtain ⟨q,b,rfl,hb,rfl⟩:=vT h;obtain ⟨s,hs,h1⟩:=hat q b hb;exact ⟨_,h1,KW q b s hb hs⟩
 ·obtain ⟨q,b,rfl,hq,rfl⟩:=vT h1;obtain ⟨q',b',rfl,hq',rfl⟩:=vT h2;obtain ⟨s,hs,g1⟩:=hat q b hq;obtain ⟨s',hs',g2⟩:=hat q' b' hq';have hb:b.1=b'.1:=hb;have k1:=hok q b s hq hs;have k2:=hok q' b' s' hq' hs';have hro: ∀ {s:Sh} {b:Nat×Nat},wQ ρ (aT bl) x b s→s.xK=false→x.K b.1:=fun {s b} h h'=>by
   cases s with
   | own=>exact h.1
   | ro=>cases h'
   | dB=>exact h.1
  cases hr:s.xK with
  | false=>
   cases hr':s'.xK with
   | false=>
    rcases Nat.lt_or_gt_of_ne (show q≠q' from fun e=>hne (by rw [e])) with hlt|hlt
    ·exact absurd hb (ha.get q q' b b' s s' hlt hq hs hq' hs' hr hr')
    ·exact absurd hb.symm (ha.get q' q b' b s' s hlt hq' hs' hq hs hr' hr)
   | true=>
    have:=hro k1 hr;rw [hb] at this;cases s' with
    | own=>cases hr'
    | ro=>exact absurd this k2.1
    | dB=>cases hr'
  | true=>
   cases s with
   | own=>cases hr
   | dB=>cases hr
   | ro row=>
    cases s' with
    | ro row'=>exact ⟨_,_,_,_,_,_,_,_,_,_,_,_,g1,g2,rfl,fun h=>by cases h⟩
    | own=>exact absurd (hb▸k2.1) k1.1
    | dB=>exact absurd (hb▸k2.1) k1.1
 ·rw [hget] at h;split at h
  ·rw [yb3] at h;obtain ⟨s,_,h⟩:=h;cases s<;>cases h
  ·split at h<;>cases h
 ·obtain ⟨q,b,rfl,hb,rfl⟩:=vT h1;obtain ⟨s,hs,g1⟩:=hat q b hb;rw [g1] at h2;cases s<;>cases h2;exact ⟨_,h1⟩
 ·obtain ⟨q,b,rfl,hb,rfl⟩:=vT h;obtain ⟨s,hs,_⟩:=hat q b hb;have hlt:=hblk q b s hb hs;have hKb:x.K b.1:=by
   rcases how with h|h
   ·have:x.w.heap.size≤b.1:=h;omega
   ·exact h
  have k1:=hok q b s hb hs;cases s with
  | own row=>obtain ⟨_,_,_,_,_,h3,_⟩:=k1;rw [h3] at hc;cases hc;rfl
  | ro row=>exact absurd hKb k1.1
  | dB kn=>obtain ⟨_,_,_,_,_,h3,_⟩:=k1;rw [h3] at hc;cases hc
 ·obtain ⟨q,b,rfl,hb,rfl⟩:=vT h1;obtain ⟨s,hs,g1⟩:=hat q b hb;rw [g1] at h2;cases s<;>cases h2;exact (hok q b _ hb hs).2.1
 ·rw [hget,yai (by omega),yaj rfl] at h;cases h;exact ⟨k,rfl⟩
 ·have:(bn k l).gs=k:=by
   unfold Heap.gs;rw [hget,yai (by omega),yaj rfl]
  rw [this];exact hG
structure Mv (S:Nat→Prop) (w w':World):Prop where
 os:w'.os=w.os
 tape:w'.tape=w.tape
 output:w'.output=w.output
 size:w.heap.size≤w'.heap.size
 block: ∀k,k<w.heap.size→ ¬S k→w'.heap[k]? =w.heap[k]?
theorem Mv.refl (S:Nat→Prop) (w:World):Mv S w w:=⟨rfl,rfl,rfl,yab _,fun _ _ _=>rfl⟩
theorem Mv.trans {S:Nat→Prop} {a b c:World} (h:Mv S a b) (k:Mv S b c):Mv S a c:=
 ⟨k.os.trans h.os,k.tape.trans h.tape,k.output.trans h.output,yaw h.size k.size,fun j hj h1=>(k.block j (yae hj h.size) h1).trans (h.block j hj h1)⟩
theorem Mv.mono {S S':Nat→Prop} {a b:World} (h:Mv S a b) (hs: ∀k,S k→S' k):Mv S' a b:=⟨h.os,h.tape,h.output,h.size,fun j hj h1=>h.block j hj (fun h2=>h1 (hs j h2))⟩
theorem Mv.of_below {S:Nat→Prop} {w w':World} (h:Below w.heap.size w w'):Mv S w w':=⟨h.os,h.tape,h.output,h.size,fun k hk _=>h.block k hk⟩
structure aG where
 f:FuncId
 args:List AV
 gs:Nat
 base:Nat
 gQ:Nat
 res:AV
 gs':Nat
def qh:Nat→Heap→Heap
 | 0,H=>H
 | n+1,H=>qh n (H.alloc .opq)
def Vd (k:Nat) (H:Heap):Heap:=
 match H with
 | ⟨m,nx,gw⟩=>match m.set 0 (.gs k) with
  | .leaf=>⟨.leaf,nx,gw⟩
  | .node a b c=>⟨.node a b c,nx,gw⟩
def aG.heap (e:aG) (H:Heap):Heap:=
 match Nat.beq e.gs e.gs' with
 | true=>qh e.gQ H
 | false=>Vd e.gs' (qh e.gQ H)
def aG.fits (e:aG) (f:FuncId) (args:List AV) (H:Heap):Bool:=
 match Nat.beq f e.f with
 | false=>false
 | true=>match AV.o6 args e.args,Nat.beq H.gs e.gs with
  | true,true=>(match e.gQ with
   | 0=>true
   | _+1=>Nat.beq H.nx e.base)
  | _,_=>false
def bB:List aG→FuncId→List AV→Heap→Option (List (AV×Heap))
 | [], _,_,_=>none
 | e::l,f,args,H=>match e.fits f args H with
  | true=>some [(e.res,e.heap H)]
  | false=>bB l f args H
def jq (j:J) (n:Nat) (qs:List Value):J:=fun k=>if n≤k∧k<n+qs.length then some ⟨0,0,0,some (qs.getD (k-n) undef)⟩ else j k
theorem Jh (j:J) (n:Nat):jq j n []=j:=by
 funext k;unfold jq;rw [yai (by simp)]
def MI (P:Program) (ρ:Val) (x:Cx) (e:aG):Prop:=
 Enters P e.f∧ ∀(j:J) (H:Heap) (w:World) (vals:List Value),Inv ρ x j H w→H.gs=e.gs→(e.gQ≠0→H.nx=e.base)→RL ρ j e.args vals→
  Calls P e.f vals.toArray w fun en w'=> ∃u qs,en= .returned u∧qs.length=e.gQ∧R ρ (jq j H.nx qs) e.res u∧x.G e.gs' (jq j H.nx qs) w'∧Mv (fun b=> ¬Mine j b∧x.own b) w w'
theorem zsJ: ∀(n:Nat) (H:Heap),(qh n H).nx=H.nx+n∧(qh n H).gw=H.gw∧ ∀k,(qh n H).m.get k=if H.nx≤k∧k<H.nx+n then some .opq else H.m.get k
 | 0,H=>⟨rfl,rfl,fun k=>by rw [yai (by omega)];rfl⟩
 | n+1,H=>by
  obtain ⟨h1,h2,h3⟩:=zsJ n (H.alloc .opq);rw [Heap.alloc_eq] at h1 h2 h3;have h1:(qh n ⟨H.m.set H.nx .opq,H.nx+1,H.gw⟩).nx=H.nx+1+n:=h1;refine ⟨?_,?_,fun k=> ?_⟩
  ·show (qh n (H.alloc .opq)).nx=_;rw [Heap.alloc_eq,h1];omega
  ·show (qh n (H.alloc .opq)).gw=_;rw [Heap.alloc_eq];exact h2
  ·show (qh n (H.alloc .opq)).m.get k=_;rw [Heap.alloc_eq,h3];show (if H.nx+1≤k∧k<H.nx+1+n then some Obj.opq else (H.m.set H.nx .opq).get k)=_;rw [T.lI];by_cases h4:H.nx+1≤k∧k<H.nx+1+n
   ·rw [yaj h4,yaj (by omega)]
   ·rw [yai h4];by_cases h5:k=H.nx
    ·rw [yaj h5,yaj (by omega)]
    ·rw [yai h5,yai (by omega)]
theorem zy4 (k:Nat) (H:Heap):Vd k H=⟨H.m.set 0 (.gs k),H.nx,H.gw⟩:=by
 obtain ⟨m,nx,gw⟩:=H;show (match m.set 0 (.gs k) with| .leaf=>(⟨.leaf,nx,gw⟩:Heap)| .node a b c=>⟨.node a b c,nx,gw⟩)=_;cases m.set 0 (.gs k)<;>rfl
theorem aG.QX (e:aG) (H:Heap) (hn:0<H.nx) (hg:H.gs=e.gs):(e.heap H).nx=H.nx+e.gQ∧(e.heap H).gw=H.gw∧(e.heap H).gs=e.gs'∧(∀k,0<k→(e.heap H).m.get k=if H.nx≤k∧k<H.nx+e.gQ then some .opq else H.m.get k)∧
  ((e.heap H).m.get 0=H.m.get 0∨(e.heap H).m.get 0=some (.gs e.gs')):=by
 obtain ⟨h1,h2,h3⟩:=zsJ e.gQ H;unfold aG.heap;split
 ·rename_i hb;have hb:=bC hb;refine ⟨h1,h2,?_,fun k _=>h3 k,.inl (by rw [h3,yai (by omega)])⟩;unfold Heap.gs;rw [h3,yai (by omega)];rw [←hb,←hg];rfl
 ·rw [zy4];refine ⟨h1,h2,?_,fun k hk=> ?_,.inr (by show ((qh e.gQ H).m.set 0 _).get 0=_;exact T.get_set_same _ _ _)⟩
  ·unfold Heap.gs;rw [T.get_set_same]
  ·show ((qh e.gQ H).m.set 0 _).get k=_;rw [T.jl _ _ (by omega),h3]
section
variable {P:Program} {ρ:Val} {x:Cx} {j:J} {H:Heap} {w w':World}
theorem UK (h:Inv ρ x j H w) (qs:List Value):Sub j (jq j H.nx qs):=fun n L e=>by
 unfold jq;rw [yai (by have:=h.dom n L e;omega)];exact e
theorem uo (qs:List Value) {n:Nat} {L:Loc} (h:jq j H.nx qs n=some L):(j n=some L)∨(H.nx≤n∧n<H.nx+qs.length∧L.q≠none):=by
 unfold jq at h;split at h
 ·rename_i hc;cases h;exact .inr ⟨hc.1,hc.2,by simp⟩
 ·exact .inl h
theorem Inv.ent (h:Inv ρ x j H w) {e:aG} {qs:List Value} (hg:H.gs=e.gs) (hl:qs.length=e.gQ) (hG:x.G e.gs' (jq j H.nx qs) w') (hm:Mv (fun b=> ¬Mine j b∧x.own b) w w'):
  Inv ρ x (jq j H.nx qs) (e.heap H) w'∧St j H (jq j H.nx qs) (e.heap H):=by
 obtain ⟨e1,e2,e3,e4,e5⟩:=e.QX H h.jo hg;have hsub:=UK h qs;have hold: ∀n L,j n=some L→(e.heap H).m.get n=H.m.get n:=fun n L hn=>by
  rw [e4 n (by have:=h.rF hn;omega),yai (by have:=h.dom n L hn;omega)]
 have hkeep: ∀n L,j n=some L→L.q=none→w'.heap[L.blk]? =w.heap[L.blk]? :=fun n L hn hq=>hm.block _ (h.blk n L hn hq) (fun hh=>hh.1 ⟨n,L,hn,hq,rfl⟩);refine ⟨⟨h.fr.then hm.os hm.output hm.tape hm.size (fun i hi ho=>hm.block i hi (fun hh=>ho hh.2)),fun n L hn=> ?_,fun n L hn hq=> ?_,fun n o hn=> ?_,fun n L hn=> ?_,fun n m Ln Lm hne h1 h2 q1 q2 hb=> ?_,fun n v es g t sh ow hn=> ?_,fun g y hy=> ?_,fun n L v es g c sh h1 h2=> ?_,fun n L hn hq ho c t fr hc=> ?_,fun n L v es c sh h1 h2=> ?_,?_,?_,fun o ho=> ?_,?_⟩,
  hsub,fun n L h1 h2=> ?_,fun n hp h1 h2=>⟨?_,by rw [e2]⟩,by rw [e1];omega⟩
 ·rw [e1];rcases uo qs hn with hn|⟨_,h2,_⟩
  ·have:=h.dom n L hn;omega
  ·omega
 ·rcases uo qs hn with hn|⟨_,_,h3⟩
  ·exact yae (h.blk n L hn hq) hm.size
  ·exact absurd hq h3
 ·rw [e1];rcases ybm n with h0|h0
  ·have:=h.jo;omega
  ·rw [e4 n h0] at hn;split at hn
   ·omega
   ·have:=h.used n o hn;omega
 ·rcases uo qs hn with hn|⟨h1,h2,h3⟩
  ·obtain ⟨o,h4,h5⟩:=h.obj n L hn;refine ⟨o,by rw [hold n L hn];exact h4,?_⟩;rw [e2];exact h5.grow hsub (fun hq=>hkeep n L hn hq)
  ·refine ⟨.opq,?_,h3⟩;rw [e4 n (by have:=h.jo;omega),yaj ⟨h1,by omega⟩]
 ·rcases uo qs h1 with h1|⟨_,_,h3⟩
  ·rcases uo qs h2 with h2|⟨_,_,h3⟩
   ·obtain ⟨vn,en,gn,cn,sn,on,vm,em,gm,cm,sm,om,g1,g2,g3⟩:=h.sep n m Ln Lm hne h1 h2 q1 q2 hb;exact ⟨vn,en,gn,cn,sn,on,vm,em,gm,cm,sm,om,by rw [hold n Ln h1];exact g1,by rw [hold m Lm h2];exact g2,by rw [e2];exact g3⟩
   ·exact absurd q2 h3
  ·exact absurd q1 h3
 ·rw [e1];rcases ybm n with h0|h0
  ·subst h0;rcases e5 with e5|e5
   ·rw [e5] at hn;obtain ⟨kk,hk⟩:=h.z0 _ hn;cases hk
   ·rw [e5] at hn;cases hn
  ·rw [e4 n h0] at hn;split at hn
   ·cases hn
   ·have:=h.oD n v es g t sh ow hn;omega
 ·rw [e2] at hy;rw [e1];have:=h.mJ g y hy;omega
 ·rcases uo qs h1 with h1|⟨h3,h4,_⟩
  ·rw [hold n L h1] at h2;obtain ⟨Lg,qo⟩:=h.jY n L v es g c sh h1 h2;exact ⟨Lg,hsub _ _ qo⟩
  ·rw [e4 n (by have:=h.jo;omega),yaj ⟨h3,by omega⟩] at h2;cases h2
 ·rcases uo qs hn with hn|⟨_,_,h3⟩
  ·rw [hkeep n L hn hq] at hc;exact h.fz n L hn hq ho c t fr hc
  ·exact absurd hq h3
 ·rcases uo qs h1 with h1|⟨h3,h4,_⟩
  ·rw [hold n L h1] at h2;exact h.kW n L v es c sh h1 h2
  ·rw [e4 n (by have:=h.jo;omega),yaj ⟨h3,by omega⟩] at h2;cases h2
 ·unfold jq;rw [yai (by have:=h.jo;omega)];exact h.n0
 ·rw [e1];have:=h.jo;omega
 ·rcases e5 with e5|e5
  ·rw [e5] at ho;exact h.z0 o ho
  ·rw [e5] at ho;cases ho;exact ⟨_,rfl⟩
 ·rw [e3];exact hG
 ·rcases uo qs h1 with h1|⟨h3,_,_⟩
  ·rw [h1] at h2;cases h2
  ·exact h3
 ·rw [e4 n hp,yai (by omega)]
theorem Oj {l:List aG} (h: ∀e∈l,MI P ρ x e):nk P ρ x (bB l):=by
 intro f args H r hr
 induction l with
 | nil=>cases hr
 | cons e l ih=>
  unfold bB at hr;split at hr
  ·rename_i hf;cases hr;obtain ⟨h1,h2⟩:=h e (by simp);unfold aG.fits at hf;split at hf
   ·cases hf
   rename_i nY;have nY:=bC nY;subst nY;split at hf
   case h_2=>cases hf
   rename_i ha hgs;have ha:=AV.qW ha;have hgs:=bC hgs;subst ha;refine ⟨h1,fun k hk j w vals hi hv=> ?_⟩;have hk:Ob.den ρ (k e.res (e.heap H)):=hk;refine yaq (h2 j H w vals hi hgs (fun hn=> ?_) hv) fun en w' he=> ?_
   ·split at hf
    ·rename_i h0;exact absurd h0 hn
    ·exact bC hf
   ·obtain ⟨u,qs,rfl,g1,g2,g3,g4⟩:=he;obtain ⟨g5,g6⟩:=hi.ent hgs g1 g3 g4;exact ⟨u,rfl,e.res,e.heap H,_,g2,g5,g6,hk⟩
  ·exact ih (fun e' he'=>h e' (by simp [he'])) hr
end
structure bg where
 fact:Nat→(Nat→Option Value)→(Nat→Prop)→World→Prop
 loc: ∀k q q' F w w',fact k q F w→(∀n v,q n=some v→q' n=some v)→(∀b,F b→w'.heap[b]? =w.heap[b]?)→w.heap.size≤w'.heap.size→fact k q' F w'
def iE (j:J) (n:Nat):Option Value:=(j n).bind (·.q)
def bg.G (g:bg) (k:Nat) (j:J) (w:World):Prop:= ∃F:Nat→Prop,(∀b,F b→b<w.heap.size∧ ¬Mine j b)∧g.fact k (iE j) F w
theorem zAh {j j':J} (h:Sub j j') {n:Nat} {v:Value} (hv:iE j n=some v):iE j' n=some v:=by
 unfold iE at hv ⊢;rw [yc2] at hv;obtain ⟨L,h1,h2⟩:=hv;rw [h n L h1];exact h2
def iT (w:World) (K:Nat→Prop) (g:bg):Cx:=⟨w,K,g.G,fun k j j' w w' hG hs hle hb hn=>by
 obtain ⟨F,h1,h2⟩:=hG;refine ⟨F,fun b hF=>⟨yae (h1 b hF).1 hle,fun hm=> ?_⟩,g.loc _ _ _ _ _ _ h2 (fun n v hv=>zAh hs hv) (fun b hF=>hb b (h1 b hF).1 (h1 b hF).2) hle⟩;rcases hn b hm with hm|hm
 ·exact (h1 b hF).2 hm
 ·have:=(h1 b hF).1;omega⟩
def bg.none:bg:=⟨fun _ _ _ _=>True,fun _ _ _ _ _ _ _ _ _ _=>trivial⟩
theorem Iz {j:J} {n:Nat} {qs:List Value} {b:Nat} (hj: ∀k,n≤k→j k=none) (h:Mine (jq j n qs) b):Mine j b:=by
 obtain ⟨k,L,h1,h2,h3⟩:=h;unfold jq at h1;split at h1
 ·cases h1;cases h2
 ·exact ⟨k,L,h1,h2,h3⟩
theorem zAx {P:Program} {ρ:Val} {w0:World} {K:Nat→Prop} {g:bg} {e:aG} (he:Enters P e.f)
    (h: ∀(j:J) (w:World) (vals:List Value) (F:Nat→Prop) (n:Nat),RL ρ j e.args vals→(∀k,n≤k→j k=none)→(e.gQ≠0→n=e.base)→(∀b,F b→b<w.heap.size)→w0.heap.size≤w.heap.size→g.fact e.gs (iE j) F w→(∀i,i<w0.heap.size→ ¬K i→w.heap[i]? =w0.heap[i]?)→
      Calls P e.f vals.toArray w fun en w'=> ∃u qs F',en= .returned u∧qs.length=e.gQ∧R ρ (jq j n qs) e.res u∧g.fact e.gs' (iE (jq j n qs)) F' w'∧(∀b,F' b→b<w'.heap.size∧(F b∨w.heap.size≤b))∧Mv (fun b=>F b∧(w0.heap.size≤b∨K b)) w w'):
    MI P ρ (iT w0 K g) e:=by
  refine ⟨he,fun j H w vals hi hgs hb hv=> ?_⟩;have hG:=hi.eY;rw [hgs] at hG;obtain ⟨F,h1,h2⟩:=hG;have hnone: ∀k,H.nx≤k→j k= .none:=fun k hk=>by
    cases hjk:j k with
    | none=>rfl
    | some L=>have:=hi.dom k L hjk;omega
  refine yaq (h j w vals F H.nx hv hnone hb (fun b hF=>(h1 b hF).1) hi.fr.size h2 hi.fr.old) fun en w' he'=> ?_;obtain ⟨u,qs,F',rfl,g1,g2,g3,g4,g5⟩:=he';refine ⟨u,qs,rfl,g1,g2,⟨F',fun b hF'=>⟨(g4 b hF').1,fun hm=> ?_⟩,g3⟩,g5.mono fun b hb=>⟨(h1 b hb.1).2,hb.2⟩⟩;have hm:=Iz hnone hm;rcases (g4 b hF').2 with hF|hF
  · exact (h1 b hF).2 hm
  · obtain ⟨k,L,k1,k2,k3⟩:=hm;have:=hi.blk k L k1 k2;omega
end Go.Dw
namespace Go.Dw
open Go.RowKit
def zDF:Loc:=⟨0,0,0,none⟩
def dZ (j:J) (n:Nat):Loc:=(j n).getD zDF
mutual
def AV.exact:AV→Bool
 | .emp| .oz _| .mV=>false
 | .sl _ _ _ (.upto _)=>true
 | .func _ a b=>match AV.kS a with|true=>AV.kS b|false=>false
 | .iface _ v=>AV.exact v
 | .agg l=>AV.kS l
 | .ay l=>AV.kS l
 | _=>true
def AV.kS:List AV→Bool
 | [] => true
 | a::l=>match AV.exact a with|true=>AV.kS l|false=>false
end
mutual
def AV.val (ρ:Val) (lc:Nat→Loc):AV→Value
 | .bool b=> .bool (b.den ρ)
 | .int k n=> .int k (n.den ρ)
 | .str s=> .string ⟨(s.map UInt8.ofNat).toArray⟩
 | .jm=> .pointer none
 | .ptr n o=> .pointer (some ⟨(lc n).blk,(lc n).off+o,none⟩)
 | .cO=> .slice none 0 0
 | .sl n o len cap=> .slice (some ⟨(lc n).blk,(lc n).off+o,none⟩) len (uJ (lc n) cap)
 | .emp| .oz _| .mV=>undef
 | .kI=> .map none
 | .map n=> .map (some (lc n).blk)
 | .func f first cap=> .func (.func f) (AV.aI ρ lc first).toArray (AV.aI ρ lc cap).toArray
 | .lT=> .nilFunc
 | .mR=> .nilIface
 | .iface t x=> .iface t (AV.val ρ lc x)
 | .agg l=> .agg (AV.aI ρ lc l).toArray
 | .ay l=> .tuple (AV.aI ρ lc l).toArray
 | .cst i _=>ρ.v i
 | .opq n _=>(lc n).q.getD undef
 | .iM _ _=>undef
 | .junk=>undef
 | .sx i _ _ _=>ρ.v i
def AV.aI (ρ:Val) (lc:Nat→Loc):List AV→List Value
 | [] => []
 | a::l=>AV.val ρ lc a::AV.aI ρ lc l
end
theorem bE {j:J} {n:Nat} {L:Loc} (h:j n=some L):dZ j n=L:=by unfold dZ;rw [h];rfl
mutual
theorem uN {ρ:Val} {j:J}: ∀ {a:AV} {v:Value},a.exact=true→R ρ j a v→v=a.val ρ (dZ j)
 | .bool _,_,_,r=>r
 | .int _ _,_,_,r=>r
 | .str _,_,_,r=>r.2
 | .jm,_,_,r=>r
 | .ptr _ _,_,_,r=>by obtain ⟨L,e,rfl⟩:=r;unfold AV.val;rw [bE e]
 | .cO,_,_,r=>r
 | .sl _ _ _ _,_,_,r=>by obtain ⟨L,e,_,rfl⟩:=r;unfold AV.val;rw [bE e]
 | .emp,_,h,_=>by cases h
 | .oz _,_,h,_=>by cases h
 | .mV,_,h,_=>by cases h
 | .kI,_,_,r=>r
 | .map _,_,_,r=>by obtain ⟨L,e,rfl⟩:=r;unfold AV.val;rw [bE e]
 | .func f a b,_,h,r=>by
  obtain ⟨l,m,rfl,h1,h2⟩:=r;unfold AV.exact at h;split at h
  ·rename_i ha;unfold AV.val;rw [sG ha h1,sG h h2]
  ·cases h
 | .lT,_,_,r=>r
 | .mR,_,_,r=>r
 | .iface t x,_,h,r=>by obtain ⟨y,rfl,h1⟩:=r;unfold AV.exact at h;unfold AV.val;rw [uN h h1]
 | .agg l,_,h,r=>by obtain ⟨m,rfl,h1⟩:=r;unfold AV.exact at h;unfold AV.val;rw [sG h h1]
 | .ay l,_,h,r=>by obtain ⟨m,rfl,h1⟩:=r;unfold AV.exact at h;unfold AV.val;rw [sG h h1]
 | .cst _ _,_,_,r=>r.1
 | .opq _ _,_,_,r=>by obtain ⟨⟨L,e,h1⟩,_⟩:=r;unfold AV.val;rw [bE e,h1];rfl
 | .iM _ _,_,_,r=>r.1
 | .junk,_,_,r=>r.elim
 | .sx _ _ _ _,_,_,r=>r.1
theorem sG {ρ:Val} {j:J}: ∀ {l:List AV} {m:List Value},AV.kS l=true→RL ρ j l m→m=AV.aI ρ (dZ j) l
 | [], _,_,r=>r
 | a::l,_,h,r=>by
  obtain ⟨v,m,rfl,h1,h2⟩:=r;unfold AV.kS at h;split at h
  ·rename_i ha;unfold AV.aI;rw [uN ha h1,sG h h2]
  ·cases h
end
mutual
def AV.small:AV→Bool
 | .bool b=>b.small
 | .func _ a b=>match AV.bK a with|true=>AV.bK b|false=>false
 | .iface _ v=>AV.small v
 | .agg l=>AV.bK l
 | .ay l=>AV.bK l
 | .iM c _=>c.small
 | _=>true
def AV.bK:List AV→Bool
 | [] => true
 | a::l=>match AV.small a with|true=>AV.bK l|false=>false
end
theorem ztC {ρ:Val} {j:J} (m:Nat→Bool) {sz:Nat} {b:Option Addr} {len:Nat}: ∀ {l:List (SE×Nat)},(qV (ρ.mark m) j sz b len l↔qV ρ j sz b len l)
 | [] => yb7
 | p::l=>by unfold qV;rw [ztC m (l:=l),SE.jP]
mutual
theorem lY {ρ:Val} {j:J} (m:Nat→Bool): ∀ {a:AV} {v:Value},a.small=true→(R (ρ.mark m) j a v↔R ρ j a v)
 | .bool b,v,h=>by show v=_↔v=_;rw [SB.jP ρ m b h]
 | .int k n,v,_=>by show v=_↔v=_;rw [SE.jP]
 | .str _,_,_=>yb7
 | .jm,_,_=>yb7
 | .ptr _ _,_,_=>yb7
 | .cO,_,_=>yb7
 | .sl _ _ _ _,_,_=>yb7
 | .emp,_,_=>yb7
 | .oz n,_,_=>by simp only [R,SE.jP]
 | .mV,_,_=>yb7
 | .kI,_,_=>yb7
 | .map _,_,_=>yb7
 | .func f a b,v,h=>by
  unfold AV.small at h;split at h
  ·rename_i ha;constructor
   ·rintro ⟨l,k,rfl,h1,h2⟩;exact ⟨l,k,rfl,(ji m ha).1 h1,(ji m h).1 h2⟩
   ·rintro ⟨l,k,rfl,h1,h2⟩;exact ⟨l,k,rfl,(ji m ha).2 h1,(ji m h).2 h2⟩
  ·cases h
 | .lT,_,_=>yb7
 | .mR,_,_=>yb7
 | .iface t x,v,h=>by
  unfold AV.small at h;constructor
  ·rintro ⟨y,rfl,h1⟩;exact ⟨y,rfl,(lY m h).1 h1⟩
  ·rintro ⟨y,rfl,h1⟩;exact ⟨y,rfl,(lY m h).2 h1⟩
 | .agg l,v,h=>by
  unfold AV.small at h;constructor
  ·rintro ⟨y,rfl,h1⟩;exact ⟨y,rfl,(ji m h).1 h1⟩
  ·rintro ⟨y,rfl,h1⟩;exact ⟨y,rfl,(ji m h).2 h1⟩
 | .ay l,v,h=>by
  unfold AV.small at h;constructor
  ·rintro ⟨y,rfl,h1⟩;exact ⟨y,rfl,(ji m h).1 h1⟩
  ·rintro ⟨y,rfl,h1⟩;exact ⟨y,rfl,(ji m h).2 h1⟩
 | .cst i l,v,_=>by
  show (v=ρ.v i∧_∧_)↔(v=ρ.v i∧_∧_);simp only [SE.jP]
 | .opq _ _,_,_=>by simp only [R,SE.jP]
 | .junk,_,_=>yb7
 | .sx i n sz l,v,_=>by
  show (v=ρ.v i∧_)↔(v=ρ.v i∧_);simp only [SE.jP,ztC]
 | .iM c w,v,h=>by show (v=undef∧_=_)↔(v=undef∧_=_);rw [SB.jP ρ m c h]
theorem ji {ρ:Val} {j:J} (m:Nat→Bool): ∀ {l:List AV} {v:List Value},AV.bK l=true→(RL (ρ.mark m) j l v↔RL ρ j l v)
 | [], _,_=>yb7
 | a::l,v,h=>by
  unfold AV.bK at h;split at h
  ·rename_i ha;constructor
   ·rintro ⟨y,k,rfl,h1,h2⟩;exact ⟨y,k,rfl,(lY m ha).1 h1,(ji m h).1 h2⟩
   ·rintro ⟨y,k,rfl,h1,h2⟩;exact ⟨y,k,rfl,(lY m ha).2 h1,(ji m h).2 h2⟩
  ·cases h
end
def zFi:Option AV→Bool
 | none=>true
 | some a=>a.small
def Dp:List (AV×Option AV)→Bool
 | [] => true
 | e::l=>match e.1.small,zFi e.2 with|true,true=>Dp l|_,_=>false
theorem I4 {ρ:Val} {j:J} (m:Nat→Bool): ∀ {l:List (AV×Option AV)} {v:List (Int×Option Value)},Dp l=true→(RX (ρ.mark m) j l v↔RX ρ j l v)
 | [], _,_=>yb7
 | e::l,v,h=>by
  unfold Dp at h;split at h
  ·rename_i h1 h2;have ho: ∀o,RO (ρ.mark m) j e.2 o↔RO ρ j e.2 o:=fun o=>by
    cases he:e.2 with
    | none=>exact yb7
    | some a=>
     rw [he] at h2;constructor
     ·rintro ⟨y,rfl,hy⟩;exact ⟨y,rfl,(lY m h2).1 hy⟩
     ·rintro ⟨y,rfl,hy⟩;exact ⟨y,rfl,(lY m h2).2 hy⟩
   constructor
   ·rintro ⟨x,o,k,rfl,g1,g2,g3⟩;exact ⟨x,o,k,rfl,(lY m h1).1 g1,(ho o).1 g2,(I4 m h).1 g3⟩
   ·rintro ⟨x,o,k,rfl,g1,g2,g3⟩;exact ⟨x,o,k,rfl,(lY m h1).2 g1,(ho o).2 g2,(I4 m h).2 g3⟩
  ·cases h
def Sh.small:Sh→Bool
 | .own row=>AV.bK row
 | .ro row=>AV.bK row
 | .dB kn=>Dp kn
def bD:List Sh→Bool
 | [] => true
 | s::l=>match s.small with|true=>bD l|false=>false
theorem GU {ρ:Val} {j:J} {x:Cx} (m:Nat→Bool): ∀ {bl:List (Nat×Nat)} {l:List Sh},bD l=true→qj ρ j x bl l→qj (ρ.mark m) j x bl l
 | [], [], _,_=>trivial
 | [], _::_,_,h=>h.elim
 | _::_,[],_,h=>h.elim
 | b::bl,s::l,hs,h=>by
  unfold bD at hs;split at hs
  ·rename_i h0;refine ⟨?_,GU m hs h.2⟩;have h1:=h.1;cases s with
   | own row=>obtain ⟨a1,a2,vals,arr,e,a3,a4,a5⟩:=h1;exact ⟨a1,a2,vals,arr,e,a3,(ji m h0).2 a4,a5⟩
   | ro row=>obtain ⟨a1,vals,arr,e,fr,a3,a4,a5,a6⟩:=h1;exact ⟨a1,vals,arr,e,fr,a3,(ji m h0).2 a4,a5,a6⟩
   | dB kn=>obtain ⟨a1,a2,arr,clock,m0,a3,a4,a5,a6⟩:=h1;exact ⟨a1,a2,arr,clock,m0,a3,a4,(I4 m h0).2 a5,a6⟩
  ·cases hs
theorem zpD {ρ:Val} (m:Nat→Bool) {a:AV} {v:Value} {j:J} (hs:a.small=true) (hx:a.exact=true) (h:R (ρ.mark m) j a v):v=a.val ρ (dZ j):=uN hx ((lY m hs).1 h)
def jM (P:Program) (ρ:Val) (w0:World) (K:Nat→Prop) (g:bg) (e:aG):Prop:=
 Enters P e.f∧ ∀(j:J) (w:World) (vals:List Value) (F:Nat→Prop) (n:Nat),RL ρ j e.args vals→(∀k,n≤k→j k=none)→(e.gQ≠0→n=e.base)→(∀b,F b→b<w.heap.size)→w0.heap.size≤w.heap.size→g.fact e.gs (iE j) F w→(∀i,i<w0.heap.size→ ¬K i→w.heap[i]? =w0.heap[i]?)→
   Calls P e.f vals.toArray w fun en w'=> ∃u qs F',en= .returned u∧qs.length=e.gQ∧R ρ (jq j n qs) e.res u∧g.fact e.gs' (iE (jq j n qs)) F' w'∧(∀b,F' b→b<w'.heap.size∧(F b∨w.heap.size≤b))∧Mv (fun b=>F b∧(w0.heap.size≤b∨K b)) w w'
def Ei (P:Program) (ρ:Val) (w0:World) (K:Nat→Prop) (g:bg):List aG→Prop
 | [] => True
 | e::l=>jM P ρ w0 K g e∧Ei P ρ w0 K g l
def zag:List aG→Bool
 | [] => true
 | e::l=>match AV.bK e.args,e.res.small with|true,true=>zag l|_,_=>false
theorem Gs {P:Program} {ρ:Val} {w0:World} {K:Nat→Prop} {g:bg} (m:Nat→Bool): ∀ {l:List aG},zag l=true→Ei P ρ w0 K g l→ ∀e∈l,MI P (ρ.mark m) (iT w0 K g) e
 | [], _,_,e,h=>by cases h
 | e0::l,hs,ho,e,h=>by
  unfold zag at hs;split at hs
  case h_2=>cases hs
  rename_i h1 h2;rcases yad.1 h with rfl|h
  ·refine zAx ho.1.1 fun j w vals F n hv hn hb hF hsz hf hold=> ?_;refine yaq (ho.1.2 j w vals F n ((ji m h1).1 hv) hn hb hF hsz hf hold) fun en w' he=> ?_;obtain ⟨u,qs,F',e1,e2,e3,e4⟩:=he;exact ⟨u,qs,F',e1,e2,(lY m h2).2 e3,e4⟩
  ·exact Gs m hs ho.2 e h
theorem Ww {P:Program} {ρ:Val} {w0:World} {K:Nat→Prop} {g:bg} {f:FuncId} {args:List AV} {gs base:Nat} {res:AV} (he:Enters P f)
  (h: ∀(j:J) (w:World) (vals:List Value) (F:Nat→Prop),RL ρ j args vals→g.fact gs (iE j) F w→Calls P f vals.toArray w fun en w'=> ∃u,en= .returned u∧R ρ j res u∧Below w.heap.size w w'):
  jM P ρ w0 K g ⟨f,args,gs,base,0,res,gs⟩:=by
 refine ⟨he,fun j w vals F n hv hn _ hF hsz hfact _=> ?_⟩;refine yaq (h j w vals F hv hfact) fun en w' he'=> ?_;obtain ⟨u,rfl,h1,h2⟩:=he';refine ⟨u,[],F,rfl,rfl,by rw [Jh];exact h1,?_,fun b hb=>⟨yae (hF b hb) h2.size,.inl hb⟩,Mv.of_below h2⟩;rw [Jh];exact g.loc _ _ _ _ _ _ hfact (fun _ _ h=>h) (fun b hb=>h2.block b (hF b hb)) h2.size
theorem zo9 {P:Program} {ρ:Val} {w0:World} {K:Nat→Prop} {g:bg} {f:FuncId} {args:List AV} {gs base gs':Nat} {res:AV} (he:Enters P f)
  (h: ∀(j:J) (w:World) (vals:List Value) (F:Nat→Prop),RL ρ j args vals→g.fact gs (iE j) F w→Calls P f vals.toArray w fun en w'=> ∃u,en= .returned u∧R ρ j res u∧g.fact gs' (iE j) F w'∧Mv (fun b=>F b∧K b) w w'):
  jM P ρ w0 K g ⟨f,args,gs,base,0,res,gs'⟩:=by
 refine ⟨he,fun j w vals F n hv hn _ hF hsz hfact _=> ?_⟩;refine yaq (h j w vals F hv hfact) fun en w' he'=> ?_;obtain ⟨u,rfl,h1,h2,h3⟩:=he';refine ⟨u,[],F,rfl,rfl,by rw [Jh];exact h1,by rw [Jh];exact h2,fun b hb=>⟨yae (hF b hb) h3.size,.inl hb⟩,h3.mono fun b hb=>⟨hb.1,.inr hb.2⟩⟩
def Row (w:World) (L:Loc) (vals:List Value):Prop:= ∃arr e fr,w.heap[L.blk]? =some (.cells arr e fr)∧ ∀(i:Nat) (y:Value),vals[i]? =some y→arr[L.off+i]? =some y
def Own (w:World) (b:Nat) (vals:List Value):Prop:= ∃(arr:Array Value) (e:TypeId),w.heap[b]? =some (.cells arr e (0,0))∧ ∀(i:Nat) (y:Value),vals[i]? =some y→arr[i]? =some y
def Ac:List (Nat×List AV)→Bool
 | [] => true
 | r::l=>match AV.kS r.2,AV.bK r.2 with|true,true=>Ac l|_,_=>false
def Ii:List (AV×Option AV)→Bool
 | [] => true
 | e::l=>match e.1.exact,(match e.2 with|none=>true|some a=>a.exact) with|true,true=>Ii l|_,_=>false
def Af:List (Nat×List (AV×Option AV))→Bool
 | [] => true
 | r::l=>match Ii r.2,Dp r.2 with|true,true=>Af l|_,_=>false
def dh:List Leaf→Bool
 | [] => true
 | l::r=>match l.v.exact,l.v.small,Ac l.rows,Af l.maps with|true,true,true,true=>dh r|_,_,_,_=>false
def intOf:Value→Int
 | .int _ n=>n
 | _=>0
def uD (ρ:Val) (lc:Nat→Loc):List (AV×Option AV)→List (Int×Option Value)
 | [] => []
 | e::l=>(intOf (e.1.val ρ lc),e.2.map (AV.val ρ lc))::uD ρ lc l
theorem Ub {ρ:Val} {j:J}: ∀ {l:List (AV×Option AV)} {m:List (Int×Option Value)},Ii l=true→RX ρ j l m→m=uD ρ (dZ j) l
 | [], _,_,r=>r
 | e::l,_,h,r=>by
  obtain ⟨x,o,k,rfl,g1,g2,g3⟩:=r;unfold Ii at h;split at h
  case h_2=>cases h
  rename_i h1 h2;unfold uD;rw [Ub h g3,←uN h1 g1];cases he:e.2 with
  | none=>rw [he] at g2;have g2:o=none:=g2;rw [g2];rfl
  | some a=>
   rw [he] at g2 h2;obtain ⟨v,rfl,g4⟩:=g2;rw [uN h2 g4];rfl
def Jj (ρ:Val) (j:J) (K:Nat→Prop) (w0 w:World):List (Nat×List AV)→Prop
 | [] => True
 | r::l=>(∀L,j r.1=some L→Row w L (AV.aI ρ (dZ j) r.2)∧((w0.heap.size≤L.blk∨K L.blk)→L.off=0→Own w L.blk (AV.aI ρ (dZ j) r.2)))∧Jj ρ j K w0 w l
def P8 (ρ:Val) (j:J) (w0 w:World):List (Nat×List (AV×Option AV))→Prop
 | [] => True
 | r::l=>(∀L,j r.1=some L→ ∃arr clock dm eU,w.heap[L.blk]? =some (.map arr clock)∧w0.heap[L.blk]? =some (.map dm eU)∧(jV arr∧lG arr clock)∧ ∀k,dz arr k=nG (dz dm) (uD ρ (dZ j) r.2) k)∧P8 ρ j w0 w l
theorem Gh: ∀ {ls:List Leaf} {i:Nat} {l:Leaf},dh ls=true→ls[i]? =some l→l.v.exact=true∧l.v.small=true∧Ac l.rows=true∧Af l.maps=true
 | [], _,_,_,h=>by cases h
 | x::r,i,l,hx,h=>by
  unfold dh at hx;split at hx
  case h_2=>cases hx
  rename_i h1 h2 h3 h4;cases i with
  | zero=>cases h;exact ⟨h1,h2,h3,h4⟩
  | succ i=>exact Gh hx (by simpa using h)
theorem ZK {ρ:Val} {m:Nat→Bool} {j:J} {x:Cx} {K:Nat→Prop} {H:Heap} {w:World} (hxw: ∀b,x.own b↔(x.w.heap.size≤b∨K b)) (hi:Inv (ρ.mark m) x j H w): ∀ {rows:List (Nat×List AV)},Ac rows=true→oH H rows=true→Jj ρ j K x.w w rows
 | [], _,_=>trivial
 | r::l,hx,ha=>by
  unfold Ac at hx;split at hx
  case h_2=>cases hx
  rename_i h1 h2;unfold oH at ha;split at ha
  case h_2=>cases ha
  rename_i h3 _;refine ⟨fun L hL=> ?_,ZK hxw hi hx ha⟩;obtain ⟨vals,arr,e,fr,g1,g2,g3,_,g5⟩:=hi.FI hL h3;have hv:=sG h1 ((ji m h2).1 g2);rw [hv] at g3;refine ⟨⟨arr,e,fr,g1,g3⟩,fun ho h0=> ?_⟩;have:=g5 ((hxw _).2 ho);subst this;exact ⟨arr,e,g1,fun i y hy=>by have:=g3 i y hy;rwa [h0,yau] at this⟩
theorem zoE {ρ:Val} {m:Nat→Bool} {j:J} {x:Cx} {H:Heap} {w:World} (hi:Inv (ρ.mark m) x j H w): ∀ {maps:List (Nat×List (AV×Option AV))},Af maps=true→yu H maps=true→P8 ρ j x.w w maps
 | [], _,_=>trivial
 | r::l,hx,ha=>by
  unfold Af at hx;split at hx
  case h_2=>cases hx
  rename_i h1 h2;unfold yu at ha;split at ha
  case h_2=>cases ha
  rename_i h3;refine ⟨fun L hL=> ?_,zoE hi hx ha⟩;obtain ⟨arr,clock,dm,eU,m1,g1,g2,g3,g4,g5⟩:=hi.abe hL h3;have hv:=Ub h1 ((I4 m h2).1 g4);rw [hv] at g5;exact ⟨arr,clock,dm,eU,g1,g2,g3,g5⟩
mutual
def AV.names:AV→List Nat
 | .ptr n _=> [n]
 | .sl n _ _ _=> [n]
 | .map n=> [n]
 | .opq n _=> [n]
 | .func _ a b=>AV.mQ a++AV.mQ b
 | .iface _ v=>AV.names v
 | .agg l=>AV.mQ l
 | .ay l=>AV.mQ l
 | _=> []
def AV.mQ:List AV→List Nat
 | [] => []
 | a::l=>AV.names a++AV.mQ l
end
mutual
theorem Lu {ρ:Val} {j:J}: ∀ {a:AV} {v:Value},R ρ j a v→ ∀n∈a.names,j n=some (dZ j n)
 | .bool _,_,_,n,h=>by cases h
 | .int _ _,_,_,n,h=>by cases h
 | .str _,_,_,n,h=>by cases h
 | .jm,_,_,n,h=>by cases h
 | .ptr m o,_,r,n,h=>by
  obtain ⟨L,e,_⟩:=r;have h:n∈ [m]:=h;rw [yaD] at h;subst h;rw [bE e];exact e
 | .cO,_,_,n,h=>by cases h
 | .sl m _ _ _,_,r,n,h=>by
  obtain ⟨L,e,_⟩:=r;have h:n∈ [m]:=h;rw [yaD] at h;subst h;rw [bE e];exact e
 | .emp,_,_,n,h=>by cases h
 | .oz _,_,_,n,h=>by cases h
 | .mV,_,_,n,h=>by cases h
 | .kI,_,_,n,h=>by cases h
 | .map m,_,r,n,h=>by
  obtain ⟨L,e,_⟩:=r;have h:n∈ [m]:=h;rw [yaD] at h;subst h;rw [bE e];exact e
 | .func f a b,_,r,n,h=>by
  obtain ⟨l,m,_,h1,h2⟩:=r;have h:n∈AV.mQ a++AV.mQ b:=h;rcases yaR.1 h with h|h
  ·exact vI h1 n h
  ·exact vI h2 n h
 | .lT,_,_,n,h=>by cases h
 | .mR,_,_,n,h=>by cases h
 | .iface t x,_,r,n,h=>by obtain ⟨y,_,h1⟩:=r;exact Lu h1 n h
 | .agg l,_,r,n,h=>by obtain ⟨y,_,h1⟩:=r;exact vI h1 n h
 | .ay l,_,r,n,h=>by obtain ⟨y,_,h1⟩:=r;exact vI h1 n h
 | .cst _ _,_,_,n,h=>by cases h
 | .opq m _,_,r,n,h=>by
  obtain ⟨⟨L,e,_⟩,_⟩:=r;have h:n∈ [m]:=h;rw [yaD] at h;subst h;rw [bE e];exact e
 | .iM _ _,_,_,n,h=>by cases h
 | .junk,_,_,n,h=>by cases h
 | .sx _ _ _ _,_,_,n,h=>by cases h
theorem vI {ρ:Val} {j:J}: ∀ {l:List AV} {m:List Value},RL ρ j l m→ ∀n∈AV.mQ l,j n=some (dZ j n)
 | [], _,_,n,h=>by cases h
 | a::l,_,r,n,h=>by
  obtain ⟨v,m,_,h1,h2⟩:=r;have h:n∈AV.names a++AV.mQ l:=h;rcases yaR.1 h with h|h
  ·exact Lu h1 n h
  ·exact vI h2 n h
end
def OM (j:J):List (Nat×List AV)→Prop
 | [] => True
 | r::l=>(∀L,j r.1=some L→ ∀n∈AV.mQ r.2,j n=some (dZ j n))∧OM j l
theorem Xo {ρ:Val} {j:J} {x:Cx} {H:Heap} {w:World} (hi:Inv ρ x j H w): ∀ {rows:List (Nat×List AV)},oH H rows=true→OM j rows
 | [], _=>trivial
 | r::l,ha=>by
  unfold oH at ha;split at ha
  case h_2=>cases ha
  rename_i h3 _;refine ⟨fun L hL=> ?_,Xo hi ha⟩;obtain ⟨vals,arr,e,fr,g1,g2,_⟩:=hi.FI hL h3;exact vI g2
theorem xU {H:Heap}: ∀ {l:List (Nat×List AV)},oH H l=true→ ∀ {r:Nat×List AV},r∈l→wI H r.1 r.2=true
 | [], _,_,h=>by cases h
 | x::l,ha,r,h=>by
  unfold oH at ha;split at ha
  case h_2=>cases ha
  rename_i h1 _;rcases yad.1 h with rfl|h
  ·exact h1
  ·exact xU ha h
theorem X8 {H:Heap}: ∀ {l:List (Nat×List (AV×Option AV))},yu H l=true→ ∀ {r:Nat×List (AV×Option AV)},r∈l→Bb H r.1 r.2=true
 | [], _,_,h=>by cases h
 | x::l,ha,r,h=>by
  unfold yu at ha;split at ha
  case h_2=>cases ha
  rename_i h1;rcases yad.1 h with rfl|h
  ·exact h1
  ·exact X8 ha h
structure wO (ρ:Val) (w0:World) (K:Nat→Prop) (g:bg) (bl:List (Nat×Nat)) (l:Leaf) (e:Ending) (w':World) (j:J):Prop where
 ret:e= .returned (l.v.val ρ (dZ j))
 sub:Sub (aT bl) j
 rows:Jj ρ j K w0 w' l.rows
 maps:P8 ρ j w0 w' l.maps
 names: ∀n∈l.v.names,j n=some (dZ j n)
 LX:OM j l.rows
 apart: ∀r∈l.rows,∀r'∈l.rows,r.1≠r'.1→ ∀L L',j r.1=some L→j r'.1=some L'→L.blk=L'.blk→ ¬(w0.heap.size≤L.blk∨K L.blk)
 acr: ∀r∈l.rows,∀r'∈l.maps,∀L L',j r.1=some L→j r'.1=some L'→L.blk≠L'.blk
 mine: ∀r∈l.rows,∀L,j r.1=some L→Mine j L.blk
 fresh: ∀n∈l.own,∀L,j n=some L→(w0.heap.size≤L.blk∨K L.blk)∧L.off=0
 eY:g.G l.gs j w'
 mv:Mv K w0 w'
def IQ (n:Nat):List (List (SB×Bool)×Nat)→List (List (SB×Bool)×Nat)
 | [] => []
 | p::l=>(p.1.drop n,p.2)::IQ n l
def Ob.ways (asm:List (SB×Bool)) (o:Ob):Option (List (List (SB×Bool)×Nat)):=
 match o.paths asm with
 | some l=>some (IQ asm.length l)
 | none=>none
theorem Gu {n:Nat}: ∀ {l:List (List (SB×Bool)×Nat)} {p:List (SB×Bool)×Nat},p∈l→(p.1.drop n,p.2)∈IQ n l
 | [], _,h=>by cases h
 | q::l,p,h=>by
  unfold IQ;rcases yad.1 h with rfl|h
  ·exact yav ..
  ·exact yam _ (Gu h)
theorem OL {ρ:Val} {w:World} {K:Nat→Prop} {g:bg} {bl:List (Nat×Nat)} {l:Leaf} {m:Nat→Bool} {H H':Heap} {j':J} {u:Value} {v:AV} {w':World}
  (x1:l.v.exact=true) (x2:l.v.small=true) (x3:Ac l.rows=true) (x4:Af l.maps=true)
  (h1:R (ρ.mark m) j' v u) (h2:Inv (ρ.mark m) (iT w K g) j' H' w') (h3:St (aT bl) H j' H') (h4:l.fits v H'=true):wO ρ w K g bl l (.returned u) w' j':=by
 obtain ⟨k1,k2,k3,k4,k5⟩:=zFp h4;subst k1;refine ⟨by rw [zpD m x2 x1 h1],h3.sub,ZK (x:=iT w K g) (fun b=>yb7) h2 x3 k2,zoE h2 x4 k3,Lu h1,Xo h2 k2,fun r hr r' hr' hne L L' hL hL' hb=>h2.abB hne (VO k2 hr hr' hne) hL hL' (xU k2 hr) (xU k2 hr') hb,
  fun r hr r' hr' L L' hL hL'=>h2.abA hL hL' (xU k2 hr) (X8 k3 hr'),fun r hr L hL=> ?_,fun n hn L hL=> ?_,?_,h2.fr.os,h2.fr.tape,h2.fr.out,h2.fr.size,h2.fr.old⟩
 ·obtain ⟨_,_,_,_,_,_,h5,_⟩:=Ap (xU k2 hr);exact ⟨r.1,L,hL,h2.kZ hL h5,rfl⟩
 ·obtain ⟨v,e,c,sh,h5⟩:=WR k5 hn;refine ⟨?_,h2.kW n L v e c sh hL h5⟩;obtain ⟨o,h6,h7⟩:=h2.obj n L hL;rw [h5] at h6;cases h6;have h8:=h7.2.1;rw [yaj rfl] at h8;exact h8
 ·rw [←k4];exact h2.eY
theorem zap {P:Program} {ρ:Val} {w:World} {K:Nat→Prop} {g:bg} {bl:List (Nat×Nat)} {iN:List Sh} {gs:Nat} {nC:List aG} {n:Nat} {f:FuncId} {args:List AV} {vals:List Value} {ls:List Leaf} {asm:List (SB×Bool)} {ps:List (List (SB×Bool)×Nat)}
  (hmo:P.follows .mixedOrders=true)
  (h:(ev P (bB nC) n (.call f args (bn gs iN) (cK ls 0))).ways asm=some ps)
  (hs:(bD iN&&zag nC&&AV.bK args&&dh ls)=true)
  (hK: ∀b,K b→b<w.heap.size) (ho:qj ρ (aT bl) (iT w K g) bl iN) (hap:apart bl iN) (hG:g.G gs (aT bl) w) (he:Ei P ρ w K g nC) (ha:RL ρ (aT bl) args vals) (ht:Told ρ asm):
  Calls P f vals.toArray w fun e w'=> ∃p∈ps,Told ρ p.1∧ ∃l,ls[p.2]? =some l∧ ∃j,wO ρ w K g bl l e w' j:=by
 simp only [ybe] at hs;obtain ⟨⟨⟨s1,s2⟩,s3⟩,s4⟩:=hs;unfold Ob.ways at h;cases hps:(ev P (bB nC) n (.call f args (bn gs iN) (cK ls 0))).paths asm with
 | none=>rw [hps] at h;cases h
 | some ps0=>
 rw [hps] at h;cases h;have h:=hps;refine yaq (zAi (x:=iT w K g) hmo (fun m=>Oj (Gs m s2 he)) (fun m=>Oe hK (GU m s1 ho) hap hG) (fun m=>(ji m s3).2 ha) ht h) fun e w' hh=> ?_;obtain ⟨p,hp,hto,l,hl,m,u,v,j',H',rfl,h1,h2,h3,h4⟩:=hh;obtain ⟨x1,x2,x3,x4⟩:=Gh s4 hl;exact ⟨(p.1.drop asm.length,p.2),Gu hp,fun c hc=>hto c (ybi hc),l,hl,j',OL x1 x2 x3 x4 h1 h2 h3 h4⟩
end Go.Dw
namespace Go.Dw
open Go.RowKit
def TA (i:Nat):SE:= .aQ [⟨i,0,255,0,8,0⟩] 0
def aK (i:Nat):SE:= .aQ [⟨i,0,65535,0,16,0⟩] 0
def aW (i:Nat):SE:= .aQ [⟨i,0,4294967295,0,32,0⟩] 0
def aj (i:Nat):SE:= .aQ [⟨i,0,18446744073709551615,0,64,0⟩] 0
def aF (i:Nat):SE:= .aQ [⟨i,1,32768,0,16,0⟩] 0
def ah (i:Nat):SE:= .aQ [⟨i,0,4611686018427387903,0,62,0⟩] 0
theorem Ar {ρ:Val} {i lo hi n:Nat} (h0:(lo:Int)≤ρ.i i) (h1:ρ.i i≤(hi:Int)) (h2:hi<2^n):SE.den ρ (.aQ [⟨i,lo,hi,0,n,0⟩] 0)=ρ.i i:=by
 obtain ⟨x,hx⟩:=yaT (Int.le_trans (ycU lo) h0);simp only [SE.den,aN,aO.den,hx,ya0,ycr,ycS,ydg];rw [hx] at h0 h1;have e:max lo (min x hi)=x:=by omega
 rw [e,ybd (by omega)];rfl
theorem zFx {ρ:Val} {i:Nat} (h0:0≤ρ.i i) (h1:ρ.i i<256):(TA i).den ρ=ρ.i i:=Ar (by omega) (by omega) (by decide)
theorem jC {ρ:Val} {i:Nat} (h0:0≤ρ.i i) (h1:ρ.i i<65536):(aK i).den ρ=ρ.i i:=Ar (by omega) (by omega) (by decide)
theorem lU {ρ:Val} {i:Nat} (h0:0≤ρ.i i) (h1:ρ.i i<4294967296):(aW i).den ρ=ρ.i i:=Ar (by omega) (by omega) (by decide)
theorem fM {ρ:Val} {i:Nat} (h0:0≤ρ.i i) (h1:ρ.i i<18446744073709551616):(aj i).den ρ=ρ.i i:=Ar (by omega) (by omega) (by decide)
theorem uf {ρ:Val} {i:Nat} (h0:1≤ρ.i i) (h1:ρ.i i≤32768):(aF i).den ρ=ρ.i i:=Ar (by omega) (by omega) (by decide)
theorem dK {ρ:Val} {i:Nat} (h0:0≤ρ.i i) (h1:ρ.i i<4611686018427387904):(ah i).den ρ=ρ.i i:=Ar (by omega) (by omega) (by decide)
theorem aC {ρ:Val} {n:Int}:SE.den ρ (.lit n)=n:=rfl
theorem gV {ρ:Val} {i:Nat}:SE.den ρ (.var i)=ρ.i i:=rfl
theorem den_add {ρ:Val} {k:IntKind} {a b:SE}:SE.den ρ (.bin .add k a b)=k.wrap (a.den ρ+b.den ρ):=rfl
theorem iG {ρ:Val} {k:IntKind} {a b:SE}:SE.den ρ (.bin .sub k a b)=k.wrap (a.den ρ-b.den ρ):=rfl
theorem den_mul {ρ:Val} {k:IntKind} {a b:SE}:SE.den ρ (.bin .mul k a b)=k.wrap (a.den ρ*b.den ρ):=rfl
theorem Ip {ρ:Val} {k:IntKind} {a:SE}:SE.den ρ (.wrap k a)=k.wrap (a.den ρ):=rfl
theorem jd {ρ:Val} {b:Bool}:SB.den ρ (.lit b)=b:=rfl
theorem bR {ρ:Val} {i:Nat}:SB.den ρ (.var i)=ρ.b i:=rfl
theorem Jq {ρ:Val} {b:SB}:SB.den ρ (.not b)= !(b.den ρ):=rfl
theorem iI {ρ:Val} {a b:SE}:SB.den ρ (.cmp .eql a b)=(a.den ρ==b.den ρ):=rfl
theorem mY {ρ:Val} {a b:SE}:SB.den ρ (.cmp .neq a b)=(a.den ρ !=b.den ρ):=rfl
theorem fF {ρ:Val} {a b:SE}:SB.den ρ (.cmp .lss a b)=decide (a.den ρ<b.den ρ):=rfl
theorem wF {ρ:Val} {a b:SE}:SB.den ρ (.cmp .leq a b)=decide (a.den ρ≤b.den ρ):=rfl
theorem gZ {ρ:Val} {a b:SE}:SB.den ρ (.cmp .gtr a b)=decide (a.den ρ>b.den ρ):=rfl
theorem je {ρ:Val} {a b:SE}:SB.den ρ (.cmp .geq a b)=decide (a.den ρ≥b.den ρ):=rfl
theorem cZ {k:Int} (h:0≤k) (h':k<18446744073709551616):IntKind.wrap .u64 k=k:=by unfold IntKind.wrap;simp [IntKind.signed,IntKind.bits];omega
theorem Py {k:Int} (h:0≤k) (h':k<4294967296):IntKind.wrap .u32 k=k:=by unfold IntKind.wrap;simp [IntKind.signed,IntKind.bits];omega
theorem yE {k:Int} (h:0≤k) (h':k<65536):IntKind.wrap .u16 k=k:=by unfold IntKind.wrap;simp [IntKind.signed,IntKind.bits];omega
theorem Hy (k:Int):IntKind.wrap .u16 k=k%65536:=by unfold IntKind.wrap;simp [IntKind.signed,IntKind.bits]
theorem ZP (k:Int):IntKind.wrap .u64 k=k%18446744073709551616:=by unfold IntKind.wrap;simp [IntKind.signed,IntKind.bits]
theorem gy {k:Int} (h: -9223372036854775808≤k) (h':k<9223372036854775808):IntKind.wrap .i64 k=k:=by
 simp only [IntKind.wrap,IntKind.bits,IntKind.signed];simp;omega
theorem af {ρ:Val} {j:J} {a:AV} {l:List AV} {v:Value} {m:List Value} (h:R ρ j a v) (h':RL ρ j l m):RL ρ j (a::l) (v::m):=⟨v,m,rfl,h,h'⟩
theorem ai {ρ:Val} {j:J} {k:IntKind} {n:SE} {x:Int} (h:n.den ρ=x):R ρ j (.int k n) (.int k x):=by show Value.int k x= .int k (n.den ρ);rw [h]
theorem aU {ρ:Val} {j:J} {b:SB} {x:Bool} (h:b.den ρ=x):R ρ j (.bool b) (.bool x):=by show Value.bool x= .bool (b.den ρ);rw [h]
theorem gY {ρ:Val} {j:J} {i:Nat} {v:Value} (h:ρ.v i=v) (h1:v.oneCell'=true):R ρ j (.cst i none) v:=⟨h.symm,h1,fun _ h=>by cases h⟩
theorem Vq {ρ:Val} {j:J} {n:Nat} {L:Loc} (h:j n=some L):R ρ j (.map n) (.map (some L.blk)):=⟨L,h,rfl⟩
theorem gM {ρ:Val} {j:J} {n o:Nat} {L:Loc} (h:j n=some L):R ρ j (.ptr n o) (.pointer (some ⟨L.blk,L.off+o,none⟩)):=⟨L,h,rfl⟩
theorem dO {ρ:Val} {j:J} {a:List AV} {l:List Value} (h:RL ρ j a l):R ρ j (.agg a) (.agg l.toArray):=⟨l,rfl,h⟩
theorem kM {ρ:Val} {j:J} {a:List AV} {l:List Value} (h:RL ρ j a l):R ρ j (.ay a) (.tuple l.toArray):=⟨l,rfl,h⟩
theorem gF {ρ:Val} {w0:World} {K:Nat→Prop} {g:bg} {bl:List (Nat×Nat)} {l:Leaf} {e:Ending} {w':World} {j:J} (h:wO ρ w0 K g bl l e w' j) (hK: ∀b,¬K b):Below w0.heap.size w0 w':=
 ⟨h.mv.os,h.mv.tape,h.mv.output,h.mv.size,fun k hk=>h.mv.block k hk (hK k)⟩
theorem jK {w:World} {b:Nat} {vals:List Value} (h:Own w b vals) {i:Nat} {v:Value} (hv:vals[i]? =some v):w.cell? ⟨b,i,none⟩=some v:=by
 obtain ⟨arr,e,h1,h2⟩:=h;simp [World.cell?,h1,h2 i v hv]
theorem Eo {w:World} {b:Nat} {vals:List Value} (h:Own w b vals):b<w.heap.size:=by
 obtain ⟨arr,e,h1,_⟩:=h;exact (yap.1 h1).1
theorem Own.kept {w w':World} {b:Nat} {vals:List Value} (h:Own w b vals) (e:w'.heap[b]? =w.heap[b]?):Own w' b vals:=by
 obtain ⟨arr,t,h1,h2⟩:=h;exact ⟨arr,t,e.trans h1,h2⟩
theorem fo {k:Nat} {j:J} {w:World}:bg.none.G k j w:=⟨fun _=>False,fun _ h=>h.elim,trivial⟩
end Go.Dw
namespace Go.Dw
theorem aR {ρ:Val}:Told ρ []↔True:=⟨fun _=>trivial,fun _ c h=>by cases h⟩
theorem aH {ρ:Val} {c:SB} {b:Bool} {l:List (SB×Bool)}:Told ρ ((c,b)::l)↔c.den ρ=b∧Told ρ l:=
 ⟨fun h=>⟨h (c,b) (by simp),fun x hx=>h x (by simp [hx])⟩,fun h x hx=>by
  rcases yad.1 hx with rfl|hx
  ·exact h.1
  ·exact h.2 x hx⟩
def cB (is:List Int) (bs:List Bool) (vs:List Value):Val:=⟨fun i=>is.getD i 0,fun i=>bs.getD i false,fun i=>vs.getD i (.bool false)⟩
end Go.Dw
namespace Go.Dw
end Go.Dw
namespace Go.Dw
open Go.RowKit
theorem wu {ρ:Val} {j:J} {a:List AV} {u v:List Value} (hx:AV.kS a=true) (h:RL ρ j a u) (k:RL ρ j a v):u=v:=(sG hx h).trans (sG hx k).symm
def zyg (P:Program) (f:FuncId):Bool:=
  match P.funcs[f]? with
  | some fn => (match fn.body with | some _ => decide (fn.name ≠ "runtime.NumGoroutine") | none => false)
  | none=>false
theorem enters_of {P:Program} {f:FuncId} (h:zyg P f=true):Enters P f:=by
 unfold zyg at h;split at h
 case h_2=>cases h
 rename_i fn hf;split at h
 case h_2=>cases h
 rename_i c hc;exact ⟨fn,c,hf,hc,ybQ h⟩
theorem iQ {P:Program} {ρ:Val} {w0:World} {K:Nat→Prop} {g:bg} {f:FuncId} {args:List AV} {gs base:Nat} {res:AV} (he:Enters P f) (hx:AV.kS args=true) (V:List Value) (U:Value)
  (ha: ∀j,RL ρ j args V) (hr: ∀j,R ρ j res U) (h: ∀w F q,g.fact gs q F w→Calls P f V.toArray w fun en w'=>en= .returned U∧Below w.heap.size w w'):jM P ρ w0 K g ⟨f,args,gs,base,0,res,gs⟩:=
 Ww he fun j w vals F hv hf=>by
  rw [wu hx hv (ha j)];exact yaq (h w F _ hf) fun en w' hh=>⟨U,hh.1,hr j,hh.2⟩
theorem zo8 {P:Program} {ρ:Val} {w0:World} {K:Nat→Prop} {g:bg} {f:FuncId} {args:List AV} {gs base gs':Nat} {res:AV} (he:Enters P f) (hx:AV.kS args=true) (V:List Value) (U:Value)
  (ha: ∀j,RL ρ j args V) (hr: ∀j,R ρ j res U) (h: ∀w F q,g.fact gs q F w→Calls P f V.toArray w fun en w'=>en= .returned U∧g.fact gs' q F w'∧Mv (fun b=>F b∧K b) w w'):jM P ρ w0 K g ⟨f,args,gs,base,0,res,gs'⟩:=
 zo9 he fun j w vals F hv hf=>by
  rw [wu hx hv (ha j)];exact yaq (h w F _ hf) fun en w' hh=>⟨U,hh.1,hr j,hh.2⟩
theorem mE {ρ:Val} {w0:World} {K:Nat→Prop} {g:bg} {bl:List (Nat×Nat)} {l0:Leaf} {e:Ending} {w':World} {pre:List (SB×Bool)}
  (h: ∃p∈ [(pre,0)],Told ρ p.1∧ ∃l,[l0][p.2]? =some l∧ ∃j,wO ρ w0 K g bl l e w' j):Told ρ pre∧ ∃j,wO ρ w0 K g bl l0 e w' j:=by
 obtain ⟨p,hp,ht,l,hl,j,he⟩:=h;rw [yaD] at hp;subst hp;cases hl;exact ⟨ht,j,he⟩
end Go.Dw
namespace Go.Proofs
open Go.Dw Go.RowKit
structure Tryz.Rg where
 n:Int
 d:Int
 v:Int
 c:Int
end Go.Proofs
namespace Go.Dw
open Go.RowKit
structure lX where
 test:SB
 ex:Ex
 slots:List (Nat×AV)
 gs:Nat
structure dD where
 p:List Nat
 n:Nat
 gs:Nat
 slots:List (Nat×AV)
 keep:List Nat
 rows:List (Nat×List AV)
 base:Nat
 gQ:Nat
 ends:List lX
def y7 (env:T AV) (t:Nat):AV:=
 match env.get t with
 | some v=>v
 | none=>jL
def kP:Nat→T AV→T AV
 | 0,t=>t
 | n+1,t=>kP n (t.set n .junk)
def yN (env:T AV):List Nat→T AV→T AV
 | [], t=>t
 | i::l,t=>yN env l (t.set i (y7 env i))
def nJ:List (Nat×AV)→T AV→T AV
 | [], t=>t
 | p::l,t=>nJ l (t.set p.1 p.2)
def I8:List Nat→List Nat→Bool
 | [], [] => true
 | a::l,b::m=>match Nat.beq a b with|true=>I8 l m|false=>false
 | _,_=>false
def zxD:AV→Bool
 | .junk=>false
 | _=>true
def Iy (N:Nat) (env:T AV):List (Nat×AV)→Bool
 | [] => true
 | p::l=>match Nat.blt p.1 N,AV.beq (y7 env p.1) p.2,zxD p.2 with|true,true,true=>Iy N env l|_,_,_=>false
def fI (N:Nat):List (Nat×AV)→Bool
 | [] => true
 | p::l=>match Nat.blt p.1 N with|true=>fI N l|false=>false
def Jb (N:Nat):List Nat→Bool
 | [] => true
 | p::l=>match Nat.blt p N with|true=>Jb N l|false=>false
def Jo (N:Nat):List lX→Bool
 | [] => true
 | e::l=>match fI N e.slots with|true=>Jo N l|false=>false
def dD.fits (e:dD) (p:List Nat) (N:Nat) (env:T AV) (H:Heap):Bool:=
 match I8 p e.p,Nat.beq N e.n with
 | false,_=>false
 | true,false=>false
 | true,true=>match Iy N env e.slots,Jb N e.keep,Jo N e.ends,Nat.beq H.gs e.gs with
  | true,true,true,true=>(match env.get bM,Nat.ble N bM,oH H e.rows with
   | none,true,true=>(match e.gQ with
    | 0=>true
    | _+1=>Nat.beq H.nx e.base)
   | _,_,_=>false)
  | _,_,_,_=>false
def dD.ent (e:dD) (d:lX):aG:=⟨0,[],e.gs,e.base,e.gQ,jL,d.gs⟩
def dD.env (e:dD) (d:lX) (N:Nat) (env:T AV):T AV:=nJ d.slots (yN env e.keep (kP N .leaf))
def dD.ans (e:dD) (N:Nat) (env:T AV) (H:Heap):List lX→EF
 | [] => []
 | d::l=>(d.test,d.ex,e.env d N env,(e.ent d).heap H)::e.ans N env H l
def PN:List dD→oQ
 | [], _,_,_,_=>none
 | e::l,p,N,env,H=>match e.fits p N env H with
  | true=>some (e.ans N env H e.ends)
  | false=>PN l p N env H
def fK (l:List dD):oQ:=fun p N env H=>
 match p with
 | 2::_=>none
 | p=>PN l p N env H
def Ey (ρ:Val) (l:List lX):Option lX:=uH ρ (l.map fun d=>(d.test,d))
def zFT (P:Program) (ρ:Val) (w0:World) (K:Nat→Prop) (g:bg) (e:dD):Prop:=
 ∀ c,bJ P e.p=c→ ∀(j:J) (a:Act) (w:World) (F:Nat→Prop) (n:Nat),a.tmps.size=e.n→a.defers= []→(∀s∈e.slots,s.1<e.n∧R ρ j s.2 (a.tmps.getD s.1 undef))→(∀r∈e.rows,∀L,j r.1=some L→ ¬F L.blk∧ ∃vals,RL ρ j r.2 vals∧Row w L vals)→
  (∀ k,n≤k→j k=none)→(e.gQ≠0→n=e.base)→(∀b,F b→b<w.heap.size)→w0.heap.size≤w.heap.size→g.fact e.gs (iE j) F w→(∀i,i<w0.heap.size→ ¬K i→w.heap[i]? =w0.heap[i]?)→
  c.wp P (fun ex a' w'=> ∃d qs F',Ey ρ e.ends=some d∧ex=yZ d.ex∧a'.tmps.size=e.n∧a'.defers= []∧(∀t∈e.keep,a'.tmps.getD t undef=a.tmps.getD t undef)∧qs.length=e.gQ∧
   (∀ s∈d.slots,R ρ (jq j n qs) s.2 (a'.tmps.getD s.1 undef))∧g.fact d.gs (iE (jq j n qs)) F' w'∧(∀b,F' b→b<w'.heap.size∧(F b∨w.heap.size≤b))∧Mv (fun b=>F b∧(w0.heap.size≤b∨K b)) w w') a w
def Jc (P:Program) (ρ:Val) (w0:World) (K:Nat→Prop) (g:bg):List dD→Prop
 | [] => True
 | e::l=>zFT P ρ w0 K g e∧Jc P ρ w0 K g l
def fP:List (Nat×AV)→Bool
 | [] => true
 | s::l=>match s.2.small with|true=>fP l|false=>false
def zdt:List lX→Bool
 | [] => true
 | d::l=>match d.test.small,fP d.slots with|true,true=>zdt l|_,_=>false
def Hf:List (Nat×List AV)→Bool
 | [] => true
 | r::l=>match AV.bK r.2 with|true=>Hf l|false=>false
theorem VN: ∀ {l:List (Nat×List AV)},Hf l=true→ ∀s∈l,AV.bK s.2=true
 | [], _,s,h=>by cases h
 | p::l,hl,s,h=>by
  unfold Hf at hl;split at hl
  ·rename_i hb;rcases yad.1 h with rfl|h
   ·exact hb
   ·exact VN hl s h
  ·cases hl
def fZ:List dD→Bool
 | [] => true
 | e::l=>match fP e.slots,zdt e.ends,Hf e.rows with|true,true,true=>fZ l|_,_,_=>false
theorem CZ: ∀(n:Nat) (t0:T AV) (t:Nat),dI (kP n t0) t=if t<n then .junk else dI t0 t
 | 0,t0,t=>by rw [yai (by omega)];rfl
 | n+1,t0,t=>by
  unfold kP;rw [CZ n,pW];by_cases h:t<n
  ·rw [yaj h,yaj (by omega)]
  ·rw [yai h];by_cases h2:t=n
   ·rw [yaj h2,yaj (by omega)]
   ·rw [yai h2,yai (by omega)]
theorem O3 (env:T AV) (t:Nat):y7 env t=dI env t:=rfl
theorem Nb {env:T AV}: ∀(l:List Nat) (t0:T AV) (t:Nat),(t∈l∧dI (yN env l t0) t=dI env t)∨dI (yN env l t0) t=dI t0 t
 | [], t0,t=> .inr rfl
 | i::l,t0,t=>by
  unfold yN;rcases Nb (env:=env) l (t0.set i (y7 env i)) t with ⟨h1,h2⟩|h
  ·exact .inl ⟨yam _ h1,h2⟩
  ·rw [h,pW];by_cases hi:t=i
   ·rw [yaj hi,O3,hi];exact .inl ⟨yav ..,rfl⟩
   ·rw [yai hi];exact .inr rfl
theorem CW: ∀(l:List (Nat×AV)) (t0:T AV) (t:Nat),(∃v,(t,v)∈l∧dI (nJ l t0) t=v)∨dI (nJ l t0) t=dI t0 t
 | [], t0,t=> .inr rfl
 | p::l,t0,t=>by
  unfold nJ;rcases CW l (t0.set p.1 p.2) t with ⟨v,h1,h2⟩|h
  ·exact .inl ⟨v,yam _ h1,h2⟩
  ·rw [h,pW];by_cases hi:t=p.1
   ·rw [yaj hi];exact .inl ⟨p.2,by rw [hi];exact yav ..,rfl⟩
   ·rw [yai hi];exact .inr rfl
theorem MZ {N:Nat}: ∀ {l:List (Nat×AV)},fI N l=true→ ∀s∈l,s.1<N
 | [], _,s,h=>by cases h
 | p::l,hl,s,h=>by
  unfold fI at hl;split at hl
  ·rename_i hb;rcases yad.1 h with rfl|h
   ·rwa [yaF] at hb
   ·exact MZ hl s h
  ·cases hl
theorem Zn {N:Nat}: ∀ {l:List Nat},Jb N l=true→ ∀s∈l,s<N
 | [], _,s,h=>by cases h
 | p::l,hl,s,h=>by
  unfold Jb at hl;split at hl
  ·rename_i hb;rcases yad.1 h with rfl|h
   ·rwa [yaF] at hb
   ·exact Zn hl s h
  ·cases hl
theorem Zw {N:Nat}: ∀ {l:List lX},Jo N l=true→ ∀d∈l,fI N d.slots=true
 | [], _,s,h=>by cases h
 | p::l,hl,s,h=>by
  unfold Jo at hl;split at hl
  ·rename_i hb;rcases yad.1 h with rfl|h
   ·exact hb
   ·exact Zw hl s h
  ·cases hl
theorem Wi {N:Nat} {env:T AV}: ∀ {l:List (Nat×AV)},Iy N env l=true→ ∀s∈l,s.1<N∧dI env s.1=s.2∧s.2≠ .junk
 | [], _,s,h=>by cases h
 | p::l,hl,s,h=>by
  unfold Iy at hl;split at hl
  ·rename_i hb hv hj;rcases yad.1 h with rfl|h
   ·exact ⟨by rwa [yaF] at hb,by rw [←O3];exact AV.beq_eq hv,fun e=>by rw [e] at hj;cases hj⟩
   ·exact Wi hl s h
  ·cases hl
theorem zov: ∀ {l m:List Nat},I8 l m=true→l=m
 | [], [], _=>rfl
 | a::l,b::m,h=>by
  unfold I8 at h;split at h
  ·rename_i hb;rw [bC hb,zov h]
  ·cases h
 | [], _::_,h=>by cases h
 | _::_,[],h=>by cases h
theorem Gg: ∀ {l:List (Nat×AV)},fP l=true→ ∀s∈l,s.2.small=true
 | [], _,s,h=>by cases h
 | p::l,hl,s,h=>by
  unfold fP at hl;split at hl
  ·rename_i hb;rcases yad.1 h with rfl|h
   ·exact hb
   ·exact Gg hl s h
  ·cases hl
theorem MS: ∀ {l:List lX},zdt l=true→ ∀d∈l,d.test.small=true∧fP d.slots=true
 | [], _,s,h=>by cases h
 | p::l,hl,s,h=>by
  unfold zdt at hl;split at hl
  ·rename_i hb hc;rcases yad.1 h with rfl|h
   ·exact ⟨hb,hc⟩
   ·exact MS hl s h
  ·cases hl
theorem YI {ρ:Val} {α:Type} (e:SB×α) (l:List (SB×α)):uH ρ (e::l)=if e.1.den ρ=true then some e.2 else uH ρ l:=by
 obtain ⟨b,x⟩:=e;show (match b with| .lit true=>some x|b=>if b.den ρ=true then some x else uH ρ l)=_;split
 ·rfl
 ·rfl
theorem YJ {ρ:Val} (e:lX) (l:List lX):Ey ρ (e::l)=if e.test.den ρ=true then some e else Ey ρ l:=YI _ _
theorem zoe {ρ:Val}: ∀ {l:List lX} {d:lX},Ey ρ l=some d→d∈l
 | [], d,h=>by cases h
 | e::l,d,h=>by
  rw [YJ] at h;split at h
  ·cases h;exact yav ..
  ·exact yam _ (zoe h)
theorem zof {ρ:Val} {m:Nat→Bool} {e:dD} {N:Nat} {env:T AV} {H:Heap}: ∀ {l:List lX} {d:lX},zdt l=true→Ey ρ l=some d→uH (ρ.mark m) (e.ans N env H l)=some (d.ex,e.env d N env,(e.ent d).heap H)
 | [], d,_,h=>by cases h
 | e0::l,d,hs,h=>by
  have hs0:=(MS hs e0 (yav ..)).1;unfold zdt at hs;split at hs
  case h_2=>cases hs
  rw [YJ] at h;unfold dD.ans;rw [YI];simp only [SB.jP ρ m _ hs0];split at h
  ·rename_i ht;cases h;rw [yaj ht]
  ·rename_i ht;rw [yai ht];exact zof hs h
theorem Zo {P:Program} {ρ:Val} {w0:World} {K:Nat→Prop} {g:bg} (m:Nat→Bool) {l:List dD} (hs:fZ l=true) (h:Jc P ρ w0 K g l):Ep P (ρ.mark m) (iT w0 K g) (fK l):=by
 refine ⟨fun _ _ _ _=>rfl,fun p N env H r c hc hr j a w hi he=> ?_⟩;unfold fK at hr;split at hr
 ·cases hr
 induction l with
 | nil=>cases hr
 | cons e l ih=>
  unfold fZ at hs;split at hs
  case h_2=>cases hs
  rename_i h1 h2 h3;unfold PN at hr;split at hr
  case h_2=>exact ih hs h.2 hr
  rename_i hf;cases hr;unfold dD.fits at hf;split at hf
  ·cases hf
  ·cases hf
  rename_i hp hN;have hp:=zov hp;have hN:=bC hN;subst hp hN;split at hf
  case h_2=>cases hf
  rename_i f1 f2 f3 f4;split at hf
  case h_2=>cases hf
  rename_i f5 f6 f7;have f4:=bC f4;have f6:=yal f6;have hdf:a.defers= []:=he.eT.none (by unfold dI;rw [f5]);have hG:=hi.eY;rw [f4] at hG;obtain ⟨F,g1,g2⟩:=hG;have hnone: ∀k,H.nx≤k→j k= .none:=fun k hk=>by
   cases hjk:j k with
   | none=>rfl
   | some L=>have:=hi.dom k L hjk;omega
  have hbase:e.gQ≠0→H.nx=e.base:=fun hn=>by
   split at hf
   ·rename_i h0;exact absurd h0 hn
   ·exact bC hf
  have hss:=Gg h1;have hsl: ∀s∈e.slots,s.1<e.n∧R ρ j s.2 (a.tmps.getD s.1 undef):=fun s hs'=>by
   obtain ⟨q1,q2,q3⟩:=Wi f1 s hs';refine ⟨q1,?_⟩;have:=he.get s.1 (by omega);rw [q2] at this;exact (lY m (hss s hs')).1 (this.resolve_left q3)
  have hrw: ∀r∈e.rows,∀L,j r.1=some L→ ¬F L.blk∧ ∃vals,RL ρ j r.2 vals∧Row w L vals:=fun r hr L hL=>by
   have RH:=xU f7 hr;obtain ⟨vals,arr,e',fr,q1,q2,q3,_⟩:=hi.FI hL RH;refine ⟨fun hF=> ?_,vals,(ji m (VN h3 r hr)).1 q2,arr,e',fr,q1,q3⟩;obtain ⟨_,_,_,_,_,_,h5,_⟩:=Ap RH;exact (g1 _ hF).2 ⟨r.1,L,hL,hi.kZ hL h5,rfl⟩
  refine ya3 (h.1 c hc j a w F H.nx he.size hdf hsl hrw hnone hbase (fun b hF=>(g1 b hF).1) hi.fr.size g2 hi.fr.old) fun ex a' w' hh=> ?_;obtain ⟨d,qs,F',e1,e2,e3,e4,e5,e6,e7,e8,e9,e10⟩:=hh;have hd:=zoe e1;have hns:(iT w0 K g).G (e.ent d).gs' (jq j H.nx qs) w':=⟨F',fun b hF'=>⟨(e9 b hF').1,fun hm=>by
   have hm:=Iz hnone hm;rcases (e9 b hF').2 with hF|hF
   ·exact (g1 b hF).2 hm
   ·obtain ⟨k,L,k1,k2,k3⟩:=hm;have:=hi.blk k L k1 k2;omega⟩,e8⟩
  obtain ⟨i1,i2⟩:=Inv.ent (e:=e.ent d) hi f4 e6 hns (e10.mono fun b hb=>⟨(g1 b hb.1).2,hb.2⟩);refine ⟨d.ex,e.env d e.n env,(e.ent d).heap H,jq j H.nx qs,zof h2 e1,e2,⟨e3,f6,fun t ht=> ?_,?_⟩,i1,i2⟩
  ·unfold dD.env;have hds:=(MS h2 d hd).2;rcases CW d.slots (yN env e.keep (kP e.n .leaf)) t with ⟨v,q1,q2⟩|q
   ·rw [q2];exact .inr ((lY m (Gg hds _ q1)).2 (e7 _ q1))
   ·rw [q];rcases Nb (env:=env) e.keep (kP e.n .leaf) t with ⟨q1,q2⟩|q
    ·rw [q2,e5 t q1];exact (he.get t ht).imp_right (·.mono i2.sub)
    ·rw [q,CZ];by_cases hN:t<e.n
     ·rw [yaj hN];exact .inl rfl
     ·rw [yai hN,yay,ya4 (by omega)];exact .inr qM
  ·rw [e4];show DR (ρ.mark m) _ (dI (e.env d e.n env) bM) [];have:dI (e.env d e.n env) bM=jL:=by
    unfold dD.env;rcases CW d.slots (yN env e.keep (kP e.n .leaf)) bM with ⟨v,q1,_⟩|q
    ·have:=MZ (Zw f3 d hd) _ q1;simp only at this;omega
    ·rw [q];rcases Nb (env:=env) e.keep (kP e.n .leaf) bM with ⟨q1,_⟩|q
     ·have:=Zn f2 _ q1;omega
     ·rw [q,CZ,yai (by omega)];rfl
   rw [this];rfl
structure dX where
 t:TypeId
 s:AV
 n:Nat
 xs:List AV
 gs:Nat
 base:Nat
 gQ:Nat
 res:AV
 gs':Nat
def dX.ent (e:dX):aG:=⟨0,[],e.gs,e.base,e.gQ,e.res,e.gs'⟩
def dX.fits (e:dX) (t:TypeId) (s:AV) (n:Nat) (xs:List AV) (H:Heap):Bool:=
 match Nat.beq t e.t,AV.beq s e.s,Nat.beq n e.n,Nat.beq H.gs e.gs with
 | true,true,true,true=>(match AV.o6 xs e.xs with
  | true=>(match e.gQ with
   | 0=>true
   | _+1=>Nat.beq H.nx e.base)
  | false=>false)
 | _,_,_,_=>false
def fJ:List dX→uK
 | [], _,_,_,_,_=>none
 | e::l,t,s,n,xs,H=>match e.fits t s n xs H with
  | true=>some (e.res,e.ent.heap H)
  | false=>fJ l t s n xs H
def MJ (P:Program) (ρ:Val) (w0:World) (K:Nat→Prop) (g:bg) (e:dX):Prop:=
 ∀ (j:J) (w:World) (F:Nat→Prop) (n:Nat) (us:Value) (bb o cap:Nat) (vals:List Value) (ty:TypeId),R ρ j e.s us→zyU w bb o vals→RL ρ j e.xs vals→(∀k,n≤k→j k=none)→(e.gQ≠0→n=e.base)→(∀b,F b→b<w.heap.size)→w0.heap.size≤w.heap.size→g.fact e.gs (iE j) F w→
  ∃ u w' qs F',(Builtin.append_ #[e.t,e.t] ty #[us,.slice (some ⟨bb,o,none⟩) e.n cap]).run P w= .ok u w'∧qs.length=e.gQ∧R ρ (jq j n qs) e.res u∧g.fact e.gs' (iE (jq j n qs)) F' w'∧(∀b,F' b→b<w'.heap.size∧(F b∨w.heap.size≤b))∧Mv (fun b=>F b∧(w0.heap.size≤b∨K b)) w w'
def Ju (P:Program) (ρ:Val) (w0:World) (K:Nat→Prop) (g:bg):List dX→Prop
 | [] => True
 | e::l=>MJ P ρ w0 K g e∧Ju P ρ w0 K g l
def gq:List dX→Bool
 | [] => true
 | e::l=>match e.s.small,AV.bK e.xs,e.res.small with|true,true,true=>gq l|_,_,_=>false
theorem Zk {P:Program} {ρ:Val} {w0:World} {K:Nat→Prop} {g:bg} (m:Nat→Bool) {l:List dX} (hs:gq l=true) (h:Ju P ρ w0 K g l):Jm P (ρ.mark m) (iT w0 K g) (fJ l):=by
 intro t s n xs H r hr k hk j w us bb o cap vals ty hi dG hv hxs
 induction l with
 | nil=>cases hr
 | cons e l ih=>
  unfold gq at hs;split at hs
  case h_2=>cases hs
  rename_i h1 h2 h3;unfold fJ at hr;split at hr
  case h_2=>exact ih hs h.2 hr
  rename_i hf;cases hr;unfold dX.fits at hf;split at hf
  case h_2=>cases hf
  rename_i f1 f2 f3 f4;split at hf
  case h_2=>cases hf
  rename_i f5;have f1:=bC f1;have f2:=AV.beq_eq f2;have f3:=bC f3;have f4:=bC f4;have f5:=AV.qW f5;subst f1 f2 f3 f5;have hG:=hi.eY;rw [f4] at hG;obtain ⟨F,g1,g2⟩:=hG;have hnone: ∀k,H.nx≤k→j k= .none:=fun k hk=>by
   cases hjk:j k with
   | none=>rfl
   | some L=>have:=hi.dom k L hjk;omega
  have hbase:e.gQ≠0→H.nx=e.base:=fun hn=>by
   split at hf
   ·rename_i h0;exact absurd h0 hn
   ·exact bC hf
  obtain ⟨u,w',qs,F',e1,e2,e3,e4,e5,e6⟩:=h.1 j w F H.nx us bb o cap vals ty ((lY m h1).1 dG) hv ((ji m h2).1 hxs) hnone hbase (fun b hF=>(g1 b hF).1) hi.fr.size g2;have hns:(iT w0 K g).G e.ent.gs' (jq j H.nx qs) w':=⟨F',fun b hF'=>⟨(e5 b hF').1,fun hm=>by
   have hm:=Iz hnone hm;rcases (e5 b hF').2 with hF|hF
   ·exact (g1 b hF).2 hm
   ·obtain ⟨k,L,k1,k2,k3⟩:=hm;have:=hi.blk k L k1 k2;omega⟩,e4⟩
  obtain ⟨i1,i2⟩:=Inv.ent (e:=e.ent) hi f4 e2 hns (e6.mono fun b hb=>⟨(g1 b hb.1).2,hb.2⟩);exact ⟨u,w',e1,e.res,e.ent.heap H,jq j H.nx qs,(lY m h3).2 e3,i1,i2,hk⟩
theorem zxy {P:Program} (hmo:P.follows .mixedOrders=true) {gD:FuncId→List AV→Heap→Option (List (AV×Heap))} {iW:oQ} {mI:uK} {x:Cx} {ρ:Val} {w:World} {n:Nat} {f:FuncId} {args:List AV} {vals:List Value} {H:Heap} {j:J} {ls:List Leaf} {asm:List (SB×Bool)} {ps:List (List (SB×Bool)×Nat)}
  (hor: ∀m,nk P (ρ.mark m) x gD) (hlo: ∀m,Ep P (ρ.mark m) x iW) (hao: ∀m,Jm P (ρ.mark m) x mI) (hi: ∀m,Inv (ρ.mark m) x j H w) (ha: ∀m,RL (ρ.mark m) j args vals) (ht:Told ρ asm)
  (h:(fG P gD iW mI n (.call f args H (cK ls 0))).paths asm=some ps):
  Calls P f vals.toArray w fun e w'=> ∃p∈ps,Told ρ p.1∧ ∃l,ls[p.2]? =some l∧ ∃m u v j' H',e= .returned u∧R (ρ.mark m) j' v u∧Inv (ρ.mark m) x j' H' w'∧St j H j' H'∧l.fits v H'=true:=by
 classical
 let m:Nat→Bool:=fun k=>decide (∃p∈ps,1000000+p.2=k∧Told ρ p.1)
 have hm: ∀p∈ps,Told ρ p.1→m (1000000+p.2)=true:=fun p hp ht=>by
  show decide _=true;exact yaG ⟨p,hp,rfl,ht⟩
 have hd:=rG hm h (fun q hq=>hq) ht;have hg:=Im (w0:=x) (hor m) (hlo m) (hao m) (fun n rec hg=>AL hmo hg) n;refine yaq ((hg.call f args H (cK ls 0) hd).2 j w vals (hi m) (ha m)) fun e w' he=> ?_;obtain ⟨u,rfl,v,H',j',h1,h2,h3,h4⟩:=he;obtain ⟨k,l,h5,h6,h7⟩:=Nz h4;have h7:(if 1000000+(0+k)<1000000 then ρ.b (1000000+(0+k)) else m (1000000+(0+k)))=true:=h7;rw [yai (by omega)] at h7;obtain ⟨p,hp,hk,hto⟩:=ybQ h7;have:p.2=k:=by omega
 subst this;exact ⟨p,hp,hto,l,h5,m,u,v,j',H',rfl,h1,h2,h3,h6⟩
structure gu where
 ex:Ex
 slots:List Nat
 eT:Option AV
 leaf:Leaf
def J2:Ex→Ex→Bool
 | .normal,.normal=>true
 | .ret,.ret=>true
 | .exit a,.exit b=>Nat.beq a b
 | _,_=>false
def EA (env:T AV):List Nat→List AV
 | [] => []
 | t::l=>y7 env t::EA env l
def AX (env:T AV):List Nat→Bool
 | [] => true
 | t::l=>match Nat.blt t bM,zxD (y7 env t) with|true,true=>AX env l|_,_=>false
def Jp (env:T AV) (d:Option AV):Bool:=
 match env.get bM,d with
 | none,none=>true
 | some v,some u=>AV.beq v u
 | _,_=>false
def uL (ρ:Val) (j:J):Option AV→List Deferred→Prop
 | none,ds=>ds= []
 | some v,ds=>DR ρ j v ds
def gK:Option AV→Bool
 | none=>true
 | some v=>v.small
def fO:List gu→Nat→KC
  | [], _, _, _, _ => .bad 95 ""
  | l::r,i,ex,env,H=>match J2 ex l.ex,Jp env l.eT,AX env l.slots with
    | true,true,true=>(match l.leaf.fits (.ay (EA env l.slots)) H with
      | true => qb (1000000 + i) fun n => .ite (.var n) .ok (.bad 96 "")
      | false=>fO r (Nat.succ i) ex env H)
    | _,_,_=>fO r (Nat.succ i) ex env H
def bO (N:Nat) (slots:List (Nat×AV)) (d:Option AV):T AV:=
 match d with
 | none=>nJ slots (kP N .leaf)
 | some v=>(nJ slots (kP N .leaf)).set bM v
def gL:List gu→Bool
 | [] => true
 | l::r=>match dh [l.leaf],gK l.eT with|true,true=>gL r|_,_=>false
theorem VI: ∀ {ls:List gu} {i:Nat} {l:gu},gL ls=true→ls[i]? =some l→dh [l.leaf]=true∧gK l.eT=true
 | [], _,_,_,h=>by cases h
 | x::r,i,l,hx,h=>by
  unfold gL at hx;split at hx
  case h_2=>cases hx
  rename_i h1 h2;cases i with
  | zero=>cases h;exact ⟨h1,h2⟩
  | succ i=>exact VI hx (by simpa using h)
theorem zDO {a b:Ex} (h:J2 a b=true):a=b:=by
 cases a<;>cases b<;>simp only [J2] at h<;>first|rfl|cases h|rw [bC h]
theorem XW {ρ:Val} {ex:Ex} {env:T AV} {H:Heap}: ∀ {ls:List gu} {i:Nat},Ob.den ρ (fO ls i ex env H)→ ∃k l,ls[k]? =some l∧ex=l.ex∧Jp env l.eT=true∧AX env l.slots=true∧l.leaf.fits (.ay (EA env l.slots)) H=true∧ρ.b (1000000+(i+k))=true
 | [], i,h=>h.elim
 | l::r,i,h=>by
  unfold fO at h;have later:Ob.den ρ (fO r (Nat.succ i) ex env H)→ ∃k l',(l::r)[k]? =some l'∧ex=l'.ex∧Jp env l'.eT=true∧AX env l'.slots=true∧l'.leaf.fits (.ay (EA env l'.slots)) H=true∧ρ.b (1000000+(i+k))=true:=fun h=>by
   obtain ⟨k,l',h1,h2,h3,h4,h5,h6⟩:=XW h;exact ⟨k+1,l',h1,h2,h3,h4,h5,by rw [show i+(k+1)=Nat.succ i+k by omega];exact h6⟩
  split at h
  ·rename_i e1 e2 e3;split at h
   ·rename_i hf;rw [tZ] at h;refine ⟨0,l,rfl,zDO e1,e2,e3,hf,?_⟩;cases hb:ρ.b (1000000+(i+0)) with
    | true=>rfl
    | false=>exact (h.2 hb).elim
   ·exact later h
  ·exact later h
theorem zx9 {ρ:Val} {j:J} {N:Nat} {env:T AV} {a:Act} (he:ER ρ j N env a): ∀ {l:List Nat},AX env l=true→RL ρ j (EA env l) (l.map fun t=>a.tmps.getD t undef)
 | [], _=>RL.nil
 | t::l,h=>by
  unfold AX at h;split at h
  case h_2=>cases h
  rename_i h1 h2;rw [yaF] at h1;exact af ((he.get t (by omega)).resolve_left fun e=>by rw [O3,e] at h2;cases h2) (zx9 he h)
theorem zo6 {N:Nat} {slots:List (Nat×AV)} (hle:N≤bM) (hlt:fI N slots=true):dI (nJ slots (kP N .leaf)) bM=jL:=by
 rcases CW slots (kP N .leaf) bM with ⟨v,q1,_⟩|q
 ·have:=MZ hlt _ q1;simp only at this;omega
 ·rw [q,CZ,yai (by omega)];rfl
theorem zDS {ρ:Val} {j:J} {N:Nat} {slots:List (Nat×AV)} {d:Option AV} {a:Act} (hN:a.tmps.size=N) (hd:uL ρ j d a.defers) (hle:N≤bM) (hlt:fI N slots=true) (ha: ∀s∈slots,R ρ j s.2 (a.tmps.getD s.1 undef)):ER ρ j N (bO N slots d) a:=by
 have get: ∀t,t≠bM→dI (nJ slots (kP N .leaf)) t= .junk∨R ρ j (dI (nJ slots (kP N .leaf)) t) (a.tmps.getD t undef):=fun t ht=>by
  rcases CW slots (kP N .leaf) t with ⟨v,q1,q2⟩|q
  ·rw [q2];exact .inr (ha _ q1)
  ·rw [q,CZ];by_cases h:t<N
   ·rw [yaj h];exact .inl rfl
   ·rw [yai h,yay,ya4 (by omega)];exact .inr qM
 cases d with
 | none=>
  have hd:a.defers= []:=hd;refine ⟨hN,hle,get,?_⟩;show DR ρ j (dI (nJ slots (kP N .leaf)) bM) _;rw [hd,zo6 hle hlt];rfl
 | some v=>
  refine ⟨hN,hle,fun t ht=> ?_,?_⟩
  ·show dI ((nJ slots (kP N .leaf)).set bM v) t= .junk∨R ρ j (dI ((nJ slots (kP N .leaf)).set bM v) t) _;rw [pW,yai ht];exact get t ht
  ·show DR ρ j (dI ((nJ slots (kP N .leaf)).set bM v) bM) _;rw [pW,yaj rfl];exact hd
theorem Pq {ρ:Val} {j:J} (m:Nat→Bool): ∀ {ds:List Deferred} {v:AV},v.small=true→(DR (ρ.mark m) j v ds↔DR ρ j v ds)
 | [], _,_=>yb7
 | _::ds,v,hs=>by
  constructor
  ·rintro ⟨g,args,rest,cap,rfl,e2,e3,e4⟩;unfold AV.small AV.bK at hs;split at hs
   case h_2=>cases hs
   rename_i h1;unfold AV.small at h1;split at h1
   case h_2=>cases h1
   unfold AV.bK at hs;split at hs
   case h_2=>cases hs
   rename_i h2;exact ⟨g,args,rest,cap,rfl,e2,(ji m h1).1 e3,(Pq m h2).1 e4⟩
  ·rintro ⟨g,args,rest,cap,rfl,e2,e3,e4⟩;unfold AV.small AV.bK at hs;split at hs
   case h_2=>cases hs
   rename_i h1;unfold AV.small at h1;split at h1
   case h_2=>cases h1
   unfold AV.bK at hs;split at hs
   case h_2=>cases hs
   rename_i h2;exact ⟨g,args,rest,cap,rfl,e2,(ji m h1).2 e3,(Pq m h2).2 e4⟩
theorem ztG {ρ:Val} {j:J} (m:Nat→Bool) {ds:List Deferred} {v:Option AV} (hs:gK v=true):uL (ρ.mark m) j v ds↔uL ρ j v ds:=by
 cases v with
 | none=>exact yb7
 | some v=>exact Pq m hs
theorem iF {P:Program} {ρ:Val} {w:World} {K:Nat→Prop} {g:bg} {bl:List (Nat×Nat)} {iN:List Sh} {gs:Nat} {nC:List aG} {tu:List dD} {sH:List dX} {n:Nat} {p:List Nat} {N:Nat} {slots:List (Nat×AV)} {eT:Option AV} {ls:List gu} {asm:List (SB×Bool)} {ps:List (List (SB×Bool)×Nat)}
  (hmo:P.follows .mixedOrders=true)
  (h:(fG P (bB nC) (fK tu) (fJ sH) n (.code (bJ P p) p N (bO N slots eT) (bn gs iN) (fO ls 0))).ways asm=some ps)
  (hs:(bD iN&&zag nC&&fZ tu&&gq sH&&fP slots&&gL ls&&fI N slots&&Nat.ble N bM&&gK eT)=true)
  (hK: ∀b,K b→b<w.heap.size) (ho:qj ρ (aT bl) (iT w K g) bl iN) (hap:apart bl iN) (hG:g.G gs (aT bl) w) (he:Ei P ρ w K g nC) (hl:Jc P ρ w K g tu) (wX:Ju P ρ w K g sH)
  {a:Act} (hN:a.tmps.size=N) (hd:uL ρ (aT bl) eT a.defers) (ha: ∀s∈slots,R ρ (aT bl) s.2 (a.tmps.getD s.1 undef)) (ht:Told ρ asm):
  (bJ P p).wp P (fun ex a' w'=> ∃q∈ps,Told ρ q.1∧ ∃l,ls[q.2]? =some l∧ex=yZ l.ex∧a'.tmps.size=N∧ ∃j,uL ρ j l.eT a'.defers∧wO ρ w K g bl l.leaf (.returned (.tuple (l.slots.map fun t=>a'.tmps.getD t undef).toArray)) w' j) a w:=by
 simp only [ybe] at hs;obtain ⟨⟨⟨⟨⟨⟨⟨⟨s1,s2⟩,s5⟩,s9⟩,s3⟩,s4⟩,s6⟩,s7⟩,s8⟩:=hs;have s7:=yal s7;unfold Ob.ways at h;cases hps:(fG P (bB nC) (fK tu) (fJ sH) n (.code (bJ P p) p N (bO N slots eT) (bn gs iN) (fO ls 0))).paths asm with
 | none=>rw [hps] at h;cases h
 | some ps0=>
 rw [hps] at h;cases h;have h:=hps
 classical
 let m:Nat→Bool:=fun k=>decide (∃p∈ps0,1000000+p.2=k∧Told ρ p.1)
 have hm: ∀p∈ps0,Told ρ p.1→m (1000000+p.2)=true:=fun p hp ht=>by
  show decide _=true;exact yaG ⟨p,hp,rfl,ht⟩
 have hdn:=rG hm h (fun q hq=>hq) ht;have hg:=Im (w0:=iT w K g) (Oj (Gs m s2 he)) (Zo m s5 hl) (Zk m s9 wX) (fun n rec hg=>AL hmo hg) n;refine ya3 (hg.code _ _ _ _ _ _ rfl hdn (aT bl) a w (Oe hK (GU m s1 ho) hap hG) (zDS hN ((ztG m s8).2 hd) s7 s6 fun s hs=>(lY m (Gg s3 s hs)).2 (ha s hs))) fun ex a' w' hh=> ?_;obtain ⟨x,env',H',j',rfl,h1,h2,h3,h4⟩:=hh;obtain ⟨k,l,h5,h6,h7,h8,h9,h10⟩:=XW h4;have h10:(if 1000000+(0+k)<1000000 then ρ.b (1000000+(0+k)) else m (1000000+(0+k)))=true:=h10;rw [yai (by omega)] at h10;obtain ⟨q,hq,hk,hto⟩:=ybQ h10;have:q.2=k:=by omega
 subst this;obtain ⟨y1,y2⟩:=VI s4 h5;obtain ⟨x1,x2,x3,x4⟩:=Gh (i:=0) y1 rfl;refine ⟨(q.1.drop asm.length,q.2),Gu hq,fun c hc=>hto c (ybi hc),l,h5,by rw [h6],h1.size,j',(ztG m y2).1 ?_,OL x1 x2 x3 x4 (kM (zx9 h1 h8)) h2 h3 h9⟩;have hdf:=h1.eT;unfold Jp at h7;unfold dI at hdf;split at h7
 ·rename_i e1 e2;rw [e1] at hdf;rw [e2];exact hdf.none rfl
 ·rename_i v u e1 e2;rw [e1] at hdf;rw [e2,←AV.beq_eq h7];exact hdf
 ·cases h7
theorem xX {P:Program} {c:Code} {Q:Exit→Act→World→Prop} {α:Type} (I:α→Act→World→Prop) (μ:α→Nat)
  (h: ∀x a w,I x a w→c.wp P (fun ex a' w'=>match ex with| .normal=> ∃x',μ x'<μ x∧I x' a' w'|ex=>Q ex a' w') a w) (x:α) (a:Act) (w:World) (hI:I x a w):(Code.loop c).wp P Q a w:=by
 have key: ∀n x a w,μ x<n→I x a w→Code.rounds P c Q n a w:=by
  intro n
  induction n with
  | zero=>intro x a w hn;omega
  | succ n ih=>
   intro x a w hn hI;refine ya3 (h x a w hI) fun ex a' w' hh=> ?_;cases ex with
   | normal=>
    obtain ⟨x',h1,h2⟩:=hh;exact ih x' a' w' (by omega) h2
   | _=>exact hh
 exact wp_loop_rounds (μ x+1) (key (μ x+1) x a w (ydt _) hI)
end Go.Dw
namespace Go.Proofs
open Go.Dw Go.RowKit
def Tryz.ny (l:List (SE×Nat)):AV:= .sx 0 (ah 0) 3 l
def Tryz.uU:AV:= .ay [.func 115 [] [.ptr 1 0,.ptr 2 0],.ay []]
def Tryz.Av (k:SE) (l:List (SE×Nat)):List (Nat×AV):= [(0,ny l),(2,.ptr 1 0),(3,.ptr 2 0),(10,ny l),(11,.int .i64 (ah 0)),(12,.int .i64 k)]
def Tryz.F5 (e:SE) (r:List Sh):List Sh:= .own [.int .i64 e]:: .own [.int .u64 (aj 2)]::r
def Tryz.wS (a n b:Nat):Sh:= .ro [.int .u64 (aj a),.int .u32 (aW n),.bool (.var b)]
end Go.Proofs
namespace Go.Proofs
open Go.Dw
def Tryz.ZL:List aG:= []
def Tryz.zrE:List Sh:= [.ro [.int .u64 (.lit 0),.int .u64 (.lit 20000)]]
def Tryz.ZM:List AV:= [.sl 1 0 1 (.known 1)]
def Tryz.zzn:List (SB×Bool):= []
def Tryz.zvY:List Leaf:= [
 ⟨.ay [.ptr 4 0,.int .i64 (.lit 0)],[(3,[.int .u64 (.lit 0),.int .u64 (.lit 20000)]),(4,[.sl 3 0 1 (.upto 0),.sl 7 0 1 (.upto 0)]),(5,(List.replicate 20000 (.int .u8 (.lit 0)))),(7,[.sl 5 0 20000 (.known 20000)])],[],0,[3,4,5,7]⟩]
def Tryz.zCy:List (List (SB×Bool)×Nat):= [
 ([], 0)]
theorem Tryz.zzm:(ev prog (bB ZL) 100000 (.call 31 ZM (bn 0 zrE) (cK zvY 0))).ways zzn=some zCy:=by kernel_rfl
theorem Tryz.zCz:(bD zrE&&zag ZL&&AV.bK ZM&&dh zvY)=true:=by kernel_rfl
end Go.Proofs
namespace Go.Proofs
open Go.RowKit Go.Maps Go.Sort
structure Tryz.bP (w:World) (P L Bs B N:Nat) (g:Nat→Int):Prop where
 p0: ∃c,w.cell? ⟨P,0,none⟩=some (.slice (some ⟨L,0,none⟩) 1 c)
 p1: ∃c,w.cell? ⟨P,1,none⟩=some (.slice (some ⟨Bs,0,none⟩) 1 c)
 l0:w.cell? ⟨L,0,none⟩=some (.int .u64 0)
 l1:w.cell? ⟨L,1,none⟩=some (.int .u64 N)
 b0:w.cell? ⟨Bs,0,none⟩=some (.slice (some ⟨B,0,none⟩) N N)
 full: ∀j,j<N→w.cell? ⟨B,j,none⟩=some (.int .u8 (g j))
 free: ∀j,j<N→w.frozen? ⟨B,j,none⟩=false
 byte: ∀j,0≤g j∧g j<256
 pb:P≠B
 lb:L≠B
 sb:Bs≠B
 bl:B<w.heap.size
section
variable {w w':World} {P L Bs B N:Nat} {g g':Nat→Int}
theorem Tryz.bP.pl (h:bP w P L Bs B N g):P<w.heap.size:=by obtain ⟨c,q⟩:=h.p1;exact World.block_lt_of_cell? w _ q
theorem Tryz.bP.ll (h:bP w P L Bs B N g):L<w.heap.size:=World.block_lt_of_cell? w _ h.l0
theorem Tryz.bP.sl (h:bP w P L Bs B N g):Bs<w.heap.size:=World.block_lt_of_cell? w _ h.b0
theorem Tryz.bP.kept (h:bP w P L Bs B N g) (hg: ∀k,k<w.heap.size→(k=P∨k=L∨k=Bs∨k=B)→w'.heap[k]? =w.heap[k]?) (hs:w.heap.size≤w'.heap.size):bP w' P L Bs B N g:=by
 have eP:=hg P h.pl (Or.inl rfl);have eL:=hg L h.ll (Or.inr (Or.inl rfl));have eS:=hg Bs h.sl (Or.inr (Or.inr (Or.inl rfl)));have eB:=hg B h.bl (Or.inr (Or.inr (Or.inr rfl)));refine ⟨?_,?_,?_,?_,?_,fun j hj=> ?_,fun j hj=> ?_,h.byte,h.pb,h.lb,h.sb,yae h.bl hs⟩
 ·obtain ⟨c,h0⟩:=h.p0;exact ⟨c,by rw [yan (a:=⟨P,0,none⟩) eP];exact h0⟩
 ·obtain ⟨c,h0⟩:=h.p1;exact ⟨c,by rw [yan (a:=⟨P,1,none⟩) eP];exact h0⟩
 ·rw [yan (a:=⟨L,0,none⟩) eL];exact h.l0
 ·rw [yan (a:=⟨L,1,none⟩) eL];exact h.l1
 ·rw [yan (a:=⟨Bs,0,none⟩) eS];exact h.b0
 ·rw [yan (a:=⟨B,j,none⟩) eB];exact h.full j hj
 ·rw [ycC (a:=⟨B,j,none⟩) eB];exact h.free j hj
theorem Tryz.bP.below (h:bP w P L Bs B N g) (hb:Below w.heap.size w w'):bP w' P L Bs B N g:=h.kept (fun k hk _=>hb.block k hk) hb.size
theorem Tryz.bP.congr (h:bP w P L Bs B N g) (hf: ∀j,g' j=g j):bP w P L Bs B N g':=by
 have:g'=g:=funext hf;rw [this];exact h
theorem Tryz.bP.CJ (h:bP w P L Bs B N g) (j:Nat) (hj:j<N) (x:Int) (hx0:0≤x) (hx1:x<256):bP (w.setCell ⟨B,j,none⟩ (.int .u8 x)) P L Bs B N (fun q=>if q=j then x else g q):=by
 have hk: ∀k,k≠B→(w.setCell ⟨B,j,none⟩ (.int .u8 x)).heap[k]? =w.heap[k]? :=fun k hk=>yac w _ _ k hk;have eP:=hk P h.pb;have eL:=hk L h.lb;have eS:=hk Bs h.sb;refine ⟨?_,?_,?_,?_,?_,fun q hq=> ?_,fun q hq=> ?_,fun q=> ?_,h.pb,h.lb,h.sb,yae h.bl (by simp)⟩
 ·obtain ⟨c,h0⟩:=h.p0;exact ⟨c,by rw [yan (a:=⟨P,0,none⟩) eP];exact h0⟩
 ·obtain ⟨c,h0⟩:=h.p1;exact ⟨c,by rw [yan (a:=⟨P,1,none⟩) eP];exact h0⟩
 ·rw [yan (a:=⟨L,0,none⟩) eL];exact h.l0
 ·rw [yan (a:=⟨L,1,none⟩) eL];exact h.l1
 ·rw [yan (a:=⟨Bs,0,none⟩) eS];exact h.b0
 ·by_cases hqj:q=j
  ·subst hqj;rw [yaj rfl];exact ybN _ _ _ (by rw [h.full q hq];rfl)
  ·rw [yai hqj,ycs w ⟨B,j,none⟩ ⟨B,q,none⟩ _ (fun e=>hqj (yaI Addr.off e).symm)];exact h.full q hq
 ·rw [yde];exact h.free q hq
 ·by_cases hqj:q=j
  ·rw [yaj hqj];exact ⟨hx0,hx1⟩
  ·rw [yai hqj];exact h.byte q
theorem Tryz.bP.range (h:bP w P L Bs B N g) (a n:Nat) (hn:a+n≤N):w.rangeAt B a (row g a n):=by
 intro j v hv;simp only [row,ybb] at hv;rcases ybT j n with hj|hj
 ·rw [ybY hj] at hv;simp only [yaK,ycd] at hv;rw [←hv];exact h.full (a+j) (by omega)
 ·rw [ya1 (by simp;omega)] at hv;cases hv
end
set_option maxRecDepth 100000 in
theorem Tryz.Dt (P L Bs B N a k:Nat) (g:Nat→Int) (w:World) (st:bP w P L Bs B N g) (hN:N≤1048576) (hk:1≤k) (hin:a+k≤N):
  Calls prog 79 #[.pointer (some ⟨P,0,none⟩),.int .u64 a,.int .u64 k] w fun e w'=>e= .returned (.tuple #[.int .i64 0,.int .i64 a])∧Below w.heap.size w w':=by
 obtain ⟨lc,c0⟩:=st.p0;have c2:=st.l0;have c3:=st.l1;have ha:IntKind.wrap .u64 ((N:Int)-k)=N-k:=wrap_u64 _ (by omega) (by omega);have qB:IntKind.wrap .u64 (a:Int)=a:=wrap_u64 _ (by omega) (by omega);have hwb:IntKind.wrap .i64 (a:Int)=a:=by unfold IntKind.wrap;simp [IntKind.signed,IntKind.bits];omega
 have hkn:(k:Int)≤N:=by omega
 have hak:(a:Int)≤N-k:=by omega
 have hk1:(1:Int)≤k:=by omega
 have ha0:(0:Int)≤a:=by omega
 have hb:=(yah _ w).alloc (yab _) (.cells #[.int .u64 0,.int .u64 N] 86);go_enter func79,ntmps79;go_wp2_with fail;go_loopw [8] (fun i wr=>i= .int .i64 0∧wr=w) (fun _ _=>0)
 case atStart=>exact ⟨rfl,rfl⟩
 case round=>
  obtain ⟨rfl,rfl⟩:=hrel;go_wp2;go_quiet (fail);go_wp2;go_ret2;exact ⟨rfl,below_drewN hb _⟩
set_option maxRecDepth 100000 in
theorem Tryz.znf (P L Bs B N:Nat) (a k:Int) (g:Nat→Int) (w:World) (st:bP w P L Bs B N g) (hN:N≤1048576) (ha0:0≤a) (ha1:a<18446744073709551616) (hk0:0≤k) (hk1:k<18446744073709551616) (hout: ¬(1≤k∧a+k≤N)):
  Calls prog 79 #[.pointer (some ⟨P,0,none⟩),.int .u64 a,.int .u64 k] w fun e w'=>e= .returned (.tuple #[.int .i64 (-1),.int .i64 0])∧Below w.heap.size w w':=by
 obtain ⟨lc,c0⟩:=st.p0;have c2:=st.l0;have c3:=st.l1;have hb:=(yah _ w).alloc (yab _) (.cells #[.int .u64 0,.int .u64 N] 86);have qB:IntKind.wrap .u64 a=a:=wrap_u64 _ (by omega) (by omega);go_enter func79,ntmps79;go_wp2_with fail;go_loopw [8] (fun i wr=>(i= .int .i64 0∧wr=w)∨(i= .int .i64 1∧wr=w.alloc (.cells #[.int .u64 0,.int .u64 N] 86))) (fun i _=>1-(RowKit.intOf i).toNat)
 case atStart=>exact .inl ⟨rfl,rfl⟩
 case round=>
  rcases hrel with ⟨rfl,rfl⟩|⟨rfl,rfl⟩
  ·by_cases h1:1≤k
   ·by_cases h2:k≤N
    ·have h3:IntKind.wrap .u64 ((N:Int)-k)=N-k:=wrap_u64 _ (by omega) (by omega);have h4: ¬a≤N-k:=by omega
     go_wp2;exact ⟨.inr (by simp),by decide⟩
    ·go_wp2;exact ⟨.inr (by simp),by decide⟩
   ·go_wp2;exact ⟨.inr (by simp),by decide⟩
  ·have st2:=st.below hb;obtain ⟨dR,c02⟩:=st2.p0;go_wp2;go_ret2;exact ⟨rfl,hb⟩
end Go.Proofs
namespace Go.Proofs
open Go.RowKit Go.Maps Go.Sort
theorem Tryz.zDM (g:Nat→Int) (hg: ∀j,0≤g j∧g j<256) (a k j:Nat) (v:Int) (hj:j+1≤k) (hk:k≤8) (h:ax g a k=ax g a (j+1)+v*256^(j+1)) (hv:0≤v∧v<256^(k-(j+1))):
  ax g a k=ax g a j+(256*v+g (a+j))*256^j∧(0≤256*v+g (a+j)∧256*v+g (a+j)<256^(k-j))∧(0≤256*v∧256*v<18446744073709551616)∧256*v+g (a+j)<18446744073709551616:=by
 have h2:=hg (a+j);have e1:(256:Int)^(k-j)=256^(k-(j+1))*256:=by rw [←yc9];congr 1;omega
 have e2:(256:Int)^(k-j)≤18446744073709551616:=by
  have q:=ybx (n:=256) (by omega) (show k-j≤8 by omega);rw [show (256:Nat)^8=18446744073709551616 from by decide] at q;have e:((256^(k-j):Nat):Int)=(256:Int)^(k-j):=Int.natCast_pow 256 (k-j);rw [←e];exact Int.ofNat_le.2 q
 refine ⟨?_,by omega,by omega,by omega⟩;rw [h];simp only [ax];rw [yc9,Int.add_mul,ydr 256 v,Int.mul_assoc v 256,ydr 256 (256^j),Int.add_comm (v*_),Int.add_assoc]
set_option maxRecDepth 100000 in
theorem Tryz.Ia (P L Bs B N a k:Nat) (g:Nat→Int) (w:World) (st:bP w P L Bs B N g) (hN:N≤1048576) (hk:k=1∨k=2∨k=4∨k=8) (hin:a+k≤N):
    Calls prog 109 #[.pointer (some ⟨P,0,none⟩),.int .u64 a,.int .i64 k] w fun e w'=>e= .returned (.tuple #[.int .u64 (ax g a k),.int .i64 0])∧Below w.heap.size w w':=by
  have hby:=Dt P L Bs B N a k g w st hN (by omega) hin;have hwk:IntKind.wrap .u64 (k:Int)=k:=wrap_u64 _ (by omega) (by omega);go_enter func109,ntmps109;obtain ⟨k0,hk0,hk1⟩: ∃k0,k0≤k∧k≤k0:=⟨k,yab _,yab _⟩;have Rk:k0≤8:=by omega
  have aaK:a+k0≤N:=by omega
  have hk2:k0=1∨k0=2∨k0=4∨k0=8:=by omega
  have hw0:ax g a k=ax g a k0:=by rw [show k=k0 by omega]
  have hwp:(fun _:Unit=>ax g a k)=fun _=>ax g a k0:=by rw [hw0]
  clear hw0;rcases hk with rfl|rfl|rfl|rfl
  all_goals
    go_wp2_with (first
      | (go_at_call 79;refine hby.mono ?_;rintro e w1 ⟨rfl,hb1⟩)
      | go_in)
    go_loopw [10,11] (fun v c wr=> ∃(j:Nat) (x:Int),c= .int .i64 ((j:Int)-1)∧v= .int .u64 x∧j≤k0∧ax g a k0=ax g a j+x*256^j∧(0≤x∧x<256^(k0-j))∧wr=w1) (fun _ c _=>(RowKit.intOf c+1).toNat)
    case atStart=>exact ⟨k0,0,by congr 1;omega,rfl,yab _,by simp,by simp,rfl⟩
    case round=>
      obtain ⟨j,x,rfl,rfl,hj,he,hx,rfl⟩:=hrel;cases j with
      | zero=>
        have hx1:x=ax g a k0:=by simp [ax] at he;exact he.symm
        rw [←ybu hwp ()] at hx1;subst hx1;clear hwp;go_wp2;go_ret2;exact ⟨rfl,hb1⟩
      | succ j=>
        obtain ⟨q1,q2,q3,q4⟩:=zDM g st.byte a k0 j x hj Rk he hx;obtain ⟨c1,p1⟩:=(st.below hb1).p1;have p2:=(st.below hb1).b0;have hc:=(st.below hb1).full (a+j) (by omega);have ab1:=st.byte (a+j);have w1':IntKind.wrap .u64 (256*x)=256*x:=wrap_u64 _ q3.1 q3.2;have w2':IntKind.wrap .u64 (g (a+j))=g (a+j):=wrap_u64 _ (by omega) (by omega);have w3':IntKind.wrap .u64 (256*x+g (a+j))=256*x+g (a+j):=wrap_u64 _ q2.1 q4;have ej:((j+1:Nat):Int)-1=j:=by push_cast;omega
        rw [ej];go_wp2;exact ⟨⟨j,_,rfl,rfl,by omega,q1,q2,trivial⟩,by simp only [RowKit.intOf];omega⟩
set_option maxRecDepth 100000 in
theorem Tryz.zEM (P L Bs B N k:Nat) (a:Int) (g:Nat→Int) (w:World) (st:bP w P L Bs B N g) (hN:N≤1048576) (hk:k=1∨k=2∨k=4∨k=8) (ha0:0≤a) (ha1:a<18446744073709551616) (hout: ¬a+k≤N):
    Calls prog 109 #[.pointer (some ⟨P,0,none⟩),.int .u64 a,.int .i64 k] w fun e w'=>e= .returned (.tuple #[.int .u64 0,.int .i64 5])∧Below w.heap.size w w':=by
  have hby:=znf P L Bs B N a k g w st hN ha0 ha1 (by omega) (by omega) (by omega);have hwk:IntKind.wrap .u64 (k:Int)=k:=wrap_u64 _ (by omega) (by omega);go_enter func109,ntmps109;rcases hk with rfl|rfl|rfl|rfl
  all_goals
    go_wp2_with (first
      | (go_at_call 79;refine hby.mono ?_;rintro e w1 ⟨rfl,hb1⟩)
      | go_in)
    go_ret2;exact ⟨rfl,hb1⟩
set_option maxRecDepth 100000 in
theorem Tryz.NT (P L Bs B N a k:Nat) (v:Int) (g:Nat→Int) (w:World) (st:bP w P L Bs B N g) (hN:N≤1048576) (hk:k=1∨k=2∨k=4∨k=8) (hin:a+k≤N):
    Calls prog 36 #[.pointer (some ⟨P,0,none⟩),.int .u64 a,.int .i64 k,.int .u64 v] w fun e w'=>e= .returned (.int .i64 0)∧bP w' P L Bs B N (dS g a k v)∧Mv (· =B) w w':=by
  have hby:=Dt P L Bs B N a k g w st hN (by omega) hin;have hwk:IntKind.wrap .u64 (k:Int)=k:=wrap_u64 _ (by omega) (by omega);go_enter func36,ntmps36;obtain ⟨k0,hk0,hk1⟩: ∃k0,k0≤k∧k≤k0:=⟨k,yab _,yab _⟩;have Rk:k0≤8:=by omega
  have aaK:a+k0≤N:=by omega
  rcases hk with rfl|rfl|rfl|rfl
  all_goals
    go_wp2_with (first
      | (go_at_call 79;refine hby.mono ?_;rintro e w1 ⟨rfl,hb1⟩)
      | go_in)
    go_loopw [11] (fun c wr=> ∃i:Nat,i≤k0∧c= .int .i64 i∧bP wr P L Bs B N (dS g a i v)∧Mv (· =B) w wr) (fun c _=>k0-(RowKit.intOf c).toNat)
    case atStart=>exact ⟨0,yaE _,rfl,(st.below hb1).congr (fun j=>zr0 g a v j),Mv.of_below hb1⟩
    case round=>
      obtain ⟨i,hi,rfl,st',mv⟩:=hrel;by_cases hik:i<k0
      · obtain ⟨c1,p1⟩:=st'.p1;have p2:=st'.b0;have hc:=st'.full (a+i) (by omega);have hf:=st'.free (a+i) (by omega);have hw8:=wrap_u8 (v/2^(8*i));go_wp2;exact ⟨⟨i+1,by omega,by push_cast;rfl,(st'.CJ (a+i) (by omega) _ (ybP _ (by omega)) (ybF _ (by omega))).congr (fun j=>zrZ g a i v j),mv.setCell _ _ _ (Or.inl rfl)⟩,by simp only [RowKit.intOf];omega⟩
      · have hge: ¬(i:Int)<k0:=by omega
        have hik':k0=i:=by omega
        subst hik';go_wp2;go_ret;refine ⟨rfl,?_,mv⟩
        first
          | exact st'
          | (rw [show (1:Nat)=k0 by omega];exact st')
          | (rw [show (2:Nat)=k0 by omega];exact st')
          | (rw [show (4:Nat)=k0 by omega];exact st')
          | (rw [show (8:Nat)=k0 by omega];exact st')
set_option maxRecDepth 100000 in
theorem Tryz.zne (P L Bs B N:Nat) (a n:Int) (g:Nat→Int) (w:World) (st:bP w P L Bs B N g) (hN:N≤1048576) (ha0:0≤a) (ha1:a<18446744073709551616) (hn:0≤n) (hn1:n<18446744073709551616):
    Calls prog 175 #[.pointer (some ⟨P,0,none⟩),.int .u64 a,.int .u64 n] w fun e w'=>e= .returned (.bool (decide (1≤n∧a+n≤N)))∧Below w.heap.size w w':=by
  by_cases h:1≤n∧a+n≤N
  · obtain ⟨a',rfl⟩:=yaT ha0;obtain ⟨n',rfl⟩:=yaT hn;have hby:=Dt P L Bs B N a' n' g w st hN (by omega) (by omega);rw [yaG h];go_enter func175,ntmps175;go_wp2_with (first
      | (go_at_call 79;refine hby.mono ?_;rintro e w1 ⟨rfl,hb1⟩)
      | go_in)
    go_ret;exact ⟨rfl,hb1⟩
  · have hby:=znf P L Bs B N a n g w st hN ha0 ha1 hn hn1 h;rw [yar h];go_enter func175,ntmps175;go_wp2_with (first
      | (go_at_call 79;refine hby.mono ?_;rintro e w1 ⟨rfl,hb1⟩)
      | go_in)
    go_ret;exact ⟨rfl,hb1⟩
set_option maxRecDepth 100000 in
theorem Tryz.zrC (P L Bs B N a n:Nat) (g:Nat→Int) (w:World) (st:bP w P L Bs B N g) (hN:N≤1048576) (hn:1≤n) (hin:a+n≤N):
    Calls prog 137 #[.pointer (some ⟨P,0,none⟩),.int .u64 a,.int .i64 n] w fun e w'=> ∃v,e= .returned (.tuple #[v,.int .i64 0])∧w'.ownsRow w.heap.size 5 1 v n (row g a n)∧Below w.heap.size w w':=by
  obtain ⟨i0,hi0,hz0,hz1,hzb⟩:=ybo yQ;have hby:=Dt P L Bs B N a n g w st hN hn hin;have hwk:IntKind.wrap .u64 (n:Int)=n:=wrap_u64 _ (by omega) (by omega);have hkk:a+n-a=n:=by omega
  have hn1: ¬(n:Int)<0:=by omega
  have hn2: ¬(n:Int)=0:=by omega
  have b1:(0:Int)≤a:=by omega
  have b2:(a:Int)≤a+n:=by omega
  have b3:(a:Int)+n≤N:=by omega
  go_enter func137,ntmps137;go_wp2_with (first
    | (go_at_call 79;refine hby.mono ?_;rintro e w1 ⟨rfl,hb1⟩;have st1:=st.below hb1;have qz:=ycZ (base:=w1.heap.size) (e:=5) (size:=1) w1 #[] 0 (yab _) (by unfold maxLen;omega) rfl;have hr':=iR (w':=w1.alloc (.cells #[] 5)) (st1.range a n hin) (ybU w1 _ B st1.bl);have hb0:=(yah w1.heap.size w1).alloc (yab _) (.cells #[] 5);obtain ⟨c1,p1⟩:=(st1.below hb0).p1;have p2:=(st1.below hb0).b0)
    | (at_builtin;go_loud (refine ycj _ rfl _ _ 55 rfl w1.heap.size 5 i0 (.int .u8 0) 1 1 underlying55 hi0 hz0 hz1 hzb rfl (by decide) _ _ _ rfl qz ⟨B,a,none⟩ n (N-a) (row g a n) (by show Value.slice (some ⟨B,a,none⟩) (a+n-a) (N-a)=_;rw [hkk]) (by rw [zW];simp) (fun j v hv=>by rw [yct];exact hr' j v hv) (row_one g a n) (by unfold maxLen;omega) (by omega) (by simp) ?_);intro v' w3 hown' hg3 hnil3;go_frame)
    | go_in)
  go_ret2;have hown2:w3.ownsRow w1.heap.size 5 1 v' n (row g a n):=by simpa using hown'
  have hb3:=hb0.grown hg3 (by simp) (fun j hj=>(qz.lt j hj).1);refine ⟨_,rfl,⟨hown2.1,?_⟩,hb1.trans (hb3.mono hb1.size)⟩;rcases hown2.2 with h|⟨g0,cap,cur,h0,h2,h3⟩
  · exact Or.inl h
  · exact Or.inr ⟨g0,cap,cur,h0,yaw hb1.size h2,h3⟩
theorem Tryz.bP.vN {P L Bs B N:Nat}: ∀(xs:List Int) (a:Nat) (g:Nat→Int) (w:World),bP w P L Bs B N g→a+xs.length≤N→(∀x∈xs,0≤x∧x<256)→bP (w.setCells B a (xs.map (Value.int .u8))) P L Bs B N (fB g a xs)
 | [], _,_,_,h,_,_=>h
 | x::r,a,g,w,h,hl,hb=>by
  rw [yaJ,World.setCells,fB];rw [ya6] at hl;have hx:=hb x (by simp);exact bP.vN r (a+1) _ _ (h.CJ a (by omega) x hx.1 hx.2) (by omega) (fun y hy=>hb y (by simp [hy]))
set_option maxRecDepth 100000 in
theorem Tryz.Z8 (P L Bs B N a R o c:Nat) (xs:List Int) (g:Nat→Int) (w:World) (st:bP w P L Bs B N g) (hN:N≤1048576) (hn:1≤xs.length) (hin:a+xs.length≤N) (hb: ∀x∈xs,0≤x∧x<256)
    (hr:w.rangeAt R o (xs.map (Value.int .u8))) (hR:R<w.heap.size):
    Calls prog 41 #[.pointer (some ⟨P,0,none⟩),.int .u64 a,.slice (some ⟨R,o,none⟩) xs.length c] w fun e w'=>e= .returned (.int .i64 0)∧bP w' P L Bs B N (fB g a xs)∧Mv (· =B) w w':=by
  have hby:=Dt P L Bs B N a xs.length g w st hN (by omega) hin;have hwk:IntKind.wrap .u64 (xs.length:Int)=xs.length:=wrap_u64 _ (by omega) (by omega);have hcp:=fun w1 (h:Below w.heap.size w w1)=>run_copy_cells (P:=prog) w1 55 55 3 5 B a (N-a) (N-a) ⟨R,o,none⟩ xs.length c (xs.map (Value.int .u8)) underlying55 (by kernel_rfl) (by rw [ybs];exact (ycJ (by omega)).symm) (fun j v hv=>by rw [yct];exact (iR hr (h.block R hR)) j v hv)
    (fun j hj=>by rw [(st.below h).full (a+j) (by simp at hj;omega)];rfl) (fun j hj=>(st.below h).free (a+j) (by simp at hj;omega)) (fun v hv=>by obtain ⟨x,_,rfl⟩:=ya2.1 hv;rfl)
  rw [ybs] at hcp;go_enter func41,ntmps41;have hn0: ¬(xs.length:Int)=0:=by omega
  have b1:(0:Int)≤a:=by omega
  have b2:(a:Int)≤N:=by omega
  go_wp2_with (first
    | (go_at_call 79;refine hby.mono ?_;rintro e w1 ⟨rfl,hb1⟩;have hcp1:=hcp _ hb1;obtain ⟨c1,p1⟩:=(st.below hb1).p1;have p2:=(st.below hb1).b0)
    | go_in)
  go_ret;exact ⟨rfl,(st.below hb1).vN xs a g _ hin hb,(Mv.of_below hb1).grown (MK B _ _ _) (Or.inl rfl)⟩
set_option maxRecDepth 100000 in
theorem Tryz.zt7 (P L Bs B N:Nat) (g:Nat→Int) (w:World) (st:bP w P L Bs B N g) (h1:1≤N) (hN:N≤1048576):
    Calls prog 51 #[.pointer (some ⟨P,0,none⟩)] w fun e w'=> ∃v,e= .returned v∧w'.ownsRow w.heap.size 5 1 v N (row g 0 N)∧Below w.heap.size w w':=by
  obtain ⟨i0,hi0,hz0,hz1,hzb⟩:=ybo yQ;have rE:w.ownsRow w.heap.size 5 1 (.slice none 0 0) 0 []:=⟨rfl,.inl ⟨rfl,rfl⟩⟩;obtain ⟨q1,p1⟩:=st.p1;have p2:=st.b0;have hr1:=st.range 0 N (by omega);go_enter func51,ntmps51;go_wp2;go_loopw [3,4] (fun v i w2=>(i= .int .i64 0∧v= .slice none 0 0∧w2=w)∨(i= .int .i64 1∧w2.ownsRow w.heap.size 5 1 v N (row g 0 N)∧Below w.heap.size w w2)) (fun _ i _=>1-(RowKit.intOf i).toNat)
  case atStart=>exact Or.inl ⟨rfl,rfl,rfl⟩
  case round=>
    rcases hrel with ⟨rfl,rfl,rfl⟩|⟨rfl,hrow2,hb2⟩
    · go_wp2_with (first
        | (at_builtin;go_loud (refine ycj _ rfl _ _ 55 rfl _ 5 i0 (.int .u8 0) 1 1 underlying55 hi0 hz0 hz1 hzb rfl (by decide) _ _ _ rfl rE ⟨B,0,none⟩ N N (row g 0 N) rfl (by rw [zW];simp) (fun j v hv=>by rw [yct];exact hr1 j v hv) (row_one g 0 N) (by unfold maxLen;omega) (by omega) (yab _) ?_);intro v' w3 hown' hg3 hnil3;go_frame)
        | go_in)
      exact ⟨Or.inr ⟨rfl,by simpa using hown',(yah _ _).grown hg3 (yab _) (fun j hj=>(rE.lt j hj).1)⟩,by simp [RowKit.intOf]⟩
    · obtain ⟨q2,LC⟩:=(st.below hb2).p1;go_wp2;go_ret;exact ⟨_,rfl,hrow2,hb2⟩
end Go.Proofs
namespace Go.Proofs
open Go.Dw
def Tryz.zpj:List aG:= []
def Tryz.ztw:List Sh:=F5 (.lit 0) [wS 3 4 0]
def Tryz.GQ:List (Nat×AV):=Av (.lit 0) [(.lit 0,3)]
def Tryz.ZE:List dD:= []
def Tryz.ZF:List dX:= []
def Tryz.ztx:Option AV:=some uU
def Tryz.zAV:List (SB×Bool):= []
def Tryz.zyA:List gu:= [
 ⟨.ret,[2],(some (.ay [.func 115 [] [.ptr 1 0,.ptr 2 0],.ay []])),⟨.ay [.ptr 1 0],[(1,[.int .i64 (.lit 2)]),(2,[.int .u64 (aj 2)])],[],0,[1,2]⟩⟩,
 ⟨.normal,[0,2,3,10,11,12],(some (.ay [.func 115 [] [.ptr 1 0,.ptr 2 0],.ay []])),⟨.ay [.sx 0 ((ah 0)) 3 [((.lit 0),3)],.ptr 1 0,.ptr 2 0,.sx 0 ((ah 0)) 3 [((.lit 0),3)],.int .i64 (ah 0),.int .i64 (.lit 1)],[(1,[.int .i64 (.lit 0)]),(2,[.int .u64 (.bin .add .u64 (aj 2) (aW 4))])],[],0,[1,2]⟩⟩,
 ⟨(.exit 0),[2],(some (.ay [.func 115 [] [.ptr 1 0,.ptr 2 0],.ay []])),⟨.ay [.ptr 1 0],[(1,[.int .i64 (.lit 0)]),(2,[.int .u64 (aj 2)])],[],0,[1,2]⟩⟩]
def Tryz.zyz:List (List (SB×Bool)×Nat):= [
 ([((.cmp .lss (.lit 0) (ah 0)),true),((.cmp .lss (aW 4) (.lit 1)),true)],0),
 ([((.cmp .lss (.lit 0) (ah 0)),true),((.cmp .lss (aW 4) (.lit 1)),false),((.cmp .gtr (.bin .sub .u64 (aW 4) (.lit 1)) (.bin .sub .u64 (.lit 18446744073709551615) (aj 3))),true)],0),
 ([((.cmp .lss (.lit 0) (ah 0)),true),((.cmp .lss (aW 4) (.lit 1)),false),((.cmp .gtr (.bin .sub .u64 (aW 4) (.lit 1)) (.bin .sub .u64 (.lit 18446744073709551615) (aj 3))),false)],1),
 ([((.cmp .lss (.lit 0) (ah 0)),false)],2)]
theorem Tryz.zAU:(fG prog (bB zpj) (fK ZE) (fJ ZF) 100000 (.code (bJ prog [0,0,1,0,1,1,1,1,84]) [0,0,1,0,1,1,1,1,84] 53 (bO 53 GQ ztx) (bn 0 ztw) (fO zyA 0))).ways zAV=some zyz:=by kernel_rfl
theorem Tryz.zEf:(bD ztw&&zag zpj&&fZ ZE&&gq ZF&&fP GQ&&gL zyA&&fI 53 GQ&&Nat.ble 53 bM&&gK ztx)=true:=by kernel_rfl
def Tryz.zpi:List aG:= []
def Tryz.ztu:List Sh:=F5 (.lit 0) [wS 3 4 0,wS 5 6 1]
def Tryz.GN:List (Nat×AV):=Av (ah 1) [(ah 1,3),(.bin .sub .i64 (ah 1) (.lit 1),4)]
def Tryz.ZB:List dD:= []
def Tryz.ZC:List dX:= []
def Tryz.ztv:Option AV:=some uU
def Tryz.zAT:List (SB×Bool):= [(.cmp .lss (ah 1) (ah 0),true),(.cmp .gtr (ah 1) (.lit 0),true)]
def Tryz.zyy:List gu:= [
 ⟨.ret,[2],(some (.ay [.func 115 [] [.ptr 1 0,.ptr 2 0],.ay []])),⟨.ay [.ptr 1 0],[(1,[.int .i64 (.lit 2)]),(2,[.int .u64 (aj 2)])],[],0,[1,2]⟩⟩,
 ⟨.normal,[0,2,3,10,11,12],(some (.ay [.func 115 [] [.ptr 1 0,.ptr 2 0],.ay []])),⟨.ay [.sx 0 ((ah 0)) 3 [((ah 1),3),((.bin .sub .i64 (ah 1) (.lit 1)),4)],.ptr 1 0,.ptr 2 0,.sx 0 ((ah 0)) 3 [((ah 1),3),((.bin .sub .i64 (ah 1) (.lit 1)),4)],.int .i64 (ah 0),.int .i64 (.bin .add .i64 (ah 1) (.lit 1))],[(1,[.int .i64 (.lit 0)]),(2,[.int .u64 (.bin .add .u64 (aj 2) (aW 4))])],[],0,[1,2]⟩⟩]
def Tryz.zyx:List (List (SB×Bool)×Nat):= [
 ([((.cmp .lss (aW 4) (.lit 1)),true)],0),
 ([((.cmp .lss (aW 4) (.lit 1)),false),((.cmp .gtr (.bin .sub .u64 (aW 4) (.lit 1)) (.bin .sub .u64 (.lit 18446744073709551615) (aj 3))),true)],0),
 ([((.cmp .lss (aW 4) (.lit 1)),false),((.cmp .gtr (.bin .sub .u64 (aW 4) (.lit 1)) (.bin .sub .u64 (.lit 18446744073709551615) (aj 3))),false),(.var 1,true),(.var 0,false)],0),
 ([((.cmp .lss (aW 4) (.lit 1)),false),((.cmp .gtr (.bin .sub .u64 (aW 4) (.lit 1)) (.bin .sub .u64 (.lit 18446744073709551615) (aj 3))),false),(.var 1,true),(.var 0,true)],1),
 ([((.cmp .lss (aW 4) (.lit 1)),false),((.cmp .gtr (.bin .sub .u64 (aW 4) (.lit 1)) (.bin .sub .u64 (.lit 18446744073709551615) (aj 3))),false),(.var 1,false)],1)]
theorem Tryz.zAS:(fG prog (bB zpi) (fK ZB) (fJ ZC) 100000 (.code (bJ prog [0,0,1,0,1,1,1,1,84]) [0,0,1,0,1,1,1,1,84] 53 (bO 53 GN ztv) (bn 0 ztu) (fO zyy 0))).ways zAT=some zyx:=by kernel_rfl
theorem Tryz.zEe:(bD ztu&&zag zpi&&fZ ZB&&gq ZC&&fP GN&&gL zyy&&fI 53 GN&&Nat.ble 53 bM&&gK ztv)=true:=by kernel_rfl
def Tryz.zph:List aG:= []
def Tryz.zts:List Sh:=F5 (.lit 0) []
def Tryz.GL:List (Nat×AV):=Av (ah 1) []
def Tryz.Zz:List dD:= []
def Tryz.ZA:List dX:= []
def Tryz.ztt:Option AV:=some uU
def Tryz.zAR:List (SB×Bool):= [(.cmp .lss (ah 1) (ah 0),false)]
def Tryz.zyw:List gu:= [
 ⟨(.exit 0),[2],(some (.ay [.func 115 [] [.ptr 1 0,.ptr 2 0],.ay []])),⟨.ay [.ptr 1 0],[(1,[.int .i64 (.lit 0)]),(2,[.int .u64 (aj 2)])],[],0,[1,2]⟩⟩]
def Tryz.zyv:List (List (SB×Bool)×Nat):= [
 ([], 0)]
theorem Tryz.zAQ:(fG prog (bB zph) (fK Zz) (fJ ZA) 100000 (.code (bJ prog [0,0,1,0,1,1,1,1,84]) [0,0,1,0,1,1,1,1,84] 53 (bO 53 GL ztt) (bn 0 zts) (fO zyw 0))).ways zAR=some zyv:=by kernel_rfl
theorem Tryz.zEd:(bD zts&&zag zph&&fZ Zz&&gq ZA&&fP GL&&gL zyw&&fI 53 GL&&Nat.ble 53 bM&&gK ztt)=true:=by kernel_rfl
def Tryz.ztr:List aG:= []
def Tryz.zyt:List Sh:=F5 (.lit 0) []
def Tryz.H7:List (Nat×AV):= [(2,.ptr 1 0)]
def Tryz.zpf:List dD:= []
def Tryz.zpg:List dX:= []
def Tryz.zyu:Option AV:=some uU
def Tryz.zEc:List (SB×Bool):= []
def Tryz.UD:List gu:= [
 ⟨.ret,[2],(some (.ay [.func 115 [] [.ptr 1 0,.ptr 2 0],.ay []])),⟨.ay [.ptr 1 0],[(1,[.int .i64 (.lit 0)]),(2,[.int .u64 (aj 2)])],[],0,[1,2]⟩⟩]
def Tryz.UC:List (List (SB×Bool)×Nat):= [
 ([], 0)]
theorem Tryz.zEb:(fG prog (bB ztr) (fK zpf) (fJ zpg) 100000 (.code (bJ prog [1,1,1,1,1,84]) [1,1,1,1,1,84] 53 (bO 53 H7 zyu) (bn 0 zyt) (fO UD 0))).ways zEc=some UC:=by kernel_rfl
theorem Tryz.zFB:(bD zyt&&zag ztr&&fZ zpf&&gq zpg&&fP H7&&gL UD&&fI 53 H7&&Nat.ble 53 bM&&gK zyu)=true:=by kernel_rfl
open Go.RowKit
theorem Tryz.mixed:prog.follows .mixedOrders=true:=by kernel_rfl
section
variable {r:Tryz.Rg} {is:List Int} {bs:List Bool} {vs:List Value}
end
theorem Tryz.Aj {ρ:Val} {i n:Nat} (h0:0≤ρ.i i) (h1:ρ.i i<18446744073709551616):SE.den ρ (.aQ [⟨i,0,18446744073709551615,0,n,0⟩] 0)=ρ.i i%2^n:=by
 obtain ⟨x,hx⟩:=yaT h0;simp only [SE.den,aN,aO.den,hx,ya0,ycr,ycS,ydg];rw [hx] at h1;have e:max 0 (min x 18446744073709551615)=x:=by omega
 rw [e];rfl
end Go.Proofs
namespace Go.Proofs
open Go.Dw Go.RowKit
structure Tryz.Sg where
 aP:Int
 len:Int
 wr:Bool
deriving DecidableEq
def Tryz.Sg.cells (x:Sg):List Value:= [.int .u64 x.aP,.int .u32 x.len,.bool x.wr]
def Tryz.dV (l:List Sg):List Value:=l.flatMap Sg.cells
def Tryz.Sg.ok (x:Sg):Prop:=0≤x.aP∧x.aP<18446744073709551616∧0≤x.len∧x.len<4294967296
theorem Tryz.MN (x:Sg) (r:List Sg):dV (x::r)= .int .u64 x.aP:: .int .u32 x.len:: .bool x.wr::dV r:=rfl
theorem Tryz.CS (l:List Sg):(dV l).length=3*l.length:=by
 induction l with
 | nil=>rfl
 | cons x r ih=>
  rw [MN];simp only [ya6,ih];omega
theorem Tryz.CX (l:List Sg) (i:Nat) (hi:i<l.length):(dV l)[3*i]? =some (.int .u64 l[i].aP)∧(dV l)[3*i+1]? =some (.int .u32 l[i].len)∧(dV l)[3*i+2]? =some (.bool l[i].wr):=by
 induction l generalizing i with
 | nil=>simp at hi
 | cons x r ih=>
  cases i with
  | zero=>exact ⟨rfl,rfl,rfl⟩
  | succ i=>
   have h:=ih i (by simpa using hi);rw [MN,show 3*(i+1)=3*i+1+1+1 by omega,show 3*i+1+1+1+1=(3*i+1)+1+1+1 by omega,show 3*i+1+1+1+2=(3*i+2)+1+1+1 by omega];simp only [yaQ,ybB];exact h
theorem Tryz.M5 (l:List Sg): ∀v∈dV l,v.oneCell'=true:=fun v hv=>by
 simp only [dV,List.mem_flatMap,Sg.cells,yad,yag,yaB] at hv;obtain ⟨x,_,rfl|rfl|rfl⟩:=hv<;>rfl
theorem Tryz.Db {w:World} {R o:Nat} {l:List Sg} (h:w.rangeAt R o (dV l)) (k:Nat) (hk:k<l.length):w.rangeAt R (o+3*k) l[k].cells:=fun j v hv=>by
 obtain ⟨h0,h1,h2⟩:=CX l k hk
 match j,hv with
 | 0,hv=>cases hv;exact h _ _ h0
 | 1,hv=>cases hv;have:=h _ _ h1;rwa [←ybf] at this
 | 2,hv=>cases hv;have:=h _ _ h2;rwa [←ybf] at this
 | j+3,hv=>cases hv
def Tryz.aX (A:Nat→Prop) (w:World) (v:Value) (l:List Sg):Prop:=
 ∃ (sa:Option Addr) (c:Nat),v= .slice sa l.length c∧(∀x∈l,x.ok)∧(l= []∨ ∃R o,sa=some ⟨R,o,none⟩∧ ¬A R∧w.rangeAt R o (dV l))
theorem Tryz.rZ {w:World} {R o:Nat} {l:List Sg} (h:w.rangeAt R o (dV l)) (h0:l≠ []):R<w.heap.size:=by
 have h1:0<(dV l).length:=by
  rw [CS];have:=ybq.2 h0;omega
 exact World.block_lt_of_cell? w ⟨R,o+0,none⟩ (h 0 _ (yao h1))
theorem Tryz.aX.kept {A:Nat→Prop} {w w':World} {v:Value} {l:List Sg} (h:aX A w v l) (hk: ∀k,k<w.heap.size→ ¬A k→w'.heap[k]? =w.heap[k]?):aX A w' v l:=by
 obtain ⟨sa,c,rfl,hl,hr⟩:=h;refine ⟨sa,c,rfl,hl,?_⟩;rcases hr with h0|⟨R,o,rfl,hn,hr⟩
 ·exact Or.inl h0
 ·by_cases h0:l= []
  ·exact Or.inl h0
  ·exact Or.inr ⟨R,o,rfl,hn,iR hr (hk R (rZ hr h0) hn)⟩
theorem Tryz.aX.below {A:Nat→Prop} {w w':World} {v:Value} {l:List Sg} (h:aX A w v l) (hb:Below w.heap.size w w'):aX A w' v l:=h.kept (fun k hk _=>hb.block k hk)
theorem Tryz.aX.one {A:Nat→Prop} {w:World} {v:Value} {l:List Sg} (h:aX A w v l):v.oneCell'=true:=by
 obtain ⟨sa,c,rfl,_⟩:=h;rfl
structure Tryz.SS where
 ev:Bool
 tb:Bool
 pk:Bool
 nx:Int
 us:Int
 tk:List (Int×List Sg)
 ph:Nat
 op:Int
 nn:Bool
 hd:Int
 sg:List Sg
 wr:Int
 it:Bool
 dn:Bool
 br:Bool
def Tryz.sK (S M B b:Nat):Prop:=b=S∨b=M∨b=B
theorem Tryz.zFO {S:Nat→Prop} {a b:World} (h:Mv S a b):Dw.Mv S a b:=⟨h.os,h.tape,h.output,h.size,h.block⟩
def Tryz.jQ (P L Bs B N:Nat) (gs:List (Nat→Int)):bg where
 fact k _ F w:=F P∧F L∧F Bs∧F B∧ ∃g,gs[k]? =some g∧GM w P L Bs B N g
 loc:=fun k _ _ F w w' h _ hb hs=>by
  obtain ⟨h1,h2,h3,h4,g,h5,h6⟩:=h;exact ⟨h1,h2,h3,h4,g,h5,h6.kept (fun b _ hb'=>by rcases hb' with rfl|rfl|rfl|rfl<;>exact hb _ (by assumption)) hs⟩
theorem Tryz.mW {P L Bs B N:Nat} {g:Nat→Int} {gs:List (Nat→Int)} {bl:List (Nat×Nat)} {w:World} (h:GM w P L Bs B N g) (hn: ∀b,b=P∨b=L∨b=Bs∨b=B→ ¬Mine (aT bl) b):(jQ P L Bs B N (g::gs)).G 0 (aT bl) w:=
 ⟨fun b=>b=P∨b=L∨b=Bs∨b=B,fun b hb=>⟨by rcases hb with rfl|rfl|rfl|rfl;exact h.pl;exact h.ll;exact h.sl;exact h.bl,hn b hb⟩,.inl rfl,.inr (.inl rfl),.inr (.inr (.inl rfl)),.inr (.inr (.inr rfl)),g,rfl,h⟩
theorem Tryz.nM {P L Bs B N k:Nat} {gs:List (Nat→Int)} {j:J} {w:World} (h:(jQ P L Bs B N gs).G k j w): ∃g,gs[k]? =some g∧GM w P L Bs B N g:=by
 obtain ⟨F,_,_,_,_,_,h⟩:=h;exact h
theorem Tryz.fe {w:World} {S:Nat} {ρ:Val} {j:J} {K:Nat→Prop} {g:bg} {row:List AV} {vals:List Value} (h:Own w S vals) (hr:RL ρ j row vals) (hK:K S):wQ ρ j (iT w K g) (S,0) (.own row):=by
 obtain ⟨arr,e,h1,h2⟩:=h;exact ⟨hK,rfl,vals,arr,e,h1,hr,h2⟩
theorem Tryz.zxN {P L Bs B N k:Nat} {g:Nat→Int} {w:World} (st:GM w P L Bs B N g) (hN:N≤1048576) (hk:k=1∨k=2∨k=4∨k=8) {a:Int} (h0:0≤a) (hin:a+k≤N):
  Calls prog 53 #[.pointer (some ⟨P,0,none⟩),.int .u64 a,.int .i64 k] w fun e w'=>e= .returned (.tuple #[.int .u64 (ax g a.toNat k),.int .i64 0])∧Below w.heap.size w w':=by
 have:=zDG P L Bs B N a.toNat k g w st hN hk (by omega)
 rwa [ybz h0] at this
theorem Tryz.zy2 {P L Bs B N k:Nat} {g:Nat→Int} {w:World} (st:GM w P L Bs B N g) (hN:N≤1048576) (hk:k=1∨k=2∨k=4∨k=8) {a:Int} (v:Int) (h0:0≤a) (hin:a+k≤N):
  Calls prog 25 #[.pointer (some ⟨P,0,none⟩),.int .u64 a,.int .i64 k,.int .u64 v] w fun e w'=>e= .returned (.int .i64 0)∧GM w' P L Bs B N (dS g a.toNat k v)∧Dw.Mv (· =B) w w':=by
 have:=zrt P L Bs B N a.toNat k v g w st hN hk (by omega);rw [ybz h0] at this;exact yaq this fun e w' ⟨h1,h2,h3⟩=>⟨h1,h2,zFO h3⟩
def Tryz.JK (k w i:Int):Value:= .agg #[.int .i64 k,.int .i64 w,.int .i64 i]
theorem Tryz.qI {ρ:Val} {j:J} {K:Nat→Prop} {w0 w:World}: ∀ {rows:List (Nat×List AV)},Jj ρ j K w0 w rows→ ∀ {n:Nat} {row:List AV},(n,row)∈rows→ ∀L,j n=some L→Row w L (AV.aI ρ (dZ j) row)∧((w0.heap.size≤L.blk∨K L.blk)→L.off=0→Own w L.blk (AV.aI ρ (dZ j) row))
 | [], _,_,_,h=>by cases h
 | x::l,ho,n,row,h=>by
  rcases yad.1 h with rfl|h
  ·exact ho.1
  ·exact qI ho.2 h
theorem Tryz.aX.none {A:Nat→Prop} {w:World}:aX A w (.slice none 0 0) []:=⟨Option.none,0,rfl,fun _ h=>(by cases h),Or.inl rfl⟩
theorem Tryz.Vm {g:Nat→Int} (hg: ∀j,0≤g j∧g j<256) (a:Nat):0≤ax g a 2∧ax g a 2<65536:=lg g hg a 2
theorem Tryz.FV:(0:Int)≤0∧(0:Int)<65536:=by decide
theorem Tryz.z32:(0:Int)≤0∧(0:Int)<4294967296:=by decide
def Tryz.jA (pw:Bool) (sum:Int):List Sg→Int
 | [] => if 4294967296≤sum then 2 else 0
 | x::r=>if x.len<1∨18446744073709551615-x.aP<x.len-1∨(pw=true∧x.wr=false) then 2 else jA x.wr (sum+x.len) r
def Tryz.gH (l:List Sg):Int:=if 64<l.length then 3 else jA false 0 l
theorem Tryz.jy {P:Program} {c c':Code} {Q:Exit→Act→World→Prop} {a:Act} {w:World} (e:c=c') (h:c'.wp P Q a w):c.wp P Q a w:=e▸h
structure Tryz.EC (l:List Sg) (sa:Option Addr) (c E C:Nat) (w0:World) (k:Nat) (a:Act) (w:World):Prop where
 kl:k≤l.length
 size:a.tmps.size=53
 s0:a.tmps.getD 0 undef= .slice sa l.length c
 s2:a.tmps.getD 2 undef= .pointer (some ⟨E,0,none⟩)
 s3:a.tmps.getD 3 undef= .pointer (some ⟨C,0,none⟩)
 s10:a.tmps.getD 10 undef= .slice sa l.length c
 s11:a.tmps.getD 11 undef= .int .i64 l.length
 s12:a.tmps.getD 12 undef= .int .i64 k
 eT: ∃d,a.defers= [d]∧ ∃args cap,d.target= .fn (.func 115) cap∧d.args=args∧(args++cap).toList= [.pointer (some ⟨E,0,none⟩),.pointer (some ⟨C,0,none⟩)]
 mv:Dw.Mv (fun b=>b=E∨b=C) w0 w
 sum: ∃pw s,Own w E [.int .i64 0]∧Own w C [.int .u64 s]∧0≤s∧s≤k*4294967296∧jA pw s (l.drop k)=jA false 0 l∧(k=0→pw=false)∧(∀i,k=i+1→ ∃h:i<l.length,pw=l[i].wr)
def Tryz.fQ (n k s:Int) (x y:Sg) (sl:Value):Val:=cB [n,k,s,x.aP,x.len,y.aP,y.len] [x.wr,y.wr] [sl]
theorem Tryz.wG {ρ:Val} {j:J} {E C:Nat} {ds:List Deferred} (h:uL ρ j (some uU) ds) (h1:j 1=some ⟨E,0,0,none⟩) (h2:j 2=some ⟨C,0,0,none⟩):
  ∃ d,ds= [d]∧ ∃args cap,d.target= .fn (.func 115) cap∧d.args=args∧(args++cap).toList= [.pointer (some ⟨E,0,none⟩),.pointer (some ⟨C,0,none⟩)]:=by
 cases ds with
 | nil=>cases h
 | cons d ds=>
  obtain ⟨g,args,rest,cap,e1,e2,e3,e4⟩:=h;unfold uU at e1;cases e1;cases ds with
  | cons d' ds'=>obtain ⟨_,_,_,_,e,_⟩:=e4;cases e
  | nil=>
   refine ⟨d,rfl,d.args,cap,e2,rfl,?_⟩;obtain ⟨v1,m1,q1,⟨L1,r1,rfl⟩,v2,m2,rfl,⟨L2,r2,rfl⟩,q3⟩:=e3;rw [h1] at r1;cases r1;rw [h2] at r2;cases r2;have q3:m2= []:=q3;rw [q1,q3]
theorem Tryz.EI {ρ:Val} {j:J} {E C:Nat} {ds:List Deferred} (h1:j 1=some ⟨E,0,0,none⟩) (h2:j 2=some ⟨C,0,0,none⟩)
  (h: ∃d,ds= [d]∧ ∃args cap,d.target= .fn (.func 115) cap∧d.args=args∧(args++cap).toList= [.pointer (some ⟨E,0,none⟩),.pointer (some ⟨C,0,none⟩)]):uL ρ j (some uU) ds:=by
 obtain ⟨d,rfl,args,cap,e1,rfl,e3⟩:=h;exact ⟨_,_,_,cap,rfl,e1,by rw [e3];exact af (gM h1) (af (gM h2) RL.nil),rfl⟩
theorem Tryz.zm4 {w:World} {R o:Nat} {vs:List Value} (h:w.rangeAt R o vs) (h0:vs≠ []): ∃(arr:Array Value) (e:TypeId) (fr:Nat×Nat),w.heap[R]? =some (.cells arr e fr)∧o+vs.length≤arr.size∧ ∀(i:Nat) (y:Value),vs[i]? =some y→arr[o+i]? =some y:=by
 have hc: ∀(i:Nat) (y:Value),vs[i]? =some y→ ∃arr e fr,w.heap[R]? =some (.cells arr e fr)∧arr[o+i]? =some y:=fun i y hy=>by
  have:=h i y hy;unfold World.cell? at this;split at this
  ·rename_i arr e fr he;exact ⟨arr,e,fr,he,this⟩
  ·cases this
 obtain ⟨y0,hy0⟩: ∃y,vs[0]? =some y:=⟨vs[0]'(ybq.2 h0),yao (ybq.2 h0)⟩;obtain ⟨arr,e,fr,he,_⟩:=hc 0 y0 hy0;refine ⟨arr,e,fr,he,?_,fun i y hy=> ?_⟩
 ·have hl:vs.length-1<vs.length:=by have:=ybq.2 h0;omega
  obtain ⟨arr',e',fr',he',hy'⟩:=hc (vs.length-1) _ (yao hl);rw [he] at he';cases he';have:=(yap.1 hy').1;omega
 ·obtain ⟨arr',e',fr',he',hy'⟩:=hc i y hy;rw [he] at he';cases he';exact hy'
theorem Tryz.oG {w:World} {X o:Nat} {ρ:Val} {j:J} {K:Nat→Prop} {g:bg} {row:List AV} {vals:List Value} (h:w.rangeAt X o vals) (h0:vals≠ []) (hr:RL ρ j row vals) (hK: ¬K X):wQ ρ j (iT w K g) (X,o) (.ro row):=by
 obtain ⟨arr,e,fr,h1,h2,h3⟩:=zm4 h h0;exact ⟨hK,vals,arr,e,fr,h1,hr,by rw [←RL.length hr];exact h2,h3⟩
structure Tryz.JE (E C:Nat) (w0:World) (e s:Int) (a:Act) (w:World):Prop where
 size:a.tmps.size=53
 s2:a.tmps.getD 2 undef= .pointer (some ⟨E,0,none⟩)
 eT: ∃d,a.defers= [d]∧ ∃args cap,d.target= .fn (.func 115) cap∧d.args=args∧(args++cap).toList= [.pointer (some ⟨E,0,none⟩),.pointer (some ⟨C,0,none⟩)]
 mv:Dw.Mv (fun b=>b=E∨b=C) w0 w
 oE:Own w E [.int .i64 e]
 oC:Own w C [.int .u64 s]
theorem Tryz.fV {ρ:Val} {lc:Nat→Dw.Loc} {L:List Value} {vs:List AV} (h:Ending.returned (.tuple L.toArray)= .returned ((AV.ay vs).val ρ lc)):L=AV.aI ρ lc vs:=by
 injection h with h;unfold AV.val at h;injection h with h;simpa using yaI Array.toList h
theorem Tryz.zAW {l:List Sg} {sa:Option Addr} {c E C:Nat} {w0:World} {k:Nat} {a:Act} {w:World} (h:EC l sa c E C w0 k a w) (hl:l.length≤64) (hok: ∀x∈l,x.ok) (hne:E≠C) (hE:E<w0.heap.size) (hC:C<w0.heap.size)
    (hr:l= []∨ ∃R o,sa=some ⟨R,o,none⟩∧R≠E∧R≠C∧w0.rangeAt R o (dV l)):
    (bJ prog [0,0,1,0,1,1,1,1,84]).wp prog (fun ex a' w'=>match ex with
      | .normal=>k<l.length∧EC l sa c E C w0 (k+1) a' w'
      | ex=>(ex= .ret∧jA false 0 l=2∧ ∃s,JE E C w0 2 s a' w')∨(ex= .exit 0∧ ∃s,0≤s∧s<18446744073709551616∧jA false 0 l=(if 4294967296≤s then 2 else 0)∧JE E C w0 0 s a' w')) a w:=by
  obtain ⟨kl,size,s0,s2,s3,s10,s11,s12,eT,mv,pw,s,oE,oC,hs0,hs1,hsw,hp0,hp1⟩:=h;have hEw:E<w.heap.size:=Eo oE;have hCw:C<w.heap.size:=Eo oC;have hK: ∀b,(b=E∨b=C)→b<w.heap.size:=fun b hb=>by rcases hb with rfl|rfl<;>assumption
  by_cases hkl:k<l.length
  · rcases hr with h0|⟨R,o,rfl,hRE,hRC,hr⟩
    · rw [h0] at hkl;simp at hkl
    have Kn:=rZ hr (by intro h0;rw [h0] at hkl;simp at hkl);have hrw:w.rangeAt R o (dV l):=iR hr (mv.block R Kn (by rintro (e|e)<;>contradiction));have hx:=Db hrw k hkl;have hxo:=hok l[k] (yaS hkl);rw [ycl hkl] at hsw;have Kj: ¬(R=E∨R=C):=by rintro (e|e)<;>contradiction
    generalize hX:l[k]=X at hx hxo hsw;obtain ⟨TN,xa1,TP,TQ⟩:=hxo;rw [jA] at hsw;have fin: ∀ {a':Act} {w':World} {ρ:Val} {j:J},a'.tmps.size=53→uL ρ j (some uU) a'.defers→j 1=some ⟨E,0,0,none⟩→j 2=some ⟨C,0,0,none⟩→Dw.Mv (fun b=>b=E∨b=C) w w'→
        Own w' E [.int .i64 0]→Own w' C [.int .u64 (s+X.len)]→
        ([0,2,3,10,11,12].map fun t=>a'.tmps.getD t undef)= [.slice (some ⟨R,o,none⟩) l.length c,.pointer (some ⟨E,0,none⟩),.pointer (some ⟨C,0,none⟩),.slice (some ⟨R,o,none⟩) l.length c,.int .i64 l.length,.int .i64 (k+1)]→
        jA X.wr (s+X.len) (l.drop (k+1))=jA false 0 l→k<l.length∧EC l (some ⟨R,o,none⟩) c E C w0 (k+1) a' w':=fun {a' w' ρ j} q1 q2 q3 q4 q5 q6 q7 q8 q9=>by
      simp only [yaJ,yaZ,yaM,yaN] at q8;obtain ⟨t0,t2,t3,t10,t11,t12⟩:=q8;refine ⟨hkl,⟨by omega,q1,t0,t2,t3,t10,t11,by rw [t12];norm_cast,wG q2 q3 q4,mv.trans q5,X.wr,s+X.len,q6,q7,by omega,by push_cast;omega,q9,by omega,fun i hi=> ?_⟩⟩;have:k=i:=by omega
      subst this;exact ⟨hkl,by rw [hX]⟩
    have hden: ∀(n k' s':Int) (x y:Sg) (sl:Value),n=l.length→0≤k'→k'<64→0≤s'→s'<18446744073709551616→x.ok→(ah 0).den (fQ n k' s' x y sl)=l.length∧(ah 1).den (fQ n k' s' x y sl)=k'∧(aj 2).den (fQ n k' s' x y sl)=s'∧(aj 3).den (fQ n k' s' x y sl)=x.aP∧(aW 4).den (fQ n k' s' x y sl)=x.len:=fun n k' s' x y sl h1 h2 h3 h4 h5 h6=>by
      subst h1;exact ⟨dK (by show (0:Int)≤l.length;omega) (by show ((l.length:Nat):Int)<_;omega),dK h2 (by show k'<_;omega),fM h4 h5,fM h6.1 h6.2.1,lU h6.2.2.1 h6.2.2.2⟩
    have BF:X.ok:=⟨TN,xa1,TP,TQ⟩;have hwl:IntKind.wrap .u64 (X.len-1)=(X.len-1)%18446744073709551616:=ZP _;have qB:IntKind.wrap .u64 (18446744073709551615-X.aP)=18446744073709551615-X.aP:=cZ (by omega) (by omega);have hws:IntKind.wrap .u64 (s+X.len)=s+X.len:=cZ (by omega) (by omega);rcases ybm k with hk0|hk0
    · subst hk0;have hpw:=hp0 rfl;subst hpw;obtain ⟨d0,d1,d2,d3,d4⟩:=hden l.length 0 s X X (.slice (some ⟨R,o,none⟩) l.length c) rfl (by omega) (by omega) hs0 (by omega) BF;have hj1:aT [(E,0),(C,0),(R,o)] 1=some ⟨E,0,0,none⟩:=rfl;have hj2:aT [(E,0),(C,0),(R,o)] 2=some ⟨C,0,0,none⟩:=rfl;have hj3:aT [(E,0),(C,0),(R,o)] 3=some ⟨R,o,0,none⟩:=rfl;have hsx:Dw.R (fQ l.length 0 s X X (.slice (some ⟨R,o,none⟩) l.length c)) (aT [(E,0),(C,0),(R,o)]) (ny [(.lit 0,3)]) (.slice (some ⟨R,o,none⟩) l.length c):=⟨rfl,_,_,_,rfl,d0.symm,⟨R,o,_,0,rfl,hj3,rfl,rfl,hkl,rfl⟩,trivial⟩;refine ya3 (iF (ρ:=fQ l.length 0 s X X (.slice (some ⟨R,o,none⟩) l.length c)) (K:=fun b=>b=E∨b=C) (g:=bg.none) (bl:= [(E,0),(C,0),(R,o)]) mixed zAU zEf hK
        ⟨fe oE (af (ai rfl) RL.nil) (.inl rfl),fe oC (af (ai d2) RL.nil) (.inr rfl),oG hx (by unfold Sg.cells;simp) (af (ai d3) (af (ai d4) (af (aU rfl) RL.nil))) Kj,trivial⟩
        ⟨fun _ i b' s' h1 h2 h3=>(by match i,h1,h2 with|0,h1,_=>cases h1;exact hne|1,_,h2=>cases h2;cases h3|i+2,h1,_=>cases h1),fun _ i b' s' h1 h2 h3=>(by match i,h1,h2 with|0,_,h2=>cases h2;cases h3|i+1,h1,_=>cases h1),fun h=>(by cases h),trivial⟩
        fo trivial trivial trivial size (EI hj1 hj2 eT) ?_ (aR.2 trivial)) fun ex a' w' hh=> ?_
      · intro t ht;simp only [GQ,Av,yad,yag,yaB] at ht;rcases ht with rfl|rfl|rfl|rfl|rfl|rfl
        · rw [s0];exact hsx
        · rw [s2];exact gM hj1
        · rw [s3];exact gM hj2
        · rw [s10];exact hsx
        · rw [s11];exact ai d0
        · rw [s12];exact ai rfl
      · obtain ⟨q,hq,hto,lf,hlf,rfl,hsz,j,hdf,he⟩:=hh;have aV:=he.sub _ _ hj1;have aY:=he.sub _ _ hj2;unfold zyz at hq;simp only [yad,yag,yaB] at hq;rcases hq with rfl|rfl|rfl|rfl
        all_goals
          simp only [aH,aR,gZ,fF,bR,iG,aC,d0,d1,d2,d3,d4,hwl,qB,yat,yas,yaN] at hto;cases hlf
        · exact .inl ⟨rfl,by rw [←hsw,yaj (by omega)],_,hsz,by have:=fV he.ret;simpa [AV.aI,AV.val,bE aV] using this,wG hdf aV aY,mv.trans he.mv,(he.rows.1 _ aV).2 (.inr (.inl rfl)) rfl,(he.rows.2.1 _ aY).2 (.inr (.inr rfl)) rfl⟩
        · exact .inl ⟨rfl,by rw [←hsw,yaj (by omega)],_,hsz,by have:=fV he.ret;simpa [AV.aI,AV.val,bE aV] using this,wG hdf aV aY,mv.trans he.mv,(he.rows.1 _ aV).2 (.inr (.inl rfl)) rfl,(he.rows.2.1 _ aY).2 (.inr (.inr rfl)) rfl⟩
        · refine fin hsz hdf aV aY he.mv ((he.rows.1 _ aV).2 (.inr (.inl rfl)) rfl) ?_ ?_ ?_
          · have:=(he.rows.2.1 _ aY).2 (.inr (.inr rfl)) rfl;simpa only [AV.aI,AV.val,den_add,d2,d4,hws] using this
          · have:=fV he.ret;rw [this];simp only [AV.aI,AV.val,bE aV,bE aY,d0,aC];rfl
          · rw [←hsw,yai (by rintro (h|h|⟨h,_⟩);omega;omega;cases h)]
        · omega
    · obtain ⟨i,rfl⟩: ∃i,k=i+1:=⟨k-1,by omega⟩;obtain ⟨hil,hpw⟩:=hp1 i rfl;have hy:=Db hrw i hil;have qC:=hok l[i] (yaS hil);generalize hY:l[i]=Y at hy qC hpw;subst hpw;have hkk:IntKind.wrap .i64 (((i+1:Nat):Int)+1)=((i+1:Nat):Int)+1:=gy (by omega) (by omega);have hk1:IntKind.wrap .i64 (((i+1:Nat):Int)-1)=(i:Int):=by rw [gy (by omega) (by omega)];omega
      obtain ⟨d0,d1,d2,d3,d4⟩:=hden l.length (i+1:Nat) s X Y (.slice (some ⟨R,o,none⟩) l.length c) rfl (by omega) (by omega) hs0 (by omega) BF;have hj1:aT [(E,0),(C,0),(R,o+3*(i+1)),(R,o+3*i)] 1=some ⟨E,0,0,none⟩:=rfl;have hj2:aT [(E,0),(C,0),(R,o+3*(i+1)),(R,o+3*i)] 2=some ⟨C,0,0,none⟩:=rfl;have hj3:aT [(E,0),(C,0),(R,o+3*(i+1)),(R,o+3*i)] 3=some ⟨R,o+3*(i+1),0,none⟩:=rfl;have hj4:aT [(E,0),(C,0),(R,o+3*(i+1)),(R,o+3*i)] 4=some ⟨R,o+3*i,0,none⟩:=rfl;have hsx:Dw.R (fQ l.length (i+1:Nat) s X Y (.slice (some ⟨R,o,none⟩) l.length c)) (aT [(E,0),(C,0),(R,o+3*(i+1)),(R,o+3*i)]) (ny [(ah 1,3),(.bin .sub .i64 (ah 1) (.lit 1),4)]) (.slice (some ⟨R,o,none⟩) l.length c):=⟨rfl,_,_,_,rfl,d0.symm,⟨R,o,_,i+1,rfl,hj3,rfl,d1,hkl,rfl⟩,⟨R,o,_,i,rfl,hj4,rfl,by rw [iG,d1,aC];exact hk1,hil,rfl⟩,trivial⟩;refine ya3 (iF (ρ:=fQ l.length (i+1:Nat) s X Y (.slice (some ⟨R,o,none⟩) l.length c)) (K:=fun b=>b=E∨b=C) (g:=bg.none) (bl:= [(E,0),(C,0),(R,o+3*(i+1)),(R,o+3*i)]) mixed zAS zEe hK
        ⟨fe oE (af (ai rfl) RL.nil) (.inl rfl),fe oC (af (ai d2) RL.nil) (.inr rfl),oG hx (by unfold Sg.cells;simp) (af (ai d3) (af (ai d4) (af (aU rfl) RL.nil))) Kj,oG hy (by unfold Sg.cells;simp) (af (ai (fM qC.1 qC.2.1)) (af (ai (lU qC.2.2.1 qC.2.2.2)) (af (aU rfl) RL.nil))) Kj,trivial⟩
        ⟨fun _ i b' s' h1 h2 h3=>(by match i,h1,h2 with|0,h1,_=>cases h1;exact hne|1,_,h2=>cases h2;cases h3|2,_,h2=>cases h2;cases h3|i+3,h1,_=>cases h1),fun _ i b' s' h1 h2 h3=>(by match i,h1,h2 with|0,_,h2=>cases h2;cases h3|1,_,h2=>cases h2;cases h3|i+2,h1,_=>cases h1),fun h=>(by cases h),fun h=>(by cases h),trivial⟩
        fo trivial trivial trivial size (EI hj1 hj2 eT) ?_ (aH.2 ⟨by rw [fF,d0,d1];simp only [yat];omega,aH.2 ⟨by rw [gZ,d1,aC];simp only [yat];omega,aR.2 trivial⟩⟩)) fun ex a' w' hh=> ?_
      · intro t ht;simp only [GN,Av,yad,yag,yaB] at ht;rcases ht with rfl|rfl|rfl|rfl|rfl|rfl
        · rw [s0];exact hsx
        · rw [s2];exact gM hj1
        · rw [s3];exact gM hj2
        · rw [s10];exact hsx
        · rw [s11];exact ai d0
        · rw [s12];exact ai d1
      · obtain ⟨q,hq,hto,lf,hlf,rfl,hsz,j,hdf,he⟩:=hh;have aV:=he.sub _ _ hj1;have aY:=he.sub _ _ hj2;unfold zyx at hq;simp only [yad,yag,yaB] at hq;rcases hq with rfl|rfl|rfl|rfl|rfl
        all_goals
          simp only [aH,aR,gZ,fF,bR,iG,aC,d0,d1,d2,d3,d4,hwl,qB,yat,yas,yaN] at hto;cases hlf
        · exact .inl ⟨rfl,by rw [←hsw,yaj (by omega)],_,hsz,by have:=fV he.ret;simpa [AV.aI,AV.val,bE aV] using this,wG hdf aV aY,mv.trans he.mv,(he.rows.1 _ aV).2 (.inr (.inl rfl)) rfl,(he.rows.2.1 _ aY).2 (.inr (.inr rfl)) rfl⟩
        · exact .inl ⟨rfl,by rw [←hsw,yaj (by omega)],_,hsz,by have:=fV he.ret;simpa [AV.aI,AV.val,bE aV] using this,wG hdf aV aY,mv.trans he.mv,(he.rows.1 _ aV).2 (.inr (.inl rfl)) rfl,(he.rows.2.1 _ aY).2 (.inr (.inr rfl)) rfl⟩
        · exact .inl ⟨rfl,by rw [←hsw,yaj (.inr (.inr ⟨hto.2.2.1,hto.2.2.2⟩))],_,hsz,by have:=fV he.ret;simpa [AV.aI,AV.val,bE aV] using this,wG hdf aV aY,mv.trans he.mv,(he.rows.1 _ aV).2 (.inr (.inl rfl)) rfl,(he.rows.2.1 _ aY).2 (.inr (.inr rfl)) rfl⟩
        · refine fin hsz hdf aV aY he.mv ((he.rows.1 _ aV).2 (.inr (.inl rfl)) rfl) ?_ ?_ ?_
          · have:=(he.rows.2.1 _ aY).2 (.inr (.inr rfl)) rfl;simpa only [AV.aI,AV.val,den_add,d2,d4,hws] using this
          · have:=fV he.ret;rw [this];simp only [AV.aI,AV.val,bE aV,bE aY,d0,d1,den_add,aC,hkk];rfl
          · rw [←hsw,yai (by rintro (h|h|⟨h,h'⟩);omega;omega;exact absurd (h'.symm.trans hto.2.2.2) (by decide))]
        · refine fin hsz hdf aV aY he.mv ((he.rows.1 _ aV).2 (.inr (.inl rfl)) rfl) ?_ ?_ ?_
          · have:=(he.rows.2.1 _ aY).2 (.inr (.inr rfl)) rfl;simpa only [AV.aI,AV.val,den_add,d2,d4,hws] using this
          · have:=fV he.ret;rw [this];simp only [AV.aI,AV.val,bE aV,bE aY,d0,d1,den_add,aC,hkk];rfl
          · rw [←hsw,yai (by rintro (h|h|⟨h,h'⟩);omega;omega;exact absurd (h.symm.trans hto.2.2) (by decide))]
  · have hkk:k=l.length:=by omega
    subst hkk;rw [List.drop_length,jA] at hsw;have d0:(ah 0).den (fQ l.length l.length s ⟨0,0,false⟩ ⟨0,0,false⟩ (.slice sa l.length c))=l.length:=dK (by show (0:Int)≤l.length;omega) (by show ((l.length:Nat):Int)<_;omega);have d1:(ah 1).den (fQ l.length l.length s ⟨0,0,false⟩ ⟨0,0,false⟩ (.slice sa l.length c))=l.length:=dK (by show (0:Int)≤l.length;omega) (by show ((l.length:Nat):Int)<_;omega);have d2:(aj 2).den (fQ l.length l.length s ⟨0,0,false⟩ ⟨0,0,false⟩ (.slice sa l.length c))=s:=fM hs0 (by show s<_;omega);have hj1:aT [(E,0),(C,0)] 1=some ⟨E,0,0,none⟩:=rfl;have hj2:aT [(E,0),(C,0)] 2=some ⟨C,0,0,none⟩:=rfl;have hsx:Dw.R (fQ l.length l.length s ⟨0,0,false⟩ ⟨0,0,false⟩ (.slice sa l.length c)) (aT [(E,0),(C,0)]) (ny []) (.slice sa l.length c):=⟨rfl,_,_,_,rfl,d0.symm,trivial⟩;refine ya3 (iF (ρ:=fQ l.length l.length s ⟨0,0,false⟩ ⟨0,0,false⟩ (.slice sa l.length c)) (K:=fun b=>b=E∨b=C) (g:=bg.none) (bl:= [(E,0),(C,0)]) mixed zAQ zEd hK
      ⟨fe oE (af (ai rfl) RL.nil) (.inl rfl),fe oC (af (ai d2) RL.nil) (.inr rfl),trivial⟩
      ⟨fun _ i b' s' h1 h2 h3=>(by match i,h1,h2 with|0,h1,_=>cases h1;exact hne|i+1,h1,_=>cases h1),fun _ i b' s' h1 h2 h3=>(by cases h1),trivial⟩
      fo trivial trivial trivial size (EI hj1 hj2 eT) ?_ (aH.2 ⟨by rw [fF,d0,d1];simp,aR.2 trivial⟩)) fun ex a' w' hh=> ?_
    · intro t ht;simp only [GL,Av,yad,yag,yaB] at ht;rcases ht with rfl|rfl|rfl|rfl|rfl|rfl
      · rw [s0];exact hsx
      · rw [s2];exact gM hj1
      · rw [s3];exact gM hj2
      · rw [s10];exact hsx
      · rw [s11];exact ai d0
      · rw [s12];exact ai d1
    · obtain ⟨q,hq,hto,lf,hlf,rfl,hsz,j,hdf,he⟩:=hh;have aV:=he.sub _ _ hj1;have aY:=he.sub _ _ hj2;unfold zyv at hq;simp only [yad,yag,yaB] at hq;subst hq;cases hlf;refine .inr ⟨rfl,s,hs0,by omega,hsw.symm,hsz,by have:=fV he.ret;simpa [AV.aI,AV.val,bE aV] using this,wG hdf aV aY,mv.trans he.mv,(he.rows.1 _ aV).2 (.inr (.inl rfl)) rfl,?_⟩;have:=(he.rows.2.1 _ aY).2 (.inr (.inr rfl)) rfl;simpa only [AV.aI,AV.val,d2] using this
open Go.Maps Go.Sort
set_option maxRecDepth 100000 in
theorem Tryz.zmO (E C:Nat) (e sum:Int) (u:FrameMode) (w:World) (hE:w.cell? ⟨E,0,none⟩=some (.int .i64 e)) (fE:w.frozen? ⟨E,0,none⟩=false) (hC:w.cell? ⟨C,0,none⟩=some (.int .u64 sum)):
  CallsD prog 115 #[.pointer (some ⟨E,0,none⟩),.pointer (some ⟨C,0,none⟩)] u w fun ed u' w'=>u'=u∧ed= .returned (.tuple #[])∧w'=if e=0∧4294967296≤sum then w.setCell ⟨E,0,none⟩ (.int .i64 2) else w:=by
 refine callsD_of_wp func115 rfl ?_;simp only [ntmps115,yce,ya6,ybO,Nat.reduceAdd,Nat.reduceSub,Array.replicate_succ,Array.replicate_zero,List.push_toArray,List.append_toArray,ydG,yco];by_cases h0:e=0
 ·subst h0;by_cases h1:4294967296≤sum
  ·rw [yaj ⟨rfl,h1⟩];go_wp2;go_end0;exact ⟨rfl,rfl⟩
  ·rw [yai (fun h=>h1 h.2)];go_wp2;go_end0;exact ⟨rfl,rfl⟩
 ·rw [yai (fun h=>h0 h.1)];go_wp2;go_end0;exact ⟨rfl,rfl⟩
theorem Tryz.zsI {w:World} {b:Nat} {v:Value} (h:Own w b [v]):w.cell? ⟨b,0,none⟩=some v∧w.frozen? ⟨b,0,none⟩=false:=by
 obtain ⟨arr,e,h1,h2⟩:=h;exact ⟨by simp [World.cell?,h1,h2 0 v rfl],by simp [World.frozen?,h1]⟩
theorem Tryz.AA (w:World) (cs:List Value) (t:TypeId):Own (w.alloc (.cells cs.toArray t)) w.heap.size cs:=⟨cs.toArray,t,by unfold World.alloc;exact Array.getElem?_push_size,fun i y h=>by rw [yaA];exact h⟩
set_option maxRecDepth 100000 in
theorem Tryz.M4 {A:Nat→Prop} {w:World} {v:Value} {l:List Sg} (h:aX A w v l):
  Calls prog 84 #[v] w fun e w'=>e= .returned (.int .i64 (gH l))∧Below w.heap.size w w':=by
 obtain ⟨sa,c,rfl,hok,hr⟩:=h;unfold gH;by_cases hlen:64<l.length
 ·rw [yaj hlen];have hb0:=(yah w.heap.size w).alloc (yab _) (.cells #[.int .i64 3] 46);go_enter_defers func84,ntmps84;go_wp2;have hE:(w.alloc (.cells #[.int .i64 3] 46)).cell? ⟨w.heap.size,0,none⟩=some (.int .i64 3):=by simp
  simp only [bodyPostD,Leaves];refine ⟨.int .i64 3,?_,rfl,hb0⟩;simp [results,results84,go_sem,hE]
 ·rw [yai hlen];go_enter_defers func84,ntmps84;go_wp2;have o1:=AA w [.int .i64 0] 46;have o2:=AA (w.alloc (.cells #[.int .i64 0] 46)) [.int .u64 0] 29;have hs1:(w.alloc (.cells #[.int .i64 0] 46)).heap.size=w.heap.size+1:=World.size_alloc _ _;rw [hs1] at o2;have o1':Own ((w.alloc (.cells #[.int .i64 0] 46)).alloc (.cells #[.int .u64 0] 29)) w.heap.size [.int .i64 0]:=o1.kept (ybU _ _ _ (by rw [hs1];omega));have hbb:=((yah w.heap.size w).alloc (yab _) (.cells #[.int .i64 0] 46)).alloc (by rw [hs1];omega) (.cells #[.int .u64 0] 29);have hsz:((w.alloc (.cells #[.int .i64 0] 46)).alloc (.cells #[.int .u64 0] 29)).heap.size=w.heap.size+2:=by rw [World.size_alloc,hs1]
  have hr':l= []∨ ∃R o,sa=some ⟨R,o,none⟩∧R≠w.heap.size∧R≠w.heap.size+1∧((w.alloc (.cells #[.int .i64 0] 46)).alloc (.cells #[.int .u64 0] 29)).rangeAt R o (dV l):=by
   rcases hr with h0|⟨R,o,e,_,hr⟩
   ·exact .inl h0
   ·by_cases h0:l= []
    ·exact .inl h0
    ·have hR:=rZ hr h0;exact .inr ⟨R,o,e,by omega,by omega,iR hr (hbb.block R hR)⟩
  generalize (w.alloc (.cells #[.int .i64 0] 46)).alloc (.cells #[.int .u64 0] 29)=W at*;refine jy (c':= .loop (bJ prog [0,0,1,0,1,1,1,1,84])) (by kernel_rfl) ?_;refine xX (fun k a w'=>EC l sa c w.heap.size (w.heap.size+1) W k a w') (fun k=>l.length-k) (fun k a w' hI=>ya3 (zAW hI (by omega) hok (by omega) (by omega) (by omega) hr') fun ex a' w2 hh=> ?_) 0 _ _ ?_
  ·have leave: ∀ {e s:Int} {a':Act} {w2:World},JE w.heap.size (w.heap.size+1) W e s a' w2→jA false 0 l=(if e=0∧4294967296≤s then 2 else e)→
     bodyPostD prog f84 (fun e w'=>e=Ending.returned (Value.int IntKind.i64 (jA false 0 l))∧RowKit.Below w.heap.size w w') .ret a' w2:=fun {e s a' w2} ho hV=>by
    obtain ⟨d,hd,args,cap,e1,e2,e3⟩:=ho.eT;have hm2:RowKit.Below w.heap.size w w2:=⟨ho.mv.os.trans hbb.os,ho.mv.tape.trans hbb.tape,ho.mv.output.trans hbb.output,yaw hbb.size ho.mv.size,fun k hk=>(ho.mv.block k (by omega) (by omega)).trans (hbb.block k hk)⟩;obtain ⟨cE,fE⟩:=zsI ho.oE;obtain ⟨cC,fC⟩:=zsI ho.oC;simp only [bodyPostD,hd,Leaves];have e3:args++cap= #[.pointer (some ⟨w.heap.size,0,none⟩),.pointer (some ⟨w.heap.size+1,0,none⟩)]:=by rw [←Array.toList_inj];exact e3
    refine ⟨by simp,.func 115,cap,115,#[.pointer (some ⟨w.heap.size,0,none⟩),.pointer (some ⟨w.heap.size+1,0,none⟩)],e1,by rw [e1,e2,←e3];simp [go_sem],?_⟩;refine (zmO w.heap.size (w.heap.size+1) e s .returning w2 cE fE cC).mono ?_;rintro ed u' w9 ⟨rfl,rfl,rfl⟩;simp only [Leaves,settle];have hp:a'.tmps.getD 2 undef= .pointer (some ⟨w.heap.size,0,none⟩):=ho.s2;by_cases h0:e=0∧4294967296≤s
    ·rw [yaj h0] at hV ⊢;have dE2:(w2.setCell ⟨w.heap.size,0,none⟩ (.int .i64 2)).cell? ⟨w.heap.size,0,none⟩=some (.int .i64 2):=ybN _ _ _ (by rw [cE];rfl);refine ⟨.int .i64 2,?_,by rw [hV],hm2.setCell (p:=⟨w.heap.size,0,none⟩) (yab _) _⟩;have hp':a'.tmps[2]?.getD undef= .pointer (some ⟨w.heap.size,0,none⟩):=by simpa using hp
     simp [results,results84,go_sem,hp',dE2]
    ·rw [yai h0] at hV ⊢;refine ⟨.int .i64 e,?_,by rw [hV],hm2⟩;have hp':a'.tmps[2]?.getD undef= .pointer (some ⟨w.heap.size,0,none⟩):=by simpa using hp
     simp [results,results84,go_sem,hp',cE]
   cases ex with
   | normal=>exact ⟨k+1,by omega,hh.2⟩
   | ret=>
    rcases hh with ⟨_,hV,s,ho⟩|⟨h,_⟩
    ·exact leave ho (by rw [hV];simp)
    ·cases h
   | exit i=>
    rcases hh with ⟨h,_⟩|⟨h,s,hq0,hq1,hV,ho⟩
    ·cases h
    ·cases h;simp only [Exit.inBlock,Exit.then,yaj];rename_i K hK;refine hK _ _ (jy (c':=bJ prog [1,1,1,1,1,84]) (by kernel_rfl) ?_);have hj1:aT [(w.heap.size,0),(w.heap.size+1,0)] 1=some ⟨w.heap.size,0,0,none⟩:=rfl;have hj2:aT [(w.heap.size,0),(w.heap.size+1,0)] 2=some ⟨w.heap.size+1,0,0,none⟩:=rfl;have d2:(aj 2).den (fQ 0 0 s ⟨0,0,false⟩ ⟨0,0,false⟩ undef)=s:=fM hq0 hq1;refine ya3 (iF (ρ:=fQ 0 0 s ⟨0,0,false⟩ ⟨0,0,false⟩ undef) (K:=fun b=>b=w.heap.size∨b=w.heap.size+1) (g:=bg.none) (bl:= [(w.heap.size,0),(w.heap.size+1,0)]) mixed zEb zFB (fun b hb=>by rcases hb with rfl|rfl;exact Eo ho.oE;exact Eo ho.oC)
      ⟨fe ho.oE (af (ai rfl) RL.nil) (.inl rfl),fe ho.oC (af (ai d2) RL.nil) (.inr rfl),trivial⟩
      ⟨fun _ i b' s' h1 h2 h3=>(by match i,h1,h2 with|0,h1,_=>cases h1;show w.heap.size≠w.heap.size+1;omega|i+1,h1,_=>cases h1),fun _ i b' s' h1 h2 h3=>(by cases h1),trivial⟩
      fo trivial trivial trivial ho.size (EI hj1 hj2 ho.eT) ?_ (aR.2 trivial)) fun ex a3 w3 hh=> ?_
     ·intro t ht;simp only [H7,yad,yag,yaB] at ht;subst ht;rw [ho.s2];exact gM hj1
     ·obtain ⟨q,hq,hto,lf,hlf,rfl,xH,j,hdf,he⟩:=hh;have aV:=he.sub _ _ hj1;have aY:=he.sub _ _ hj2;unfold UC at hq;simp only [yad,yag,yaB] at hq;subst hq;cases hlf;have oC:=(he.rows.2.1 _ aY).2 (.inr (.inr rfl)) rfl;simp only [AV.aI,AV.val,d2] at oC;refine leave (e:=0) ⟨xH,by have:=fV he.ret;simpa [AV.aI,AV.val,bE aV] using this,wG hdf aV aY,ho.mv.trans he.mv,(he.rows.1 _ aV).2 (.inr (.inl rfl)) rfl,oC⟩ (by rw [hV];simp)
   | _=>rcases hh with ⟨h,_⟩|⟨h,_⟩<;>cases h
  ·exact ⟨yaE _,rfl,rfl,rfl,rfl,rfl,rfl,rfl,⟨_,rfl,_,_,rfl,rfl,rfl⟩,Dw.Mv.refl _ _,false,0,o1',o2,ybW _,by simp,rfl,fun _=>rfl,fun i hi=>by omega⟩
end Go.Proofs
namespace Go.Proofs
open Go.Dw Go.RowKit
def Tryz.sl1 (l:List (SE×Nat)):AV:= .sx 1 (ah 0) 3 l
def Tryz.Te:aG:=⟨17,[.cst 0 none,.int .u64 (.lit 0),.int .i64 (.lit 0)],0,0,0,.ay [.cO,.int .i64 (.lit 0)],0⟩
end Go.Proofs
end
